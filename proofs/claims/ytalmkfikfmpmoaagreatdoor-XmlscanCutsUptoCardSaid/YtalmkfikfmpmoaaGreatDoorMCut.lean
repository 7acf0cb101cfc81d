/- XmlscanCuts, walked. -/
import Derived.Test.YtalmkfikfmpmoaaGreatDoorMAgn
import Derived.Test.YtalmkfikfmpmoaaGreatDoorMCu3
import Derived.Test.YtalmkfikfmpmoaaGreatDoorMRtx
namespace Go.Proofs.YtalmkfikfmpmoaaGreatDoor
open Go.RowKit

section
variable {W w : World} {L : List Asn}

set_option maxHeartbeats 8000000 in
set_option maxRecDepth 100000 in
theorem cuts_any (g : Glob w) (l : List Tok) (v : Value) (k : Nat) (hk : k < 65536) (hv : TokRow w v l) (hl : l.length ≤ 1048576) (hs : ∀ t ∈ l, SmallTok t) :
    Calls Tryz.prog 10 #[v, .int .u16 k] w fun e w' => e = .returned (.bool true) ∧ Below w.heap.size w w' := by
  have HV := Lib.hid hv
  obtain ⟨aa, ac, rfl, hrow⟩ := hv
  have HA := Lib.hid hrow
  have HG := Lib.hid g
  have HS := Lib.hid hs
  clear hrow g hs
  go_enter Tryz.func10, Tryz.ntmps10
  go_wp2_with fail
  refine (write_any HG.out l (.slice aa l.length ac) HV.out hl HS.out).mono ?_
  rintro e w1 ⟨rfl, hb⟩
  have HX := Lib.hid ((Hold.start w).below hb)
  clear hb
  rcases writeR_cases l with ⟨hr, h1, h2, h3, h4⟩ | ⟨en, hne, hr⟩
  · rw [hr]
    obtain ⟨m, hm⟩ : ∃ m, m + 1 = l.length := by
      cases l with
      | nil => simp [okL] at h2
      | cons a l => exact ⟨l.length, rfl⟩
    obtain ⟨t, ht⟩ : ∃ t, l[m]? = some t := ⟨_, List.getElem?_eq_getElem (by omega)⟩
    obtain ⟨h, o, rfl, hcells⟩ := HA.out (by omega)
    obtain ⟨av, hta⟩ := hcells m t ht
    have ck := HX.out.oldCell hta.kind
    have HLAST : Hid (l = l.take m ++ [t]) := by
      show _ = _
      have := List.take_succ_eq_append_getElem (l := l) (i := m) (by omega)
      rw [(List.getElem?_eq_some_iff.1 ht).2, List.take_of_length_le (by omega)] at this
      exact this
    have HSC := Lib.hid fun (D Q : Bytes) (hw : write l = D ++ Q) (hQ : Q ≠ []) (hk7 : t.kind = 7) => scan_cut h2 h3 h4 h1 hw hQ ⟨_, t, HLAST.out, hk7⟩
    have hmb : m + 1 ≤ 4096 := by omega
    rw [← hm]
    have HM := Lib.hid hm
    generalize write l = D at *
    clear hr h2 h3 h4 ht hcells hta hm hl
    cases hem : List.isEmpty D
    · have hDn : ¬ D = [] := by intro h0; rw [h0] at hem; cases hem
      by_cases hk7 : t.kind = 7
      · have hdl : 0 < D.length := List.length_pos_iff.2 (by intro h0; rw [h0] at hem; cases hem)
        have hcl : k % D.length < D.length := Nat.mod_lt _ hdl
        have hcle : k % D.length ≤ D.length := Nat.le_of_lt hcl
        have hex : (⟨D.toArray⟩ : ByteArray).extract 0 (k % D.length) = ⟨(D.take (k % D.length)).toArray⟩ := by rw [extract_part]; simp
        have hsc := HSC.out (D.take (k % D.length)) (D.drop (k % D.length)) (List.take_append_drop _ D).symm (by simp; omega) hk7
        have htl : (D.take (k % D.length)).length = k % D.length := by rw [List.length_take]; omega
        rw [htl] at hsc
        have HSC2 := Lib.hid hsc
        have HEX := Lib.hid hex
        have HTL := Lib.hid htl
        clear hsc hex htl HSC
        go_wp2_with fail
        rw [HEX.out]
        generalize D.take (k % D.length) = C at *
        have hcb : C.length ≤ 32768 := by have := HTL.out; omega
        cases htx : isText C
        · obtain ⟨p, hs⟩ := HSC2.out.1 htx
          have HTX := Lib.hid htx
          clear htx
          refine (scan_any HG.out C (by omega) HX.out (by rw [hs]; simp [wild])).mono ?_
          rw [hs]
          rintro e w2 ⟨rfl, z⟩
          have HZ := Lib.hid z
          clear z hs
          go_wp2_with fail
          refine (refIsText_any (HG.out.carry HZ.out) C (by omega)).mono ?_
          rw [HTX.out]
          rintro e w3 ⟨rfl, hb⟩
          have HZ3 := Lib.hid (HZ.out.below hb)
          clear hb
          go_wp2_with fail
          refine (live_any HG.out HZ3.out).mono ?_
          rintro e w4 ⟨rfl, z⟩
          have HZ4 := Lib.hid z
          clear z
          go_wp2_with fail
          go_ret
          exact ⟨rfl, HZ4.out.old⟩
        · obtain ⟨p, hs, hpc⟩ := HSC2.out.2 htx
          have HTX := Lib.hid htx
          clear htx
          refine (scan_any HG.out C (by omega) HX.out (by rw [hs]; simp [wild])).mono ?_
          rw [hs]
          rintro e w2 ⟨rfl, z⟩
          have HZ := Lib.hid z
          clear z hs
          go_wp2_with fail
          refine (refIsText_any (HG.out.carry HZ.out) C (by omega)).mono ?_
          rw [HTX.out]
          rintro e w3 ⟨rfl, hb⟩
          have HZ3 := Lib.hid (HZ.out.below hb)
          clear hb
          go_wp2_with fail
          refine (live_any HG.out HZ3.out).mono ?_
          rintro e w4 ⟨rfl, z⟩
          have HZ4 := Lib.hid z
          clear z
          go_wp2_with fail
          go_ret
          refine ⟨?_, HZ4.out.old⟩
          first
            | rfl
            | (refine congrArg (fun b => Ending.returned (Value.bool b)) ?_; simp only [decide_eq_true_eq]; omega)
            | (refine congrArg (fun b => Ending.returned (Value.bool b)) ?_; simpa using hpc)
            | (simp; omega)
      · have hk7b : (t.kind == 7) = false := by simpa using hk7
        have hk7c : (t.kind != 7) = true := by simpa using hk7
        have hm0 : (((m : Int) + 1) == 0) = false := by rw [beq_eq_false_iff_ne]; omega
        go_wp2_with fail
        refine (live_any HG.out HX.out).mono ?_
        rintro e w3 ⟨rfl, z⟩
        have HZ3 := Lib.hid z
        clear z
        go_wp2_with fail
        go_ret
        exact ⟨rfl, HZ3.out.old⟩
    · have hDe : D = [] := by simpa using hem
      subst hDe
      go_wp2_with fail
      refine (live_any HG.out HX.out).mono ?_
      rintro e w3 ⟨rfl, z⟩
      have HZ3 := Lib.hid z
      clear z
      go_wp2_with fail
      go_ret
      exact ⟨rfl, HZ3.out.old⟩
  · rw [hr]
    clear hr
    have hne' : ¬ ((en : Int) = 0) := by omega
    go_wp2_with fail
    refine (live_any HG.out HX.out).mono ?_
    rintro e w3 ⟨rfl, z⟩
    have HZ3 := Lib.hid z
    clear z
    go_wp2_with fail
    go_ret
    exact ⟨rfl, HZ3.out.old⟩
end
end Go.Proofs.YtalmkfikfmpmoaaGreatDoor

