/- The law's own IsName, Split and qname. -/
import Derived.Test.YtalmkfikfmpmoaaGreatDoorMRfn
import Derived.Test.YtalmkfikfmpmoaaGreatDoorMCu
namespace Go.Proofs.YtalmkfikfmpmoaaGreatDoor
open Go.RowKit

section
variable {W w : World} {L : List Asn}

set_option maxHeartbeats 4000000 in
set_option maxRecDepth 100000 in
theorem refIsName_any (g : Glob w) (l : Bytes) (hl : l.length ≤ 1048576) :
    Calls Tryz.prog 103 #[str l] w fun e w' => e = .returned (.bool (isName l)) ∧ Below w.heap.size w w' := by
  have HG := Lib.hid g
  clear g
  go_enter Tryz.func103, Tryz.ntmps103
  go_wp2_with fail
  refine (refIsText_any HG.out l (by omega)).mono ?_
  rintro e w1 ⟨rfl, hb⟩
  have HX := Lib.hid ((Hold.start w).below hb)
  clear hb
  cases hv : isText l
  · have HN : Hid (isName l = false) := by
      show _ = _
      rw [Bool.eq_false_iff]
      intro h
      rw [isText_name h] at hv
      cases hv
    clear hv
    go_wp2_with fail
    go_ret
    exact ⟨by rw [HN.out]; rfl, HX.out.old⟩
  · have HV := Lib.hid (isText_valid l.length l (Nat.le_refl _) hv)
    clear hv
    cases hem : List.isEmpty l
    · go_wp2_with fail
      go_loopg [3] l.length (fun gk v3 wr => ∃ p : Nat, v3 = .int .i64 p ∧ Hid (Hold w wr []) ∧ gk + p = l.length ∧ Hid (wordN false l = p + wordN false (l.drop p)) ∧ Hid (0 < p → begins (Lib.decodeL l).1 = true))
      case atStart => exact ⟨0, rfl, HX, by omega, by show _ = _; simp, fun h => absurd h (Nat.lt_irrefl 0)⟩
      case round =>
        obtain ⟨p, rfl, HZ, hk, HW, HB⟩ := hrel
        by_cases hp : p < l.length
        · have hp' : (p : Int) < (l.length : Int) := by omega
          have hne : l.drop p ≠ [] := by simp; omega
          have hst := Lib.hid (wordN_step false _ hne)
          have hw1 := Lib.decodeL_width (l.drop p)
          have hle := Lib.decodeL_le _ hne
          have hru := Lib.decodeL_rune (l.drop p)
          rw [List.length_drop] at hle
          have hdec : dec (l.drop p) = Lib.decodeL (l.drop p) := by unfold dec; rw [if_neg hne]
          have HDC := Lib.hid hdec
          have HDL : Hid (p = 0 → Lib.decodeL l = Lib.decodeL (l.drop p)) := fun h => by rw [h]; rfl
          clear hdec
          generalize Lib.decodeL (l.drop p) = d at *
          obtain ⟨r, wd⟩ := d
          have hmv : l.drop (p + wd) = (l.drop p).drop wd := by rw [List.drop_drop]
          have HMV := Lib.hid hmv
          have hex : (⟨l.toArray⟩ : ByteArray).extract p l.length = ⟨(l.drop p).toArray⟩ := extract_tail l p
          have HEX := Lib.hid hex
          have hru : r ≤ 1114111 := hru
          have hle : wd ≤ l.length - p := hle
          have hw1 : 1 ≤ wd := hw1
          clear hne hex hmv
          go_wp2_with fail
          rw [HEX.out]
          refine (decode_any (HG.out.carry HZ.out) (Hold.start _) (l.drop p)).mono ?_
          rw [HDC.out]
          rintro e w3 ⟨rfl, hb⟩
          have HZ3 := Lib.hid (HZ.out.below hb)
          clear hb
          by_cases hp0 : p = 0
          · have hD0 : Hid (Lib.decodeL l = (r, wd)) := HDL.out hp0
            have hpz : ((p : Int) == 0) = true := by simpa using hp0
            have HP0 := Lib.hid hp0
            clear hp0
            go_wp2_with fail
            refine (refBegins_any (r : Int) (by omega) w3).mono ?_
            rintro e w4 ⟨rfl, hb⟩
            have HZ4 := Lib.hid (HZ3.out.below hb)
            clear hb
            cases hbg : begins (r : Int)
            · have HN : Hid (isName l = false) := by show _ = _; simp [isName, hD0.out, hbg]
              clear hbg
              go_wp2_with fail
              go_ret
              exact ⟨by rw [HN.out]; rfl, HZ4.out.old⟩
            · have hgo := begins_goes r hbg
              have HBG := Lib.hid hbg
              have HGO := Lib.hid hgo
              clear hgo hbg
              go_wp2_with fail
              refine (refGoesOn_any (r : Int) (by omega) w4).mono ?_
              rintro e w5 ⟨rfl, hb⟩
              have HZ5 := Lib.hid (HZ4.out.below hb)
              clear hb
              rw [HGO.out]
              go_wp2_with fail
              go_roundg (gk - wd)
              case measure => omega
              case rel => exact ⟨p + wd, by go_num, HZ5, by omega, by show _ = _; rw [HW.out, hst.out, HGO.out, HMV.out]; simp; omega, fun _ => by rw [hD0.out]; exact HBG.out⟩
          · have hpz : ((p : Int) == 0) = false := by simpa using hp0
            go_wp2_with fail
            refine (refGoesOn_any (r : Int) (by omega) w3).mono ?_
            rintro e w4 ⟨rfl, hb⟩
            have HZ4 := Lib.hid (HZ3.out.below hb)
            clear hb
            cases hgo : goesOn (r : Int)
            · have HN : Hid (isName l = false) := by
                show _ = _
                have : wordN false l ≠ l.length := by rw [HW.out, hst.out, hgo]; simp; omega
                simp [isName, this]
              clear hgo
              go_wp2_with fail
              go_ret
              exact ⟨by rw [HN.out]; rfl, HZ4.out.old⟩
            · have HGO := Lib.hid hgo
              clear hgo
              go_wp2_with fail
              go_roundg (gk - wd)
              case measure => omega
              case rel => exact ⟨p + wd, by go_num, HZ4, by omega, by show _ = _; rw [HW.out, hst.out, HGO.out, HMV.out]; simp; omega, fun _ => HB.out (by omega)⟩
        · have hp' : ¬ (p : Int) < (l.length : Int) := by omega
          have HN : Hid (isName l = true) := by
            show _ = _
            have hd : l.drop p = [] := by simp; omega
            have hw : wordN false l = l.length := by rw [HW.out, hd, wordN_nil]; omega
            have h0 : 0 < p := by
              have : l ≠ [] := by intro h; rw [h] at hem; cases hem
              have := List.length_pos_iff.2 this
              omega
            simp [isName, HV.out, HB.out h0, hw]
            intro h; rw [h] at hem; cases hem
          go_wp2_with fail
          go_ret
          exact ⟨by rw [HN.out]; rfl, HZ.out.old⟩
    · have HN : Hid (isName l = false) := by show _ = _; unfold isName; rw [hem]; simp
      go_wp2_with fail
      go_ret
      exact ⟨by rw [HN.out]; rfl, HX.out.old⟩
end
end Go.Proofs.YtalmkfikfmpmoaaGreatDoor

