/- right: may a token stand in a document, by itself? -/
import Derived.Test.YtahfcgjlcdbnjaaGreatDoorMRgt6
namespace Go.Proofs.YtahfcgjlcdbnjaaGreatDoor
open Go.RowKit

section
variable {W w w' : World} {L : List Asn}

set_option maxHeartbeats 8000000 in
set_option maxRecDepth 100000 in
theorem right_any (g : Glob w) (t : Tok) (hs : SmallTok t) (av : Value) (ha : AttrsAt w av t.attrs) :
    Calls Tryz.prog 133 #[.agg #[.int .i64 t.kind, str t.name, av, str t.text]] w fun e w' => e = .returned (.bool (right isText t)) ∧ Below w.heap.size w w' := by
  by_cases h6 : t.kind = 6 ∧ isText t.text = true ∧ t.attrs = []
  · exact right6_any g t hs av ha h6.1 h6.2.1 h6.2.2
  have HH := Lib.hid h6
  clear h6
  obtain ⟨aa, ac, rfl, hat⟩ := ha
  obtain ⟨n, hn⟩ : ∃ n, n = t.attrs.length := ⟨_, rfl⟩
  rw [← hn] at hat ⊢
  have HN := Lib.hid hn
  have HA := Lib.hid hat
  have HG := Lib.hid g
  have HS := Lib.hid hs
  have hnb : n ≤ 1048576 := by have := hs.many; omega
  have htl := hs.text
  have HX := Lib.hid ((Hold.start w).alloc (.cells #[.int .i64 t.kind, str t.name, .slice aa n ac, str t.text] 38))
  have hmm := @run_makeMap Tryz.prog
  clear hn hat g hs
  go_enter Tryz.func133, Tryz.ntmps133
  go_wp2_with fail
  refine (split_any (HG.out.carry HX.out) t.name HS.out.name).mono ?_
  obtain ⟨sa, sb, hsv⟩ := splitV_some t.name
  rw [hsv]
  rintro e w1 ⟨rfl, hb⟩
  obtain ⟨q, hq⟩ : ∃ q, (split t.name).isSome = q := ⟨_, rfl⟩
  have HQ := Lib.hid hq
  rw [hq]
  have HX1 := Lib.hid (HX.out.below hb)
  have k0 := HX1.out.cell 0
  have k1 := HX1.out.cell 1
  have k2 := HX1.out.cell 2
  have k3 := HX1.out.cell 3
  clear hb hsv hq
  go_wp2_with fail
  refine (isText_any (HG.out.carry HX1.out) t.text (by have := HS.out.text; omega)).mono ?_
  rintro e w2 ⟨rfl, hb⟩
  have HX2 := Lib.hid (HX1.out.below hb)
  have k0 := HX2.out.cell 0
  have k1 := HX2.out.cell 1
  have k2 := HX2.out.cell 2
  have k3 := HX2.out.cell 3
  clear hb
  cases hte : isText t.text
  · have HR : Hid (right isText t = false) := by show _ = _; unfold right; rw [hte]; rfl
    clear hte
    go_wp2_with fail
    go_ret
    exact ⟨by rw [HR.out]; rfl, HX2.out.old⟩
  · have HTE := Lib.hid hte
    clear hte
    by_cases hk2 : t.kind = 2
    · have HR : Hid (right isText t = (attrsOk isText [] t.attrs && q && t.text.isEmpty)) := by
        show _ = _
        unfold right
        rw [HTE.out, HQ.out]
        simp [hk2]
      have hkk := hk2
      have hxm := (HX2.out.alloc (.map #[] 0)).f1
      have m2 := hxm.cell 2
      clear hxm
      go_wp2_with fail
      go_loopg [43] n (fun gk v43 wr => ∃ j : Nat, v43 = .int .i64 j ∧ j + gk = n ∧ Hid (Hold w wr [Seen w2.heap.size ((t.attrs.take j).map (·.1)), Asn.pts w.heap.size (.cells #[.int .i64 t.kind, str t.name, .slice aa n ac, str t.text] 38 (0, 0))]) ∧ Hid (attrsOk isText ((t.attrs.take j).map (·.1)) (t.attrs.drop j) = attrsOk isText [] t.attrs))
      case atStart => exact ⟨0, rfl, by omega, Lib.hid ((Seen.mk (ks := []) rfl (HX2.out.allocAt rfl rfl))), rfl⟩
      case round =>
        obtain ⟨j, rfl, hig, HZ, HO⟩ := hrel
        by_cases hlt : j < n
        · have hlt' : (j : Int) < (n : Int) := by omega
          obtain ⟨p, hp⟩ : ∃ p, t.attrs[j]? = some p := ⟨_, List.getElem?_eq_getElem (by have := HN.out; omega)⟩
          obtain ⟨h, o, rfl, hcells⟩ := HA.out (by omega)
          obtain ⟨c1, c2⟩ := hcells j p hp
          have hmem : p ∈ t.attrs := List.mem_of_getElem? hp
          obtain ⟨hp1, hp2⟩ := HS.out.attrs p hmem
          have hd : t.attrs.drop j = p :: t.attrs.drop (j + 1) := by
            have hj' : j < t.attrs.length := by have := HN.out; omega
            rw [List.drop_eq_getElem_cons hj', (List.getElem?_eq_some_iff.1 hp).2]
          have htk : (t.attrs.take (j + 1)).map (·.1) = (t.attrs.take j).map (·.1) ++ [p.1] := by
            have hj' : j < t.attrs.length := by have := HN.out; omega
            rw [List.take_succ_eq_append_getElem hj', (List.getElem?_eq_some_iff.1 hp).2, List.map_append]; rfl
          have ho := HO.out
          rw [hd] at ho
          simp only [attrsOk] at ho
          have HO2 := Lib.hid ho
          have HTK := Lib.hid htk
          have c1 := HZ.out.oldCell c1
          have c2 := HZ.out.oldCell c2
          obtain ⟨n1, hn1⟩ : ∃ x, p.1 = x := ⟨_, rfl⟩
          obtain ⟨n2, hn2⟩ : ∃ x, p.2 = x := ⟨_, rfl⟩
          rw [hn1] at c1 hp1
          rw [hn2] at c2 hp2
          have HN1 := Lib.hid hn1
          have HN2 := Lib.hid hn2
          have HZA := Lib.hid (HZ.out.alloc (.cells #[str n1, str n2] 45))
          clear hp hmem hd htk ho hcells hn1 hn2
          go_wp2_with fail
          refine (split_any (HG.out.carry HZA.out) n1 hp1).mono ?_
          obtain ⟨sa2, sb2, hsv2⟩ := splitV_some n1
          rw [hsv2]
          rintro e w4 ⟨rfl, hb⟩
          have HZ4 := Lib.hid (HZA.out.below hb)
          have d0 := HZ4.out.cell 0
          have d1 := HZ4.out.cell 1
          clear hb hsv2
          cases hq1 : (split n1).isSome
          · have HR2 : Hid (right isText t = false) := by
              show _ = _
              rw [HR.out, ← HO2.out, HN1.out, hq1]; simp
            clear hq1
            go_wp2_with fail
            go_ret
            exact ⟨by rw [HR2.out]; rfl, HZ4.out.old⟩
          · have HQ1 := Lib.hid hq1
            clear hq1
            go_wp2_with fail
            refine (isText_any (HG.out.carry HZ4.out) n2 (by omega)).mono ?_
            rintro e w5 ⟨rfl, hb⟩
            have HZ5 := Lib.hid (HZ4.out.below hb)
            have d0 := HZ5.out.cell 0
            have d1 := HZ5.out.cell 1
            clear hb
            cases ht2 : isText n2
            · have HR2 : Hid (right isText t = false) := by
                show _ = _
                rw [HR.out, ← HO2.out, HN1.out, HN2.out, ht2]; simp
              clear ht2
              go_wp2_with fail
              go_ret
              exact ⟨by rw [HR2.out]; rfl, HZ5.out.old⟩
            · have HT2 := Lib.hid ht2
              clear ht2
              have hlk := run_lookupB HZ5.out.f1 n1
              cases hse : ((t.attrs.take j).map (·.1)).contains n1
              · rw [hse] at hlk
                obtain ⟨w6, hup, z6⟩ := run_updateB HZ5.out.f1 n1 hse
                have HZ6 := Lib.hid (z6.f1.drop)
                have HN3 : Hid (attrsOk isText ((t.attrs.take j).map (·.1) ++ [n1]) (t.attrs.drop (j + 1)) = attrsOk isText [] t.attrs) := by
                  show _ = _
                  have := HO2.out
                  rw [HN1.out, HN2.out, HQ1.out, HT2.out, hse] at this
                  simpa using this
                clear z6 hse
                go_wp2_with fail
                go_roundg (gk - 1)
                case measure => omega
                case rel => exact ⟨j + 1, by go_num, by omega, (by rw [HTK.out, HN1.out]; exact HZ6), (by rw [HTK.out, HN1.out]; exact HN3)⟩
              · rw [hse] at hlk
                have HR2 : Hid (right isText t = false) := by
                  show _ = _
                  rw [HR.out, ← HO2.out, HN1.out, hse]; simp
                clear hse
                go_wp2_with fail
                go_ret
                exact ⟨by rw [HR2.out]; rfl, HZ5.out.old⟩
        · have hge : ¬ (j : Int) < (n : Int) := by omega
          have hd : t.attrs.drop j = [] := List.drop_eq_nil_of_le (by have := HN.out; omega)
          have ho := HO.out
          rw [hd] at ho
          have HR2 : Hid (right isText t = (q && t.text.isEmpty)) := by
            show _ = _
            rw [HR.out, ← ho]; rfl
          have e3 := HZ.out.f1.cell 3
          clear ho hd
          cases q
          · go_wp2_with fail
            go_ret
            exact ⟨by rw [HR2.out]; rfl, HZ.out.old⟩
          · cases hem : List.isEmpty t.text
            · have HR3 : Hid (right isText t = false) := by show _ = _; rw [HR2.out, hem]; rfl
              go_wp2_with fail
              go_ret
              exact ⟨by rw [HR3.out]; rfl, HZ.out.old⟩
            · have HR3 : Hid (right isText t = true) := by show _ = _; rw [HR2.out, hem]; rfl
              go_wp2_with fail
              go_ret
              exact ⟨by rw [HR3.out]; rfl, HZ.out.old⟩
    · by_cases hn0 : 0 < n
      · have hn0' : (0 : Int) < (n : Int) := by omega
        have HR : Hid (right isText t = false) := by
          show _ = _
          have h1 : (t.kind == 2) = false := by rw [beq_eq_false_iff_ne]; exact hk2
          have h2 : t.attrs.isEmpty = false := by rw [List.isEmpty_eq_false_iff]; intro h0; have := HN.out; rw [h0] at this; simp at this; omega
          unfold right
          rw [HTE.out, h1, h2]; rfl
        go_wp2_with fail
        go_ret
        exact ⟨by rw [HR.out]; rfl, HX2.out.old⟩
      · have hn0' : ¬ (0 : Int) < (n : Int) := by omega
        have hnil : t.attrs = [] := List.eq_nil_of_length_eq_zero (by have := HN.out; omega)
        have HNIL := Lib.hid hnil
        clear hnil
        by_cases hk7 : t.kind = 7
        · have HR : Hid (right isText t = (attrsOk isText [] t.attrs && q && t.text.isEmpty)) := by
            show _ = _
            unfold right
            rw [HTE.out, HQ.out]
            simp [hk7, HNIL.out]
          have hxm := (HX2.out.alloc (.map #[] 0)).f1
          have m2 := hxm.cell 2
          clear hxm
          go_wp2_with fail
          go_loopg [43] n (fun gk v43 wr => ∃ j : Nat, v43 = .int .i64 j ∧ j + gk = n ∧ Hid (Hold w wr [Seen w2.heap.size ((t.attrs.take j).map (·.1)), Asn.pts w.heap.size (.cells #[.int .i64 t.kind, str t.name, .slice aa n ac, str t.text] 38 (0, 0))]) ∧ Hid (attrsOk isText ((t.attrs.take j).map (·.1)) (t.attrs.drop j) = attrsOk isText [] t.attrs))
          case atStart => exact ⟨0, rfl, by omega, Lib.hid ((Seen.mk (ks := []) rfl (HX2.out.allocAt rfl rfl))), rfl⟩
          case round =>
            obtain ⟨j, rfl, hig, HZ, HO⟩ := hrel
            by_cases hlt : j < n
            · exact absurd hlt (by omega)
            · have hge : ¬ (j : Int) < (n : Int) := by omega
              have hd : t.attrs.drop j = [] := List.drop_eq_nil_of_le (by have := HN.out; omega)
              have ho := HO.out
              rw [hd] at ho
              have HR2 : Hid (right isText t = (q && t.text.isEmpty)) := by
                show _ = _
                rw [HR.out, ← ho]; rfl
              have e3 := HZ.out.f1.cell 3
              clear ho hd
              cases q
              · go_wp2_with fail
                go_ret
                exact ⟨by rw [HR2.out]; rfl, HZ.out.old⟩
              · cases hem : List.isEmpty t.text
                · have HR3 : Hid (right isText t = false) := by show _ = _; rw [HR2.out, hem]; rfl
                  go_wp2_with fail
                  go_ret
                  exact ⟨by rw [HR3.out]; rfl, HZ.out.old⟩
                · have HR3 : Hid (right isText t = true) := by show _ = _; rw [HR2.out, hem]; rfl
                  go_wp2_with fail
                  go_ret
                  exact ⟨by rw [HR3.out]; rfl, HZ.out.old⟩
        · by_cases hk4 : t.kind = 4
          · have HR : Hid (right isText t = (t.name.isEmpty && !t.text.isEmpty)) := by
              show _ = _
              unfold right
              rw [HTE.out, HNIL.out]
              simp [hk4]
            cases he1 : List.isEmpty t.name
            · have HR2 : Hid (right isText t = false) := by show _ = _; rw [HR.out, he1]; rfl
              go_wp2_with fail
              go_ret
              exact ⟨by rw [HR2.out]; rfl, HX2.out.old⟩
            · cases he2 : List.isEmpty t.text
              · have HR2 : Hid (right isText t = true) := by show _ = _; rw [HR.out, he1, he2]; rfl
                go_wp2_with fail
                go_ret
                exact ⟨by rw [HR2.out]; rfl, HX2.out.old⟩
              · have HR2 : Hid (right isText t = false) := by show _ = _; rw [HR.out, he1, he2]; rfl
                go_wp2_with fail
                go_ret
                exact ⟨by rw [HR2.out]; rfl, HX2.out.old⟩
          · by_cases hk5 : t.kind = 5
            · have HR : Hid (right isText t = (t.name.isEmpty && !Lib.contains (t.text ++ [45]) [45, 45])) := by
                show _ = _
                unfold right
                rw [HTE.out, HNIL.out]
                simp [hk5]
              cases he1 : List.isEmpty t.name
              · have HR2 : Hid (right isText t = false) := by show _ = _; rw [HR.out, he1]; rfl
                go_wp2_with fail
                go_ret
                exact ⟨by rw [HR2.out]; rfl, HX2.out.old⟩
              · have hcat : ((⟨t.text.toArray⟩ : ByteArray) ++ ⟨#[45]⟩) = ⟨(t.text ++ [45]).toArray⟩ := bytes_ext (by simp [ByteArray.data_append])
                go_wp2_with fail
                refine (contains_any (HG.out.carry HX2.out) (Hold.start w2) (t.text ++ [45]) [45, 45] (by have := HS.out.text; simp; omega)).mono ?_
                rintro e w3 ⟨rfl, rfl⟩
                cases hc : Lib.contains (t.text ++ [45]) [45, 45]
                · have HR2 : Hid (right isText t = true) := by show _ = _; rw [HR.out, he1, hc]; rfl
                  clear hc
                  go_wp2_with fail
                  go_ret
                  exact ⟨by rw [HR2.out]; rfl, HX2.out.old⟩
                · have HR2 : Hid (right isText t = false) := by show _ = _; rw [HR.out, he1, hc]; rfl
                  clear hc
                  go_wp2_with fail
                  go_ret
                  exact ⟨by rw [HR2.out]; rfl, HX2.out.old⟩
            · by_cases hk6 : t.kind = 6
              · exact absurd ⟨hk6, HTE.out, HNIL.out⟩ HH.out
              · have HR : Hid (right isText t = false) := by
                  show _ = _
                  unfold right
                  simp [hk2, hk7, hk4, hk5, hk6]
                go_wp2_with fail
                go_ret
                exact ⟨by rw [HR.out]; rfl, HX2.out.old⟩
end
end Go.Proofs.YtahfcgjlcdbnjaaGreatDoor

