/- The law's own RightToken: may a token stand in a document, by itself? -/
import Derived.Test.YtalmkfikfmpmoaaGreatDoorMSpl
import Derived.Test.YtalmkfikfmpmoaaGreatDoorMRgt6
namespace Go.Proofs.YtalmkfikfmpmoaaGreatDoor
open Go.RowKit

theorem contains_iff (s t : Bytes) : Lib.contains s t = true ↔ ∃ u v, s = u ++ (t ++ v) := by
  unfold Lib.contains
  rw [decide_eq_true_eq]
  constructor
  · intro h
    rcases Lib.index_spec s t with ⟨h1, _⟩ | ⟨i, h1, h2, h3, _⟩
    · omega
    · unfold Lib.occAt at h3
      have h3 := List.isPrefixOf_iff_prefix.1 h3
      obtain ⟨v, hv⟩ := h3
      exact ⟨s.take i, v, by rw [hv, List.take_append_drop]⟩
  · rintro ⟨u, v, rfl⟩
    rcases Lib.index_spec (u ++ (t ++ v)) t with ⟨h1, h2⟩ | ⟨i, h1, h2, h3, _⟩
    · have := h2 u.length (by simp)
      unfold Lib.occAt at this
      rw [List.drop_left] at this
      have h4 : t.isPrefixOf (t ++ v) = true := List.isPrefixOf_iff_prefix.2 ⟨v, rfl⟩
      rw [h4] at this; cases this
    · omega

theorem cmt_eq (x : Bytes) : Lib.contains (x ++ [45]) [45, 45] = (decide (0 ≤ Lib.index x [45, 45]) || x.getLast? == some 45) := by
  rw [Bool.eq_iff_iff, contains_iff, Bool.or_eq_true, show decide (0 ≤ Lib.index x [45, 45]) = Lib.contains x [45, 45] from rfl, contains_iff, beq_iff_eq]
  constructor
  · rintro ⟨u, v, h⟩
    rcases List.eq_nil_or_concat v with rfl | ⟨v', a, rfl⟩
    · right
      have h : x ++ [45] = (u ++ [45]) ++ [45] := by rw [h]; simp
      have := List.append_cancel_right h
      rw [this]; simp
    · left
      have h : x ++ [45] = (u ++ ([45, 45] ++ v')) ++ [a] := by rw [h]; simp
      have := (List.append_inj' h rfl).1
      exact ⟨u, v', this⟩
  · rintro (⟨u, v, rfl⟩ | h)
    · exact ⟨u, v ++ [45], by simp⟩
    · obtain ⟨u, rfl⟩ : ∃ u, x = u ++ [45] := by
        rcases List.eq_nil_or_concat x with rfl | ⟨u, a, rfl⟩
        · cases h
        · simp at h; subst h; exact ⟨u, by simp⟩
      exact ⟨u, [], by simp⟩

theorem trim_cons (c : UInt8) (l : Bytes) : (trimB (c :: l) == c :: l) = !blankI (c.toNat : Int) := by
  have e : ∀ k : UInt8, ((c.toNat : Int) == (k.toNat : Int)) = (c == k) := fun k => by
    rw [Bool.eq_iff_iff, beq_iff_eq, beq_iff_eq]
    exact ⟨fun h => UInt8.toNat_inj.1 (by omega), fun h => by rw [h]⟩
  have hb : blankI (c.toNat : Int) = (c == 9 || c == 10 || c == 13 || c == 32) := by
    unfold blankI
    rw [← e 9, ← e 10, ← e 13, ← e 32]; rfl
  rw [hb, trimB_nb]
  unfold nb
  by_cases h : c = 9 ∨ c = 10 ∨ c = 13 ∨ c = 32
  · rw [if_pos h, List.drop_succ_cons]
    have h1 : (l.drop (nb l) == c :: l) = false := by
      rw [beq_eq_false_iff_ne]
      intro hh
      have := congrArg List.length hh
      simp at this
      omega
    rw [h1]
    rcases h with rfl | rfl | rfl | rfl <;> rfl
  · rw [if_neg h]
    simp only [not_or] at h
    have : (c == 9 || c == 10 || c == 13 || c == 32) = false := by simp [h.1, h.2.1, h.2.2.1, h.2.2.2]
    rw [this]; simp

section
variable {W w w' : World} {L : List Asn}

set_option maxHeartbeats 8000000 in
set_option maxRecDepth 100000 in
theorem refRightToken_any (g : Glob w) (t : Tok) (hs : SmallTok t) (av : Value) (ha : AttrsAt w av t.attrs) :
    Calls Tryz.prog 65 #[.agg #[.int .i64 t.kind, str t.name, av, str t.text]] w fun e w' => e = .returned (.bool (right isText t)) ∧ Below w.heap.size w w' := by
  obtain ⟨aa, ac, rfl, hat⟩ := ha
  obtain ⟨n, hn⟩ : ∃ n, n = t.attrs.length := ⟨_, rfl⟩
  rw [← hn] at hat ⊢
  have HN := Lib.hid hn
  have HA := Lib.hid hat
  have HG := Lib.hid g
  have HS := Lib.hid hs
  have hnb : n ≤ 1048576 := by have := hs.many; omega
  have htl := hs.text
  have HX := Lib.hid ((Hold.start w).alloc (.cells #[.int .i64 t.kind, str t.name, .slice aa n ac, str t.text] 32))
  clear hn hat g hs
  go_enter Tryz.func65, Tryz.ntmps65
  go_wp2_with fail
  refine (refIsText_any (HG.out.carry HX.out) t.text (by have := HS.out.text; omega)).mono ?_
  rintro e w2 ⟨rfl, hb⟩
  have HX2 := Lib.hid (HX.out.below hb)
  have k0 := HX2.out.cell 0
  have k1 := HX2.out.cell 1
  have k2 := HX2.out.cell 2
  have k3 := HX2.out.cell 3
  clear hb
  cases hte : isText t.text
  · have HR : Hid (right isText t = false) := by show _ = _; unfold right; rw [hte]; rfl
    clear hte
    go_wp2_with fail
    go_ret
    exact ⟨by rw [HR.out]; rfl, HX2.out.old⟩
  · have HTE := Lib.hid hte
    clear hte
    by_cases hk2 : t.kind = 2
    · have HR : Hid (right isText t = (attrsOk isText [] t.attrs && (split t.name).isSome && t.text.isEmpty)) := by
        show _ = _
        unfold right
        rw [HTE.out]
        simp [hk2]
      go_wp2_with fail
      go_loopg [3] n (fun gk v3 wr => ∃ j : Nat, v3 = .int .i64 j ∧ j + gk = n ∧ Hid (Hold w wr [Asn.pts w.heap.size (.cells #[.int .i64 t.kind, str t.name, .slice aa n ac, str t.text] 32 (0, 0))]) ∧ Hid (attrsOk isText ((t.attrs.take j).map (·.1)) (t.attrs.drop j) = attrsOk isText [] t.attrs))
      case atStart => exact ⟨0, rfl, by omega, HX2, rfl⟩
      case round =>
        rename World => wo
        obtain ⟨G, hG⟩ : ∃ G, G = gk := ⟨_, rfl⟩
        obtain ⟨j, rfl, hig, HZ, HO⟩ := hrel
        by_cases hlt : j < n
        · have hlt' : (j : Int) < (n : Int) := by omega
          obtain ⟨p, hp⟩ : ∃ p, t.attrs[j]? = some p := ⟨_, List.getElem?_eq_getElem (by have := HN.out; omega)⟩
          obtain ⟨h, o, rfl, hcells⟩ := HA.out (by omega)
          have HCL := Lib.hid hcells
          obtain ⟨c1, c2⟩ := hcells j p hp
          have hmem : p ∈ t.attrs := List.mem_of_getElem? hp
          obtain ⟨hp1, hp2⟩ := HS.out.attrs p hmem
          have hd : t.attrs.drop j = p :: t.attrs.drop (j + 1) := by
            have hj' : j < t.attrs.length := by have := HN.out; omega
            rw [List.drop_eq_getElem_cons hj', (List.getElem?_eq_some_iff.1 hp).2]
          have htk : (t.attrs.take (j + 1)).map (·.1) = (t.attrs.take j).map (·.1) ++ [p.1] := by
            have hj' : j < t.attrs.length := by have := HN.out; omega
            rw [List.take_succ_eq_append_getElem hj', (List.getElem?_eq_some_iff.1 hp).2, List.map_append]; rfl
          have ho := HO.out
          rw [hd] at ho
          simp only [attrsOk] at ho
          have HO2 := Lib.hid ho
          have HTK := Lib.hid htk
          obtain ⟨n1, hn1⟩ : ∃ x, p.1 = x := ⟨_, rfl⟩
          obtain ⟨n2, hn2⟩ : ∃ x, p.2 = x := ⟨_, rfl⟩
          rw [hn1] at c1 hp1
          rw [hn2] at c2 hp2
          have HC1 := Lib.hid c1
          have HC2 := Lib.hid c2
          have HN1 := Lib.hid hn1
          have HN2 := Lib.hid hn2
          have d1 := HZ.out.oldCell c1
          have d2 := HZ.out.oldCell c2
          have k0 := HZ.out.cell 0
          have k1 := HZ.out.cell 1
          have k2 := HZ.out.cell 2
          have k3 := HZ.out.cell 3
          clear hp hmem hd htk ho hcells hn1 hn2 c1 c2
          go_wp2_with fail
          refine (refQname_any (HG.out.carry HZ.out) n1 hp1).mono ?_
          rintro e w4 ⟨rfl, hb⟩
          have HZ4 := Lib.hid (HZ.out.below hb)
          have k0 := HZ4.out.cell 0
          have k1 := HZ4.out.cell 1
          have k2 := HZ4.out.cell 2
          have k3 := HZ4.out.cell 3
          have d2 := HZ4.out.oldCell HC2.out
          clear hb
          cases hq1 : (split n1).isSome
          · have HR2 : Hid (right isText t = false) := by
              show _ = _
              rw [HR.out, ← HO2.out, HN1.out, hq1]; simp
            clear hq1
            go_wp2_with fail
            go_ret
            exact ⟨by rw [HR2.out]; rfl, HZ4.out.old⟩
          · have HQ1 := Lib.hid hq1
            clear hq1
            go_wp2_with fail
            refine (refIsText_any (HG.out.carry HZ4.out) n2 (by omega)).mono ?_
            rintro e w5 ⟨rfl, hb⟩
            have HZ5 := Lib.hid (HZ4.out.below hb)
            clear hb
            cases ht2 : isText n2
            · have HR2 : Hid (right isText t = false) := by
                show _ = _
                rw [HR.out, ← HO2.out, HN1.out, HN2.out, ht2]; simp
              clear ht2
              go_wp2_with fail
              go_ret
              exact ⟨by rw [HR2.out]; rfl, HZ5.out.old⟩
            · have HT2 := Lib.hid ht2
              clear ht2
              go_wp2_with fail
              go_loopg [4] j (fun gk v4 wr => ∃ k : Nat, v4 = .int .i64 k ∧ k + gk = j ∧ Hid (Hold w wr [Asn.pts w.heap.size (.cells #[.int .i64 t.kind, str t.name, .slice (some ⟨h, o, none⟩) n ac, str t.text] 32 (0, 0))]) ∧ Hid (((t.attrs.take k).map (·.1)).contains n1 = false))
              case atStart => exact ⟨0, rfl, by omega, HZ5, rfl⟩
              case round =>
                obtain ⟨k, rfl, hik, HY, HU⟩ := hrel
                have k0 := HY.out.cell 0
                have k1 := HY.out.cell 1
                have k2 := HY.out.cell 2
                have k3 := HY.out.cell 3
                have d1 := HY.out.oldCell HC1.out
                by_cases hkl : k < j
                · have hkl' : (k : Int) < (j : Int) := by omega
                  have hkn : (k : Int) < (n : Int) := by omega
                  obtain ⟨u, hu⟩ : ∃ p, t.attrs[k]? = some p := ⟨_, List.getElem?_eq_getElem (by have := HN.out; omega)⟩
                  have e1 := HY.out.oldCell (HCL.out k u hu).1
                  have htk : (t.attrs.take (k + 1)).map (·.1) = (t.attrs.take k).map (·.1) ++ [u.1] := by
                    have hj' : k < t.attrs.length := by have := HN.out; omega
                    rw [List.take_succ_eq_append_getElem hj', (List.getElem?_eq_some_iff.1 hu).2, List.map_append]; rfl
                  have HTK2 := Lib.hid htk
                  have hmu : u.1 = n1 → n1 ∈ (t.attrs.take j).map (·.1) := fun h0 => by
                    rw [← h0]
                    refine List.mem_map_of_mem ?_
                    have hkt : k < (t.attrs.take j).length := by have := HN.out; simp; omega
                    have : (t.attrs.take j)[k] = u := by rw [List.getElem_take, (List.getElem?_eq_some_iff.1 hu).2]
                    rw [← this]; exact List.getElem_mem hkt
                  have HMU := Lib.hid hmu
                  obtain ⟨u1, hu1⟩ : ∃ x, u.1 = x := ⟨_, rfl⟩
                  rw [hu1] at e1
                  have HU1 := Lib.hid hu1
                  clear hu htk hmu hu1
                  by_cases hq : u1 = n1
                  · have HR2 : Hid (right isText t = false) := by
                      show _ = _
                      have : ((t.attrs.take j).map (·.1)).contains n1 = true := by
                        rw [List.contains_iff_mem]
                        exact HMU.out (by rw [HU1.out, hq])
                      rw [HR.out, ← HO2.out, HN1.out, this]; simp
                    have hqq : (u1 == n1) = true := by simpa using hq
                    clear hq
                    go_wp2_with fail
                    go_quiet (fail)
                    have HY2 := Lib.hid (HY.out.drewN nq)
                    generalize wr.drewN nq = w3 at *
                    go_wp2_with fail
                    go_ret
                    exact ⟨by rw [HR2.out]; rfl, HY2.out.old⟩
                  · have hqq : (u1 == n1) = false := by simpa using hq
                    have HU2 : Hid (((t.attrs.take (k + 1)).map (·.1)).contains n1 = false) := by
                      show _ = _
                      rw [HTK2.out, HU1.out]
                      have h1 := HU.out
                      rw [Bool.eq_false_iff] at h1 ⊢
                      intro h2
                      rw [List.contains_iff_mem, List.mem_append] at h2
                      rcases h2 with h2 | h2
                      · exact h1 (List.contains_iff_mem.2 h2)
                      · exact hq (List.mem_singleton.1 h2).symm
                    clear hq
                    go_wp2_with fail
                    go_quiet (fail)
                    have HY2 := Lib.hid (HY.out.drewN nq)
                    generalize wr.drewN nq = w3 at *
                    go_wp2_with fail
                    go_roundg (gk - 1)
                    case measure => omega
                    case rel => exact ⟨k + 1, by go_num, by omega, HY2, HU2⟩
                · have hkl' : ¬ (k : Int) < (j : Int) := by omega
                  obtain rfl : k = j := by omega
                  have HN3 : Hid (attrsOk isText ((t.attrs.take k).map (·.1) ++ [n1]) (t.attrs.drop (k + 1)) = attrsOk isText [] t.attrs) := by
                    show _ = _
                    have := HO2.out
                    rw [HN1.out, HN2.out, HQ1.out, HT2.out, HU.out] at this
                    simpa using this
                  go_wp2_with fail
                  go_roundg (G - 1)
                  case measure => omega
                  case rel => exact ⟨k + 1, by go_num, by omega, HY, (by rw [HTK.out, HN1.out]; exact HN3)⟩
        · have hge : ¬ (j : Int) < (n : Int) := by omega
          have hd : t.attrs.drop j = [] := List.drop_eq_nil_of_le (by have := HN.out; omega)
          have ho := HO.out
          rw [hd] at ho
          have HR2 : Hid (right isText t = ((split t.name).isSome && t.text.isEmpty)) := by
            show _ = _
            rw [HR.out, ← ho]; rfl
          have k0 := HZ.out.cell 0
          have k1 := HZ.out.cell 1
          have k2 := HZ.out.cell 2
          have k3 := HZ.out.cell 3
          clear ho hd
          go_wp2_with fail
          refine (refQname_any (HG.out.carry HZ.out) t.name HS.out.name).mono ?_
          rintro e w4 ⟨rfl, hb⟩
          have HZ4 := Lib.hid (HZ.out.below hb)
          have k0 := HZ4.out.cell 0
          have k1 := HZ4.out.cell 1
          have k2 := HZ4.out.cell 2
          have k3 := HZ4.out.cell 3
          clear hb
          cases hq1 : (split t.name).isSome
          · have HR3 : Hid (right isText t = false) := by show _ = _; rw [HR2.out, hq1]; rfl
            clear hq1
            go_wp2_with fail
            go_ret
            exact ⟨by rw [HR3.out]; rfl, HZ4.out.old⟩
          · cases hem : List.isEmpty t.text
            · have HR3 : Hid (right isText t = false) := by show _ = _; rw [HR2.out, hq1, hem]; rfl
              clear hq1
              go_wp2_with fail
              go_ret
              exact ⟨by rw [HR3.out]; rfl, HZ4.out.old⟩
            · have HR3 : Hid (right isText t = true) := by show _ = _; rw [HR2.out, hq1, hem]; rfl
              clear hq1
              go_wp2_with fail
              go_ret
              exact ⟨by rw [HR3.out]; rfl, HZ4.out.old⟩
    · by_cases hn0 : n = 0
      · have hnz : ((n : Int) == 0) = true := by simpa using hn0
        have hnil : t.attrs = [] := List.eq_nil_of_length_eq_zero (by have := HN.out; omega)
        have HNIL := Lib.hid hnil
        clear hnil hn0
        by_cases hk7 : t.kind = 7
        · have HR : Hid (right isText t = ((split t.name).isSome && t.text.isEmpty)) := by
            show _ = _
            unfold right
            rw [HTE.out, HNIL.out]
            simp [hk7, attrsOk]
          go_wp2_with fail
          refine (refQname_any (HG.out.carry HX2.out) t.name HS.out.name).mono ?_
          rintro e w4 ⟨rfl, hb⟩
          have HX4 := Lib.hid (HX2.out.below hb)
          have k0 := HX4.out.cell 0
          have k1 := HX4.out.cell 1
          have k2 := HX4.out.cell 2
          have k3 := HX4.out.cell 3
          clear hb
          cases hq1 : (split t.name).isSome
          · have HR3 : Hid (right isText t = false) := by show _ = _; rw [HR.out, hq1]; rfl
            clear hq1
            go_wp2_with fail
            go_ret
            exact ⟨by rw [HR3.out]; rfl, HX4.out.old⟩
          · cases hem : List.isEmpty t.text
            · have HR3 : Hid (right isText t = false) := by show _ = _; rw [HR.out, hq1, hem]; rfl
              clear hq1
              go_wp2_with fail
              go_ret
              exact ⟨by rw [HR3.out]; rfl, HX4.out.old⟩
            · have HR3 : Hid (right isText t = true) := by show _ = _; rw [HR.out, hq1, hem]; rfl
              clear hq1
              go_wp2_with fail
              go_ret
              exact ⟨by rw [HR3.out]; rfl, HX4.out.old⟩
        · by_cases hk4 : t.kind = 4
          · have HR : Hid (right isText t = (t.name.isEmpty && !t.text.isEmpty)) := by
              show _ = _
              unfold right
              rw [HTE.out, HNIL.out]
              simp [hk4]
            cases he1 : List.isEmpty t.name
            · have HR2 : Hid (right isText t = false) := by show _ = _; rw [HR.out, he1]; rfl
              go_wp2_with fail
              go_ret
              exact ⟨by rw [HR2.out]; rfl, HX2.out.old⟩
            · cases he2 : List.isEmpty t.text
              · have HR2 : Hid (right isText t = true) := by show _ = _; rw [HR.out, he1, he2]; rfl
                go_wp2_with fail
                go_ret
                exact ⟨by rw [HR2.out]; rfl, HX2.out.old⟩
              · have HR2 : Hid (right isText t = false) := by show _ = _; rw [HR.out, he1, he2]; rfl
                go_wp2_with fail
                go_ret
                exact ⟨by rw [HR2.out]; rfl, HX2.out.old⟩
          · by_cases hk5 : t.kind = 5
            · have HR : Hid (right isText t = (t.name.isEmpty && !(decide (0 ≤ Lib.index t.text [45, 45]) || t.text.getLast? == some 45))) := by
                show _ = _
                unfold right
                rw [HTE.out, HNIL.out, cmt_eq]
                simp [hk5]
              cases he1 : List.isEmpty t.name
              · have HR2 : Hid (right isText t = false) := by show _ = _; rw [HR.out, he1]; rfl
                go_wp2_with fail
                go_ret
                exact ⟨by rw [HR2.out]; rfl, HX2.out.old⟩
              · go_wp2_with fail
                refine (find_any t.text [45, 45] w2 (by omega) (by simp) (by decide)).mono ?_
                rintro e w3 ⟨rfl, rfl⟩
                by_cases hix : 0 ≤ Lib.index t.text [45, 45]
                · have HR2 : Hid (right isText t = false) := by show _ = _; rw [HR.out, he1]; simp [hix]
                  have hneg : ¬ Lib.index t.text [45, 45] < 0 := by omega
                  generalize Lib.index t.text [45, 45] = ix at *
                  go_wp2_with fail
                  go_ret
                  exact ⟨by rw [HR2.out]; rfl, HX2.out.old⟩
                · have HR2 : Hid (right isText t = !(t.text.getLast? == some 45)) := by show _ = _; rw [HR.out, he1]; simp [hix]
                  have hneg : Lib.index t.text [45, 45] < 0 := by omega
                  generalize Lib.index t.text [45, 45] = ix at *
                  by_cases h0 : t.text.length = 0
                  · have HR3 : Hid (right isText t = true) := by show _ = _; rw [HR2.out, List.eq_nil_of_length_eq_zero h0]; rfl
                    have hz : ((t.text.length : Int) == 0) = true := by simpa using h0
                    clear h0
                    go_wp2_with fail
                    go_ret
                    exact ⟨by rw [HR3.out]; rfl, HX2.out.old⟩
                  · have hml : t.text.length - 1 < t.text.length := by omega
                    obtain ⟨c, hc⟩ : ∃ c : UInt8, (⟨t.text.toArray⟩ : ByteArray)[t.text.length - 1]'(by simpa [ByteArray.size] using hml) = c := ⟨_, rfl⟩
                    have hcl : t.text[t.text.length - 1] = c := hc
                    have HL : Hid (t.text.getLast? = some c) := by
                      show _ = _
                      rw [List.getLast?_eq_getElem?, List.getElem?_eq_getElem hml, hcl]
                    have hz : ((t.text.length : Int) == 0) = false := by simpa using h0
                    clear hcl h0
                    by_cases h45 : c = 45
                    · have HR3 : Hid (right isText t = false) := by show _ = _; rw [HR2.out, HL.out, h45]; rfl
                      subst h45
                      go_wp2_with fail
                      go_ret
                      exact ⟨by rw [HR3.out]; rfl, HX2.out.old⟩
                    · have HR3 : Hid (right isText t = true) := by show _ = _; rw [HR2.out, HL.out]; simp [h45]
                      have h45' : ((c.toNat : Int) == 45) = false := by
                        rw [beq_eq_false_iff_ne]
                        intro h
                        exact h45 (UInt8.toNat_inj.1 (by have : (45 : UInt8).toNat = 45 := rfl; omega))
                      have h45'' : ((c.toNat : Int) != 45) = true := by rw [bne, h45']; rfl
                      clear h45
                      go_wp2_with fail
                      go_ret
                      exact ⟨by rw [HR3.out]; rfl, HX2.out.old⟩
            · by_cases hk6 : t.kind = 6
              · have HR : Hid (right isText t = (isName t.name && !isXml t.name && !Lib.contains t.text [63, 62] && trimB t.text == t.text)) := by
                  show _ = _
                  unfold right
                  rw [HTE.out, HNIL.out]
                  simp [hk6]
                go_wp2_with fail
                refine (refIsName_any (HG.out.carry HX2.out) t.name HS.out.name).mono ?_
                rintro e w4 ⟨rfl, hb⟩
                have HX4 := Lib.hid (HX2.out.below hb)
                have k0 := HX4.out.cell 0
                have k1 := HX4.out.cell 1
                have k2 := HX4.out.cell 2
                have k3 := HX4.out.cell 3
                clear hb
                cases hnm : isName t.name
                · have HR2 : Hid (right isText t = false) := by show _ = _; rw [HR.out, hnm]; rfl
                  clear hnm
                  go_wp2_with fail
                  go_ret
                  exact ⟨by rw [HR2.out]; rfl, HX4.out.old⟩
                · have HNM := Lib.hid hnm
                  clear hnm
                  go_wp2_with fail
                  refine (refLower_any t.name HS.out.name w4).mono ?_
                  rintro e w5 ⟨rfl, hb⟩
                  have HX5 := Lib.hid (HX4.out.below hb)
                  have k0 := HX5.out.cell 0
                  have k1 := HX5.out.cell 1
                  have k2 := HX5.out.cell 2
                  have k3 := HX5.out.cell 3
                  clear hb
                  have hxq : ((⟨(t.name.map lowB).toArray⟩ : ByteArray) == ⟨#[120, 109, 108]⟩) = isXml t.name := bytes_eqb _ [120, 109, 108]
                  have hxr : (t.name.map lowB == [120, 109, 108]) = isXml t.name := rfl
                  have hxn : ((⟨(t.name.map lowB).toArray⟩ : ByteArray) != ⟨#[120, 109, 108]⟩) = !isXml t.name := by rw [bne, hxq]
                  have hxo : (t.name.map lowB != [120, 109, 108]) = !isXml t.name := rfl
                  generalize t.name.map lowB = ln at *
                  cases hxm : isXml t.name
                  · have HXM := Lib.hid hxm
                    rw [hxm] at hxq hxr hxn hxo
                    simp only [Bool.not_false] at hxn hxo
                    clear hxm
                    go_wp2_with fail
                    refine (find_any t.text [63, 62] w5 (by omega) (by simp) (by decide)).mono ?_
                    rintro e w6 ⟨rfl, rfl⟩
                    by_cases hix : 0 ≤ Lib.index t.text [63, 62]
                    · have HR2 : Hid (right isText t = false) := by show _ = _; rw [HR.out]; simp [Lib.contains, hix]
                      have hneg : ¬ Lib.index t.text [63, 62] < 0 := by omega
                      generalize Lib.index t.text [63, 62] = ix at *
                      go_wp2_with fail
                      go_ret
                      exact ⟨by rw [HR2.out]; rfl, HX5.out.old⟩
                    · have HR2 : Hid (right isText t = (trimB t.text == t.text)) := by show _ = _; rw [HR.out, HNM.out, HXM.out]; simp [Lib.contains, hix]
                      have hneg : Lib.index t.text [63, 62] < 0 := by omega
                      generalize Lib.index t.text [63, 62] = ix at *
                      obtain ⟨tx, htx⟩ : ∃ tx, t.text = tx := ⟨_, rfl⟩
                      have HTX := Lib.hid htx
                      rw [htx] at k3
                      clear htx
                      cases tx with
                      | nil =>
                        have HR3 : Hid (right isText t = true) := by show _ = _; rw [HR2.out, HTX.out]; rfl
                        go_wp2_with fail
                        go_ret
                        exact ⟨by rw [HR3.out]; rfl, HX5.out.old⟩
                      | cons c tr =>
                        have HR3 : Hid (right isText t = !blankI (c.toNat : Int)) := by show _ = _; rw [HR2.out, HTX.out, trim_cons]
                        obtain ⟨ct, hct⟩ : ∃ ct, c :: tr = ct := ⟨_, rfl⟩
                        have hl1 : 0 < ct.length := by rw [← hct]; simp
                        have hl0 : (0 : Int) < (ct.length : Int) := by omega
                        have hem : List.isEmpty ct = false := by rw [← hct]; rfl
                        have hc0 : (⟨ct.toArray⟩ : ByteArray)[0]'(by simpa [ByteArray.size] using hl1) = c := by subst hct; rfl
                        rw [hct] at k3
                        clear hct
                        have hcb := c.toNat_lt
                        go_wp2_with fail
                        refine (refBlank_any (c.toNat : Int) w5).mono ?_
                        rintro e w6 ⟨rfl, rfl⟩
                        generalize blankI (c.toNat : Int) = bl at *
                        cases bl
                        · go_wp2_with fail
                          go_ret
                          exact ⟨by rw [HR3.out]; rfl, HX5.out.old⟩
                        · go_wp2_with fail
                          go_ret
                          exact ⟨by rw [HR3.out]; rfl, HX5.out.old⟩
                  · have HR2 : Hid (right isText t = false) := by show _ = _; rw [HR.out, hxm]; simp
                    rw [hxm] at hxq hxr hxn hxo
                    simp only [Bool.not_true] at hxn hxo
                    clear hxm
                    go_wp2_with fail
                    go_ret
                    exact ⟨by rw [HR2.out]; rfl, HX5.out.old⟩
              · have HR : Hid (right isText t = false) := by
                  show _ = _
                  unfold right
                  simp [hk2, hk7, hk4, hk5, hk6]
                go_wp2_with fail
                go_ret
                exact ⟨by rw [HR.out]; rfl, HX2.out.old⟩
      · have hnz : ((n : Int) == 0) = false := by simpa using hn0
        have HR : Hid (right isText t = false) := by
          show _ = _
          have h1 : (t.kind == 2) = false := by rw [beq_eq_false_iff_ne]; exact hk2
          have h2 : t.attrs.isEmpty = false := by rw [List.isEmpty_eq_false_iff]; intro h0; have := HN.out; rw [h0] at this; exact hn0 this
          unfold right
          rw [HTE.out, h1, h2]; rfl
        clear hn0
        by_cases hk7 : t.kind = 7
        · go_wp2_with fail
          refine (refQname_any (HG.out.carry HX2.out) t.name HS.out.name).mono ?_
          rintro e w4 ⟨rfl, hb⟩
          have HX4 := Lib.hid (HX2.out.below hb)
          have k0 := HX4.out.cell 0
          have k1 := HX4.out.cell 1
          have k2 := HX4.out.cell 2
          have k3 := HX4.out.cell 3
          clear hb
          cases hq1 : (split t.name).isSome
          · clear hq1
            go_wp2_with fail
            go_ret
            exact ⟨by rw [HR.out]; rfl, HX4.out.old⟩
          · cases hem : List.isEmpty t.text
            · clear hq1
              go_wp2_with fail
              go_ret
              exact ⟨by rw [HR.out]; rfl, HX4.out.old⟩
            · clear hq1
              go_wp2_with fail
              go_ret
              exact ⟨by rw [HR.out]; rfl, HX4.out.old⟩
        · by_cases hk4 : t.kind = 4
          · cases he1 : List.isEmpty t.name
            · skip
              go_wp2_with fail
              go_ret
              exact ⟨by rw [HR.out]; rfl, HX2.out.old⟩
            · cases he2 : List.isEmpty t.text
              · skip
                go_wp2_with fail
                go_ret
                exact ⟨by rw [HR.out]; rfl, HX2.out.old⟩
              · skip
                go_wp2_with fail
                go_ret
                exact ⟨by rw [HR.out]; rfl, HX2.out.old⟩
          · by_cases hk5 : t.kind = 5
            · cases he1 : List.isEmpty t.name
              · skip
                go_wp2_with fail
                go_ret
                exact ⟨by rw [HR.out]; rfl, HX2.out.old⟩
              · skip
                go_wp2_with fail
                go_ret
                exact ⟨by rw [HR.out]; rfl, HX2.out.old⟩
            · by_cases hk6 : t.kind = 6
              · go_wp2_with fail
                refine (refIsName_any (HG.out.carry HX2.out) t.name HS.out.name).mono ?_
                rintro e w4 ⟨rfl, hb⟩
                have HX4 := Lib.hid (HX2.out.below hb)
                have k0 := HX4.out.cell 0
                have k1 := HX4.out.cell 1
                have k2 := HX4.out.cell 2
                have k3 := HX4.out.cell 3
                clear hb
                cases hnm : isName t.name
                · clear hnm
                  go_wp2_with fail
                  go_ret
                  exact ⟨by rw [HR.out]; rfl, HX4.out.old⟩
                · clear hnm
                  go_wp2_with fail
                  refine (refLower_any t.name HS.out.name w4).mono ?_
                  rintro e w5 ⟨rfl, hb⟩
                  have HX5 := Lib.hid (HX4.out.below hb)
                  have k0 := HX5.out.cell 0
                  have k1 := HX5.out.cell 1
                  have k2 := HX5.out.cell 2
                  have k3 := HX5.out.cell 3
                  clear hb
                  have hxq : ((⟨(t.name.map lowB).toArray⟩ : ByteArray) == ⟨#[120, 109, 108]⟩) = isXml t.name := bytes_eqb _ [120, 109, 108]
                  have hxr : (t.name.map lowB == [120, 109, 108]) = isXml t.name := rfl
                  have hxn : ((⟨(t.name.map lowB).toArray⟩ : ByteArray) != ⟨#[120, 109, 108]⟩) = !isXml t.name := by rw [bne, hxq]
                  have hxo : (t.name.map lowB != [120, 109, 108]) = !isXml t.name := rfl
                  generalize t.name.map lowB = ln at *
                  cases hxm : isXml t.name
                  · rw [hxm] at hxq hxr hxn hxo
                    simp only [Bool.not_false] at hxn hxo
                    clear hxm
                    go_wp2_with fail
                    go_ret
                    exact ⟨by rw [HR.out]; rfl, HX5.out.old⟩
                  · rw [hxm] at hxq hxr hxn hxo
                    simp only [Bool.not_true] at hxn hxo
                    clear hxm
                    go_wp2_with fail
                    go_ret
                    exact ⟨by rw [HR.out]; rfl, HX5.out.old⟩
              · skip
                go_wp2_with fail
                go_ret
                exact ⟨by rw [HR.out]; rfl, HX2.out.old⟩
end
end Go.Proofs.YtalmkfikfmpmoaaGreatDoor

