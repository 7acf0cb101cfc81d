/- whole: are tokens a document's? -/
import Derived.Test.YtahfcgjlcdbnjaaGreatDoorMWid
import Derived.Test.YtahfcgjlcdbnjaaGreatDoorMRgt2
import Derived.Test.YtahfcgjlcdbnjaaGreatDoorMExp3
namespace Go.Proofs.YtahfcgjlcdbnjaaGreatDoor
open Go.RowKit

/-- How deep tokens go. -/
def deepN : Nat → List Tok → Bool
  | _, [] => true
  | n, t :: l => if t.kind = 2 then decide (n < 32) && deepN (n + 1) l else if t.kind = 7 then deepN (n - 1) l else deepN n l

theorem deepOk_parts : ∀ (l : List Tok) (n : Nat), (∀ t ∈ l, t.kind = 2 ∨ t.attrs = []) → deepOk n l = (deepN n l && !l.any wide)
  | [], n, _ => rfl
  | t :: l, n, h => by
    have ht := h t (by simp)
    have hl := fun m => deepOk_parts l m fun u hu => h u (by simp [hu])
    unfold deepOk deepN
    simp only [List.any_cons]
    by_cases h2 : t.kind = 2
    · rw [if_pos h2, if_pos h2, hl]
      have : decide (t.attrs.length ≤ 64) = !wide t := by unfold wide; rw [Bool.eq_iff_iff]; simp
      rw [this]
      cases decide (n < 32) <;> cases wide t <;> cases deepN (n + 1) l <;> cases l.any wide <;> rfl
    · have hw : wide t = false := by
        unfold wide
        rcases ht with h1 | h1
        · exact absurd h1 h2
        · rw [h1]; rfl
      rw [if_neg h2, if_neg h2, hw]
      split <;> (rw [hl]; simp)

/-- What whole answers. -/
def wholeN (l : List Tok) : Nat := if okL isText [] false false l then (if deepN 0 l && !l.any wide && decide (l.length ≤ 4096) then 0 else 6) else 5
def prev4 (l : List Tok) : Nat → Bool
  | 0 => false
  | k + 1 => match l[k]? with | some t => t.kind == 4 | none => false

section
variable {W w w' : World} {L : List Asn}

theorem Strs.cells {v : Value} {l : List Bytes} (x : Hold W w (Strs v l :: L)) (h : l ≠ []) : ∃ g c, v = .slice (some ⟨g, 0, none⟩) l.length c ∧ l.length ≤ c ∧ c ≤ maxLen ∧
    (∀ j (hj : j < l.length), w.cell? ⟨g, j, none⟩ = some (str l[j])) := by
  obtain ⟨hl, p⟩ := Row.cases x
  rcases p with ⟨_, h0, _⟩ | ⟨g, cap, cur, rfl, h4, h5, h6, h7, z⟩
  · exact absurd (List.eq_nil_of_length_eq_zero h0) h
  · refine ⟨g, cap, rfl, h4, h5, ?_⟩
    intro j hj
    rw [z.cell]
    have : cur[j]? = (l.map str)[j]? := by
      rw [← h7, List.getElem?_take_of_lt (by omega)]; simp
    rw [this]; simp [hj]
theorem Strs.cutTo {a : Option Addr} {c m : Nat} {l : List Bytes} (hm : m ≤ l.length) (x : Hold W w (Strs (.slice a l.length c) l :: L)) : Hold W w (Strs (.slice a m c) (l.take m) :: L) := by
  have := Row.cutTo hm x
  unfold Strs
  rw [List.map_take, List.length_take, Nat.min_eq_left hm]
  exact this

set_option maxHeartbeats 8000000 in
set_option maxRecDepth 100000 in
theorem whole_any (g : Glob w) (l : List Tok) (v : Value) (hv : TokRow w v l) (hl : l.length ≤ 1048576) (hs : ∀ t ∈ l, SmallTok t) :
    Calls Tryz.prog 100 #[v] w fun e w' => e = .returned (.int .i64 (wholeN l)) ∧ Below w.heap.size w w' := by
  have HV := Lib.hid hv
  obtain ⟨aa, ac, rfl, hrow⟩ := hv
  obtain ⟨n, hn⟩ : ∃ n, n = l.length := ⟨_, rfl⟩
  rw [← hn] at hrow hl HV ⊢
  have HN := Lib.hid hn
  have HA := Lib.hid hrow
  have HS := Lib.hid hs
  have HG := Lib.hid g
  clear hn hrow hs g
  go_enter Tryz.func100, Tryz.ntmps100
  go_wp2_with fail
  go_loopg [3, 4, 5, 12] n (fun gk v3 v4 v5 v12 wr => ∃ (j : Nat) (ov : Value) (opn : List Bytes) (most : Nat) (ended : Bool), v3 = ov ∧ v4 = .int .i64 most ∧ v5 = .bool ended ∧ v12 = .int .i64 j ∧ gk + j = n ∧ most ≤ j ∧ opn.length ≤ most ∧ Hid (Hold w wr [Strs ov opn]) ∧
    Hid (okL isText opn ended (prev4 l j) (l.drop j) = okL isText [] false false l) ∧ Hid ((decide (most ≤ 32) && deepN opn.length (l.drop j)) = deepN 0 l))
  case atStart => exact ⟨0, .slice none 0 0, [], 0, false, rfl, rfl, rfl, rfl, by omega, by omega, by simp, Lib.hid (Row.nil (Hold.start w)), rfl, rfl⟩
  case round =>
    obtain ⟨j, ov, opn, most, ended, rfl, rfl, rfl, rfl, hig, hmj, hom, HZ, HO, HD⟩ := hrel
    by_cases hlt : j < n
    · have hlt' : (j : Int) < (n : Int) := by omega
      obtain ⟨t, ht⟩ : ∃ t, l[j]? = some t := ⟨_, List.getElem?_eq_getElem (by have := HN.out; omega)⟩
      have hmem : t ∈ l := List.mem_of_getElem? ht
      have hd : l.drop j = t :: l.drop (j + 1) := by
        have hj' : j < l.length := by have := HN.out; omega
        rw [List.drop_eq_getElem_cons hj', (List.getElem?_eq_some_iff.1 ht).2]
      have HP : Hid (prev4 l (j + 1) = (t.kind == 4)) := by show _ = _; unfold prev4; simp only [ht]
      have ho := HO.out
      have hdd := HD.out
      rw [hd] at ho hdd
      simp only [okL] at ho
      simp only [deepN] at hdd
      have HO2 := Lib.hid ho
      have HD2 := Lib.hid hdd
      obtain ⟨h, o, rfl, hcells⟩ := HA.out (by omega)
      obtain ⟨av, hta⟩ := hcells j t ht
      have hta := hta.keep HZ.out
      obtain ⟨ta, tc, hav, _⟩ := hta.at_
      subst hav
      have c0 := hta.kind
      have c1 := hta.name
      have c2 := hta.attrs
      have c3 := hta.text
      have HST := Lib.hid (HS.out t hmem)
      have HRT := Lib.hid (right_any (HG.out.carry (HZ.out.alloc (.cells #[.int .i64 t.kind, str t.name, .slice ta t.attrs.length tc, str t.text] 38))) t HST.out _ (hta.at_.keep ((Hold.start wr).alloc (.cells #[.int .i64 t.kind, str t.name, .slice ta t.attrs.length tc, str t.text] 38))))
      have HZA := Lib.hid (HZ.out.alloc (.cells #[.int .i64 t.kind, str t.name, .slice ta t.attrs.length tc, str t.text] 38))
      clear hta hmem hd ho hdd
      go_wp2_with fail
      refine HRT.out.mono ?_
      rintro e w2 ⟨rfl, hb⟩
      have HZ2 := Lib.hid (HZA.out.below hb)
      clear hb
      have k0 := HZ2.out.cell 0
      have k1 := HZ2.out.cell 1
      have k2 := HZ2.out.cell 2
      have k3 := HZ2.out.cell 3
      clear c0 c1 c2 c3
      cases hrt : right isText t
      · have HR : Hid (wholeN l = 5) := by
          show _ = _
          unfold wholeN
          rw [← HO2.out, hrt]; rfl
        clear hrt
        go_wp2_with fail
        go_ret
        exact ⟨by rw [HR.out]; rfl, HZ2.out.old⟩
      · have HO3 := HO2.out
        rw [hrt, Bool.true_and] at HO3
        have HO3 := Lib.hid HO3
        clear hrt
        obtain ⟨oa, oc, rfl⟩ := Row.slice HZ2.out.f1
        by_cases hk2 : t.kind = 2
        · have HO4 := HO3.out
          have HD4 := HD2.out
          rw [if_pos hk2] at HO4 HD4
          have HO4 := Lib.hid HO4
          have HD4 := Lib.hid HD4
          by_cases h0 : opn.length = 0
          · have hnil : opn = [] := List.eq_nil_of_length_eq_zero h0
            subst hnil
            clear h0
            cases ended
            · have HEMP : Hid ((([] : List Bytes).isEmpty && false) = false) := by show _ = _; simp
              have HN2 : Hid (okL isText (([] : List Bytes) ++ [t.name]) false (prev4 l (j + 1)) (l.drop (j + 1)) = okL isText [] false false l) := by
                show _ = _
                have h1 := HO4.out
                rw [HEMP.out] at h1
                rw [HP.out, show (t.kind == 4) = false from by rw [hk2]; rfl]
                simpa using h1
              have HN3 : Hid ((decide (max most (([] : List Bytes).length + 1) ≤ 32) && deepN (([] : List Bytes) ++ [t.name]).length (l.drop (j + 1))) = deepN 0 l) := by
                show _ = _
                rw [← HD4.out, List.length_append, List.length_singleton]
                have : decide (max most (([] : List Bytes).length + 1) ≤ 32) = (decide (most ≤ 32) && decide (([] : List Bytes).length < 32)) := by
                  rw [Bool.eq_iff_iff]; simp; omega
                rw [this, Bool.and_assoc]
              obtain ⟨j0, hj, hj0, hj1, hj2⟩ := info_parts infoStr
              have HW := Lib.hid (HZ2.out.alloc (.cells #[str t.name] 9))
              have zz := HW.out.re [2, 0, 1]
              unfold Strs at zz
              have HWS := Lib.hid zz
              clear zz
              go_wp2_with (at_builtin; refine wpl_append rfl _ _ 104 rfl j0 _ 16 undStrs hj hj0 hj1 hj2 rfl (by decide) rfl HWS.out ⟨w2.heap.size, 0, none⟩ 1 1 [str t.name] rfl rfl (news_of HW.out) (by simp [Value.oneCell']) ?c1 ?c2 ?_)
              case c1 => unfold maxLen; omega
              case c2 => omega
              intro v' w14 z
              obtain ⟨va, vc, rfl⟩ := Row.slice z
              have HX := Lib.hid z
              clear z
              have HY : Hid (Hold w w14 [Strs (.slice va (([] : List Bytes).length + 1) vc) (([] : List Bytes) ++ [t.name])]) := by
                show Hold _ _ _
                unfold Strs
                rw [List.length_append, List.length_singleton, List.map_append]
                exact (HX.out.re [1, 2, 0]).drop.drop
              go_wp2_with fail
              go_roundg (gk - 1)
              case measure => omega
              case rel => exact ⟨j + 1, _, ([] : List Bytes) ++ [t.name], max most (([] : List Bytes).length + 1), false, rfl, by go_num, rfl, by go_num, by omega, by omega, by simp; omega, HY, HN2, HN3⟩
            · have HR : Hid (wholeN l = 5) := by
                show _ = _
                unfold wholeN
                rw [← HO4.out]; rfl
              go_wp2_with fail
              go_ret
              exact ⟨by rw [HR.out]; rfl, HZ2.out.old⟩
          · have hpos : 1 ≤ opn.length := by omega
            have HEMP : Hid ((opn.isEmpty && ended) = false) := by
              show _ = _
              cases opn with
              | nil => exact absurd rfl h0
              | cons => rfl
            have HN2 : Hid (okL isText (opn ++ [t.name]) ended (prev4 l (j + 1)) (l.drop (j + 1)) = okL isText [] false false l) := by
              show _ = _
              have h1 := HO4.out
              rw [HEMP.out] at h1
              rw [HP.out, show (t.kind == 4) = false from by rw [hk2]; rfl]
              simpa using h1
            have HN3 : Hid ((decide (max most (opn.length + 1) ≤ 32) && deepN (opn ++ [t.name]).length (l.drop (j + 1))) = deepN 0 l) := by
              show _ = _
              rw [← HD4.out, List.length_append, List.length_singleton]
              have : decide (max most (opn.length + 1) ≤ 32) = (decide (most ≤ 32) && decide (opn.length < 32)) := by
                rw [Bool.eq_iff_iff]; simp; omega
              rw [this, Bool.and_assoc]
            obtain ⟨j0, hj, hj0, hj1, hj2⟩ := info_parts infoStr
            have HW := Lib.hid (HZ2.out.alloc (.cells #[str t.name] 9))
            have zz := HW.out.re [2, 0, 1]
            unfold Strs at zz
            have HWS := Lib.hid zz
            clear zz
            go_wp2_with (at_builtin; refine wpl_append rfl _ _ 104 rfl j0 _ 16 undStrs hj hj0 hj1 hj2 rfl (by decide) rfl HWS.out ⟨w2.heap.size, 0, none⟩ 1 1 [str t.name] rfl rfl (news_of HW.out) (by simp [Value.oneCell']) ?c1 ?c2 ?_)
            case c1 => unfold maxLen; omega
            case c2 => omega
            intro v' w14 z
            obtain ⟨va, vc, rfl⟩ := Row.slice z
            have HX := Lib.hid z
            clear z
            have HY : Hid (Hold w w14 [Strs (.slice va (opn.length + 1) vc) (opn ++ [t.name])]) := by
              show Hold _ _ _
              unfold Strs
              rw [List.length_append, List.length_singleton, List.map_append]
              exact (HX.out.re [1, 2, 0]).drop.drop
            go_wp2_with fail
            go_roundg (gk - 1)
            case measure => omega
            case rel => exact ⟨j + 1, _, opn ++ [t.name], max most (opn.length + 1), ended, rfl, by go_num, rfl, by go_num, by omega, by omega, by simp; omega, HY, HN2, HN3⟩
        · by_cases hk7 : t.kind = 7
          · have HO4 := HO3.out
            have HD4 := HD2.out
            rw [if_neg hk2, if_pos hk7] at HO4 HD4
            have HO4 := Lib.hid HO4
            have HD4 := Lib.hid HD4
            by_cases h0 : opn.length = 0
            · have HR : Hid (wholeN l = 5) := by
                show _ = _
                have h2 : opn = [] := List.eq_nil_of_length_eq_zero h0
                unfold wholeN
                rw [← HO4.out, h2]; rfl
              go_wp2_with fail
              go_quiet (fail)
              go_wp2_with fail
              go_ret
              exact ⟨by rw [HR.out]; rfl, below_drewN HZ2.out.old _⟩
            · obtain ⟨g1, c1, hsl, hcap, hcm, hcells⟩ := Strs.cells HZ2.out.f1 (by intro h; rw [h] at h0; exact h0 rfl)
              obtain ⟨rfl, rfl⟩ : oa = some ⟨g1, 0, none⟩ ∧ oc = c1 := by cases hsl; exact ⟨rfl, rfl⟩
              obtain ⟨m, hm⟩ : ∃ m, m + 1 = opn.length := ⟨opn.length - 1, by omega⟩
              have hcell := hcells m (by omega)
              have hlast : opn.getLast? = some (opn[m]'(by omega)) := by
                rw [List.getLast?_eq_getElem?, show opn.length - 1 = m from by omega, List.getElem?_eq_getElem (by omega)]
              generalize (opn[m]'(by omega)) = last at *
              have HL := Lib.hid hlast
              have hmn : m + 1 ≤ n := by omega
              have hmm1 : m + 1 ≤ most := by omega
              have HC := Lib.hid (Strs.cutTo (m := m) (by omega) HZ2.out.f1)
              rw [← hm]
              have HM := Lib.hid hm
              clear hcells hlast hsl hm hom h0
              have hneg : ¬ ((m : Int) < 0) := by omega
              have hmc : m ≤ oc := by have := HM.out; omega
              have hlt1 : (m : Int) < (m : Int) + 1 := by omega
              by_cases hq : last = t.name
              · subst hq
                have HN2 : Hid (okL isText (opn.take m) (decide (m = 0)) (prev4 l (j + 1)) (l.drop (j + 1)) = okL isText [] false false l) := by
                  show _ = _
                  have h1 := HO4.out
                  rw [HL.out, ← HM.out, Nat.add_sub_cancel] at h1
                  rw [HP.out, show (t.kind == 4) = false from by rw [hk7]; rfl, show decide (m = 0) = (m + 1 == 1) from by rw [Bool.eq_iff_iff]; simp]
                  simpa using h1
                have HN3 : Hid ((decide (most ≤ 32) && deepN (opn.take m).length (l.drop (j + 1))) = deepN 0 l) := by
                  show _ = _
                  have := HM.out
                  rw [← HD4.out, List.length_take, Nat.min_eq_left (by omega), show opn.length - 1 = m from by omega]
                have HLT : Hid ((opn.take m).length ≤ most) := by show _ ≤ _; rw [List.length_take]; omega
                go_wp2_with fail
                go_quiet (fail)
                have HC2 := Lib.hid (HC.out.drewN nq)
                generalize w2.drewN nq = w3 at *
                go_wp2_with fail
                go_roundg (gk - 1)
                case measure => omega
                case rel => exact ⟨j + 1, _, opn.take m, most, decide (m = 0), rfl, rfl, (by first | rfl | (congr 1; done) | (congr 1; simp; done) | (congr 1; rw [Bool.eq_iff_iff]; simp; done) | (congr 1; rw [Bool.eq_iff_iff]; simp; omega)), by go_num, by omega, by omega, HLT.out, Lib.hid HC2.out.f1.drop, HN2, HN3⟩
              · have hqq : (last == t.name) = false := by simpa using hq
                have HR : Hid (wholeN l = 5) := by
                  show _ = _
                  unfold wholeN
                  rw [← HO4.out, HL.out]
                  simp [hq]
                go_wp2_with fail
                go_quiet (fail)
                go_wp2_with fail
                go_ret
                exact ⟨by rw [HR.out]; rfl, below_drewN HZ2.out.old _⟩
          · by_cases hk4 : t.kind = 4
            · have HO4 := HO3.out
              have HD4 := HD2.out
              rw [if_neg hk2, if_neg hk7, if_pos hk4] at HO4
              rw [if_neg hk2, if_neg hk7] at HD4
              have HP2 : Hid (prev4 l (j + 1) = true) := by show _ = _; rw [HP.out]; simpa using hk4
              have HO4 := Lib.hid HO4
              have HD4 := Lib.hid HD4
              by_cases h0 : opn.length = 0
              · have HR : Hid (wholeN l = 5) := by
                  show _ = _
                  have h2 : opn = [] := List.eq_nil_of_length_eq_zero h0
                  unfold wholeN
                  rw [← HO4.out, h2]; rfl
                go_wp2_with fail
                go_ret
                exact ⟨by rw [HR.out]; rfl, HZ2.out.old⟩
              · have hpos : 1 ≤ opn.length := by omega
                have HEMP : Hid (opn.isEmpty = false) := by
                  show _ = _
                  cases opn with
                  | nil => exact absurd rfl h0
                  | cons => rfl
                cases j with
                | zero => exact absurd h0 (by omega)
                | succ k =>
                  obtain ⟨tp, htp⟩ : ∃ t, l[k]? = some t := ⟨_, List.getElem?_eq_getElem (by have := HN.out; omega)⟩
                  obtain ⟨avp, htap⟩ := hcells k tp htp
                  have cp := (htap.keep HZ2.out).kind
                  have hneg : ¬ ((opn.length : Int) - 1 < 0) := by omega
                  have HPK : Hid (prev4 l (k + 1) = (tp.kind == 4)) := by show _ = _; unfold prev4; simp only [htp]
                  clear htap htp
                  by_cases hp4 : tp.kind = 4
                  · have HR : Hid (wholeN l = 5) := by
                      show _ = _
                      unfold wholeN
                      rw [← HO4.out, HPK.out, hp4]; simp
                    go_wp2_with fail
                    go_ret
                    exact ⟨by rw [HR.out]; rfl, HZ2.out.old⟩
                  · have hp44 : (tp.kind == 4) = false := by simpa using hp4
                    have HN2 : Hid (okL isText opn ended (prev4 l (k + 1 + 1)) (l.drop (k + 1 + 1)) = okL isText [] false false l) := by
                      show _ = _
                      have h1 := HO4.out
                      rw [HEMP.out, HPK.out, show (tp.kind == 4) = false from by simpa using hp4] at h1
                      rw [HP2.out]
                      simpa using h1
                    go_wp2_with fail
                    go_roundg (gk - 1)
                    case measure => omega
                    case rel => exact ⟨k + 1 + 1, _, opn, most, ended, rfl, rfl, rfl, by go_num, by omega, by omega, by omega, Lib.hid HZ2.out.drop, HN2, HD4⟩
            · have HO4 := HO3.out
              have HD4 := HD2.out
              rw [if_neg hk2, if_neg hk7, if_neg hk4] at HO4
              rw [if_neg hk2, if_neg hk7] at HD4
              have HP2 : Hid (prev4 l (j + 1) = false) := by show _ = _; rw [HP.out]; simpa using hk4
              have HO4 : Hid (okL isText opn ended (prev4 l (j + 1)) (l.drop (j + 1)) = okL isText [] false false l) := by show _ = _; rw [HP2.out]; exact HO4
              have HD4 := Lib.hid HD4
              go_wp2_with fail
              go_roundg (gk - 1)
              case measure => omega
              case rel => exact ⟨j + 1, _, opn, most, ended, rfl, rfl, rfl, by go_num, by omega, by omega, by omega, Lib.hid HZ2.out.drop, HO4, HD4⟩
    · have hge : ¬ (j : Int) < (n : Int) := by omega
      have hd : l.drop j = [] := List.drop_eq_nil_of_le (by have := HN.out; omega)
      have ho := HO.out
      have hdd := HD.out
      rw [hd] at ho hdd
      simp only [okL] at ho
      simp only [deepN] at hdd
      have HO2 := Lib.hid ho
      have HD2 := Lib.hid hdd
      clear ho hdd hd
      obtain ⟨oa, oc, rfl⟩ := Row.slice HZ.out
      have HW := Lib.hid (wide_any l (.slice aa n ac) (HV.out.keep HZ.out) (by have := HN.out; omega) fun t ht => (HS.out t ht).many)
      go_wp2_with fail
      refine HW.out.mono ?_
      rintro e w3 ⟨rfl, hb⟩
      have HB : Hid (Below w.heap.size w w3) := HZ.out.old.trans (hb.old.mono HZ.out.old.size)
      clear hb
      cases ended
      · have HR : Hid (wholeN l = 5) := by
          show _ = _
          unfold wholeN
          rw [← HO2.out]; rfl
        go_wp2_with fail
        go_ret
        exact ⟨by rw [HR.out]; rfl, HB.out⟩
      · by_cases h0 : opn.length = 0
        · have HR : Hid (wholeN l = if decide (most ≤ 32) && !l.any wide && decide (n ≤ 4096) then 0 else 6) := by
            show _ = _
            have h2 : opn = [] := List.eq_nil_of_length_eq_zero h0
            unfold wholeN
            rw [← HO2.out, ← HD2.out, h2, HN.out]; simp
          by_cases hm : most ≤ 32
          · cases hw : l.any wide
            · by_cases hn4 : n ≤ 4096
              · have HR2 : Hid (wholeN l = 0) := by show _ = _; rw [HR.out, hw]; simp [hm, hn4]
                clear hw
                go_wp2_with fail
                go_ret
                exact ⟨by rw [HR2.out]; rfl, HB.out⟩
              · have HR2 : Hid (wholeN l = 6) := by show _ = _; rw [HR.out, hw]; simp [hm, hn4]
                clear hw
                go_wp2_with fail
                go_ret
                exact ⟨by rw [HR2.out]; rfl, HB.out⟩
            · have HR2 : Hid (wholeN l = 6) := by show _ = _; rw [HR.out, hw]; simp
              clear hw
              go_wp2_with fail
              go_ret
              exact ⟨by rw [HR2.out]; rfl, HB.out⟩
          · have HR2 : Hid (wholeN l = 6) := by show _ = _; rw [HR.out]; simp [hm]
            go_wp2_with fail
            go_ret
            exact ⟨by rw [HR2.out]; rfl, HB.out⟩
        · have HR : Hid (wholeN l = 5) := by
            show _ = _
            unfold wholeN
            cases opn with
            | nil => exact absurd rfl h0
            | cons => rw [← HO2.out]; rfl
          go_wp2_with fail
          go_ret
          exact ⟨by rw [HR.out]; rfl, HB.out⟩
end
end Go.Proofs.YtahfcgjlcdbnjaaGreatDoor

