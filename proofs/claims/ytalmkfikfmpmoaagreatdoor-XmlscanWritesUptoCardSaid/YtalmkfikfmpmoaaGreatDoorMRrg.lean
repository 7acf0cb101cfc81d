/- The law's own Right: are tokens a document's? -/
import Derived.Test.YtalmkfikfmpmoaaGreatDoorMRrt
import Derived.Test.YtalmkfikfmpmoaaGreatDoorMWho
namespace Go.Proofs.YtalmkfikfmpmoaaGreatDoor
open Go.RowKit

section
variable {W w w' : World} {L : List Asn}

set_option maxHeartbeats 8000000 in
set_option maxRecDepth 100000 in
theorem refRight_any (g : Glob w) (l : List Tok) (v : Value) (hv : TokRow w v l) (hl : l.length ≤ 1048576) (hs : ∀ t ∈ l, SmallTok t) :
    Calls Tryz.prog 36 #[v] w fun e w' => e = .returned (.int .i64 (wholeN l)) ∧ Below w.heap.size w w' := by
  obtain ⟨aa, ac, rfl, hrow⟩ := hv
  obtain ⟨n, hn⟩ : ∃ n, n = l.length := ⟨_, rfl⟩
  rw [← hn] at hrow hl ⊢
  have HN := Lib.hid hn
  have HA := Lib.hid hrow
  have HS := Lib.hid hs
  have HG := Lib.hid g
  clear hn hrow hs g
  go_enter Tryz.func36, Tryz.ntmps36
  go_wp2_with fail
  go_loopg [3, 4, 5] n (fun gk v3 v4 v5 wr => ∃ (j : Nat) (ov : Value) (opn : List Bytes) (ended : Bool), v3 = ov ∧ v4 = .bool ended ∧ v5 = .int .i64 j ∧ gk + j = n ∧ opn.length ≤ j ∧ Hid (Hold w wr [Strs ov opn]) ∧
    Hid (okL isText opn ended (prev4 l j) (l.drop j) = okL isText [] false false l))
  case atStart => exact ⟨0, .slice none 0 0, [], false, rfl, rfl, rfl, by omega, by simp, Lib.hid (Row.nil (Hold.start w)), rfl⟩
  case round =>
    obtain ⟨j, ov, opn, ended, rfl, rfl, rfl, hig, hom, HZ, HO⟩ := hrel
    by_cases hlt : j < n
    · have hlt' : (j : Int) < (n : Int) := by omega
      obtain ⟨t, ht⟩ : ∃ t, l[j]? = some t := ⟨_, List.getElem?_eq_getElem (by have := HN.out; omega)⟩
      have hmem : t ∈ l := List.mem_of_getElem? ht
      have hd : l.drop j = t :: l.drop (j + 1) := by
        have hj' : j < l.length := by have := HN.out; omega
        rw [List.drop_eq_getElem_cons hj', (List.getElem?_eq_some_iff.1 ht).2]
      have HP : Hid (prev4 l (j + 1) = (t.kind == 4)) := by show _ = _; unfold prev4; simp only [ht]
      have ho := HO.out
      rw [hd] at ho
      simp only [okL] at ho
      have HO2 := Lib.hid ho
      obtain ⟨h, o, rfl, hcells⟩ := HA.out (by omega)
      obtain ⟨av, hta⟩ := hcells j t ht
      have hta := hta.keep HZ.out
      obtain ⟨ta, tc, hav, _⟩ := hta.at_
      subst hav
      have HTA := Lib.hid hta
      have c0 := hta.kind
      have c1 := hta.name
      have c2 := hta.attrs
      have c3 := hta.text
      have HST := Lib.hid (HS.out t hmem)
      have HRT := Lib.hid (refRightToken_any (HG.out.carry HZ.out) t HST.out _ hta.at_)
      clear hta hmem hd ho
      go_wp2_with fail
      refine HRT.out.mono ?_
      rintro e w2 ⟨rfl, hb⟩
      have HZ2 := Lib.hid (HZ.out.below hb)
      have HTB := Lib.hid (HTA.out.keep ((Hold.start wr).below hb))
      have c0 := HTB.out.kind
      have c1 := HTB.out.name
      have c2 := HTB.out.attrs
      have c3 := HTB.out.text
      clear hb
      cases hrt : right isText t
      · have HR : Hid (wholeN l = 5) := by
          show _ = _
          unfold wholeN
          rw [← HO2.out, hrt]; rfl
        clear hrt
        go_wp2_with fail
        go_ret
        exact ⟨by rw [HR.out]; rfl, HZ2.out.old⟩
      · have HO3 := HO2.out
        rw [hrt, Bool.true_and] at HO3
        have HO3 := Lib.hid HO3
        clear hrt
        obtain ⟨oa, oc, rfl⟩ := Row.slice HZ2.out
        by_cases hk2 : t.kind = 2
        · have HO4 := HO3.out
          rw [if_pos hk2] at HO4
          have HO4 := Lib.hid HO4
          by_cases h0 : opn.length = 0
          · have hnil : opn = [] := List.eq_nil_of_length_eq_zero h0
            subst hnil
            clear h0
            cases ended
            · have HN2 : Hid (okL isText (([] : List Bytes) ++ [t.name]) false (prev4 l (j + 1)) (l.drop (j + 1)) = okL isText [] false false l) := by
                show _ = _
                have h1 := HO4.out
                rw [HP.out, show (t.kind == 4) = false from by rw [hk2]; rfl]
                simpa using h1
              obtain ⟨j0, hj, hj0, hj1, hj2⟩ := info_parts infoStr
              have HW := Lib.hid (HZ2.out.alloc (.cells #[str t.name] 9))
              have zz := HW.out.re [1, 0]
              unfold Strs at zz
              have HWS := Lib.hid zz
              clear zz
              go_wp2_with (at_builtin; refine wpl_append rfl _ _ 48 rfl j0 _ 16 undStrs hj hj0 hj1 hj2 rfl (by decide) rfl HWS.out ⟨w2.heap.size, 0, none⟩ 1 1 [str t.name] rfl rfl (news_of HW.out) (by simp [Value.oneCell']) ?c1 ?c2 ?_)
              case c1 => unfold maxLen; omega
              case c2 => omega
              intro v' w14 z
              obtain ⟨va, vc, rfl⟩ := Row.slice z
              have HX := Lib.hid z
              clear z
              have HY : Hid (Hold w w14 [Strs (.slice va (([] : List Bytes).length + 1) vc) (([] : List Bytes) ++ [t.name])]) := by
                show Hold _ _ _
                unfold Strs
                rw [List.length_append, List.length_singleton, List.map_append]
                exact (HX.out.re [1, 0]).drop
              go_wp2_with fail
              go_roundg (gk - 1)
              case measure => omega
              case rel => exact ⟨j + 1, _, ([] : List Bytes) ++ [t.name], false, rfl, rfl, by go_num, by omega, by simp, HY, HN2⟩
            · have HR : Hid (wholeN l = 5) := by
                show _ = _
                unfold wholeN
                rw [← HO4.out]; rfl
              go_wp2_with fail
              go_ret
              exact ⟨by rw [HR.out]; rfl, HZ2.out.old⟩
          · have hpos : 1 ≤ opn.length := by omega
            have hzz : ((opn.length : Int) == 0) = false := by simpa using h0
            have HEMP : Hid ((opn.isEmpty && ended) = false) := by
              show _ = _
              cases opn with
              | nil => exact absurd rfl h0
              | cons => rfl
            have HN2 : Hid (okL isText (opn ++ [t.name]) ended (prev4 l (j + 1)) (l.drop (j + 1)) = okL isText [] false false l) := by
              show _ = _
              have h1 := HO4.out
              rw [HEMP.out] at h1
              rw [HP.out, show (t.kind == 4) = false from by rw [hk2]; rfl]
              simpa using h1
            clear h0
            obtain ⟨j0, hj, hj0, hj1, hj2⟩ := info_parts infoStr
            have HW := Lib.hid (HZ2.out.alloc (.cells #[str t.name] 9))
            have zz := HW.out.re [1, 0]
            unfold Strs at zz
            have HWS := Lib.hid zz
            clear zz
            cases ended
            all_goals
              go_wp2_with (at_builtin; refine wpl_append rfl _ _ 48 rfl j0 _ 16 undStrs hj hj0 hj1 hj2 rfl (by decide) rfl HWS.out ⟨w2.heap.size, 0, none⟩ 1 1 [str t.name] rfl rfl (news_of HW.out) (by simp [Value.oneCell']) ?c1 ?c2 ?_)
              case c1 => unfold maxLen; omega
              case c2 => omega
              intro v' w14 z
              obtain ⟨va, vc, rfl⟩ := Row.slice z
              have HX := Lib.hid z
              clear z
              have HY : Hid (Hold w w14 [Strs (.slice va (opn.length + 1) vc) (opn ++ [t.name])]) := by
                show Hold _ _ _
                unfold Strs
                rw [List.length_append, List.length_singleton, List.map_append]
                exact (HX.out.re [1, 0]).drop
              go_wp2_with fail
              go_roundg (gk - 1)
              case measure => omega
              case rel => exact ⟨j + 1, _, opn ++ [t.name], _, rfl, rfl, by go_num, by omega, by simp; omega, HY, HN2⟩
        · by_cases hk7 : t.kind = 7
          · have HO4 := HO3.out
            rw [if_neg hk2, if_pos hk7] at HO4
            have HO4 := Lib.hid HO4
            by_cases h0 : opn.length = 0
            · have HR : Hid (wholeN l = 5) := by
                show _ = _
                have h2 : opn = [] := List.eq_nil_of_length_eq_zero h0
                unfold wholeN
                rw [← HO4.out, h2]; rfl
              go_wp2_with fail
              go_quiet (fail)
              go_wp2_with fail
              go_ret
              exact ⟨by rw [HR.out]; rfl, below_drewN HZ2.out.old _⟩
            · obtain ⟨g1, c1', hsl, hcap, hcm, hcells2⟩ := Strs.cells HZ2.out (by intro h; rw [h] at h0; exact h0 rfl)
              obtain ⟨rfl, rfl⟩ : oa = some ⟨g1, 0, none⟩ ∧ oc = c1' := by cases hsl; exact ⟨rfl, rfl⟩
              obtain ⟨m, hm⟩ : ∃ m, m + 1 = opn.length := ⟨opn.length - 1, by omega⟩
              have hcell := hcells2 m (by omega)
              have hlast : opn.getLast? = some (opn[m]'(by omega)) := by
                rw [List.getLast?_eq_getElem?, show opn.length - 1 = m from by omega, List.getElem?_eq_getElem (by omega)]
              generalize (opn[m]'(by omega)) = last at *
              have HL := Lib.hid hlast
              have hmn : m + 1 ≤ n := by omega
              have hmj : m ≤ j := by omega
              have HC := Lib.hid (Strs.cutTo (m := m) (by omega) HZ2.out)
              rw [← hm]
              have HM := Lib.hid hm
              clear hcells2 hlast hsl hm hom h0 hcells
              have hneg : ¬ ((m : Int) < 0) := by omega
              have hz1 : (((m : Int) + 1) == 0) = false := by rw [beq_eq_false_iff_ne]; omega
              have hmc : m ≤ oc := by have := HM.out; omega
              have hlt1 : (m : Int) < (m : Int) + 1 := by omega
              by_cases hq : last = t.name
              · subst hq
                have HN2 : Hid (okL isText (opn.take m) (decide (m = 0)) (prev4 l (j + 1)) (l.drop (j + 1)) = okL isText [] false false l) := by
                  show _ = _
                  have h1 := HO4.out
                  rw [HL.out, ← HM.out, Nat.add_sub_cancel] at h1
                  rw [HP.out, show (t.kind == 4) = false from by rw [hk7]; rfl, show decide (m = 0) = (m + 1 == 1) from by rw [Bool.eq_iff_iff]; simp]
                  simpa using h1
                have HLT : Hid ((opn.take m).length ≤ j + 1) := by show _ ≤ _; rw [List.length_take]; omega
                go_wp2_with fail
                go_quiet (fail)
                have HC2 := Lib.hid (HC.out.drewN nq)
                generalize w2.drewN nq = w3 at *
                go_wp2_with fail
                go_roundg (gk - 1)
                case measure => omega
                case rel => exact ⟨j + 1, _, opn.take m, decide (m = 0), rfl, (by first | rfl | (congr 1; done) | (congr 1; simp; done) | (congr 1; rw [Bool.eq_iff_iff]; simp; done) | (congr 1; rw [Bool.eq_iff_iff]; simp; omega)), by go_num, by omega, HLT.out, HC2, HN2⟩
              · have hqq : (last == t.name) = false := by simpa using hq
                have HR : Hid (wholeN l = 5) := by
                  show _ = _
                  unfold wholeN
                  rw [← HO4.out, HL.out]
                  simp [hq]
                go_wp2_with fail
                go_quiet (fail)
                go_wp2_with fail
                go_ret
                exact ⟨by rw [HR.out]; rfl, below_drewN HZ2.out.old _⟩
          · by_cases hk4 : t.kind = 4
            · have HO4 := HO3.out
              rw [if_neg hk2, if_neg hk7, if_pos hk4] at HO4
              have HP2 : Hid (prev4 l (j + 1) = true) := by show _ = _; rw [HP.out]; simpa using hk4
              have HO4 := Lib.hid HO4
              by_cases h0 : opn.length = 0
              · have HR : Hid (wholeN l = 5) := by
                  show _ = _
                  have h2 : opn = [] := List.eq_nil_of_length_eq_zero h0
                  unfold wholeN
                  rw [← HO4.out, h2]; rfl
                go_wp2_with fail
                go_ret
                exact ⟨by rw [HR.out]; rfl, HZ2.out.old⟩
              · have hpos : 1 ≤ opn.length := by omega
                have hzz : ((opn.length : Int) == 0) = false := by simpa using h0
                have HEMP : Hid (opn.isEmpty = false) := by
                  show _ = _
                  cases opn with
                  | nil => exact absurd rfl h0
                  | cons => rfl
                cases j with
                | zero => exact absurd h0 (by omega)
                | succ k =>
                  obtain ⟨tp, htp⟩ : ∃ t, l[k]? = some t := ⟨_, List.getElem?_eq_getElem (by have := HN.out; omega)⟩
                  obtain ⟨avp, htap⟩ := hcells k tp htp
                  have cp := (htap.keep HZ2.out).kind
                  have HPK : Hid (prev4 l (k + 1) = (tp.kind == 4)) := by show _ = _; unfold prev4; simp only [htp]
                  have hgt : (0 : Int) < (k : Int) + 1 := by omega
                  have hkn : (k : Int) < (n : Int) := by omega
                  clear htap htp hcells
                  by_cases hp4 : tp.kind = 4
                  · have HR : Hid (wholeN l = 5) := by
                      show _ = _
                      unfold wholeN
                      rw [← HO4.out, HPK.out, hp4]; simp
                    go_wp2_with fail
                    go_ret
                    exact ⟨by rw [HR.out]; rfl, HZ2.out.old⟩
                  · have hp44 : (tp.kind == 4) = false := by simpa using hp4
                    have HN2 : Hid (okL isText opn ended (prev4 l (k + 1 + 1)) (l.drop (k + 1 + 1)) = okL isText [] false false l) := by
                      show _ = _
                      have h1 := HO4.out
                      rw [HEMP.out, HPK.out, show (tp.kind == 4) = false from by simpa using hp4] at h1
                      rw [HP2.out]
                      simpa using h1
                    go_wp2_with fail
                    go_roundg (gk - 1)
                    case measure => omega
                    case rel => exact ⟨k + 1 + 1, _, opn, ended, rfl, rfl, by go_num, by omega, by omega, HZ2, HN2⟩
            · have HO4 := HO3.out
              rw [if_neg hk2, if_neg hk7, if_neg hk4] at HO4
              have HP2 : Hid (prev4 l (j + 1) = false) := by show _ = _; rw [HP.out]; simpa using hk4
              have HO4 : Hid (okL isText opn ended (prev4 l (j + 1)) (l.drop (j + 1)) = okL isText [] false false l) := by show _ = _; rw [HP2.out]; exact HO4
              go_wp2_with fail
              go_roundg (gk - 1)
              case measure => omega
              case rel => exact ⟨j + 1, _, opn, ended, rfl, rfl, by go_num, by omega, by omega, HZ2, HO4⟩
    · have hge : ¬ (j : Int) < (n : Int) := by omega
      have hd : l.drop j = [] := List.drop_eq_nil_of_le (by have := HN.out; omega)
      have ho := HO.out
      rw [hd] at ho
      simp only [okL] at ho
      have HO2 := Lib.hid ho
      clear ho hd
      obtain ⟨oa, oc, rfl⟩ := Row.slice HZ.out
      cases ended
      · have HR : Hid (wholeN l = 5) := by
          show _ = _
          unfold wholeN
          rw [← HO2.out]; rfl
        go_wp2_with fail
        go_ret
        exact ⟨by rw [HR.out]; rfl, HZ.out.old⟩
      · by_cases h0 : opn.length = 0
        · have HOK : Hid (okL isText [] false false l = true) := by
            show _ = _
            have h2 : opn = [] := List.eq_nil_of_length_eq_zero h0
            rw [← HO2.out, h2]; rfl
          have HR : Hid (wholeN l = if deepN 0 l && !l.any wide && decide (n ≤ 4096) then 0 else 6) := by
            show _ = _
            unfold wholeN
            rw [HOK.out, HN.out]; simp
          have hz0 : ¬ ((0 : Int) < (opn.length : Int)) := by omega
          have HZ1 := Lib.hid HZ.out.drop
          clear HO2 h0 HO hig hlt hom
          go_wp2_with fail
          rename World => wo
          go_loopg [7, 8] n (fun gk v7 v8 wr => wr = wo ∧ ∃ (j d : Nat) (opn : List Bytes) (en pt : Bool), v7 = .int .i64 d ∧ v8 = .int .i64 j ∧ gk + j = n ∧ d ≤ 32 ∧ opn.length = d ∧ Hid (okL isText opn en pt (l.drop j) = true) ∧
            Hid (deepN d (l.drop j) = deepN 0 l) ∧ Hid ((l.drop j).any wide = l.any wide))
          case atStart => exact ⟨rfl, 0, 0, [], false, false, rfl, rfl, by omega, by omega, rfl, HOK, rfl, rfl⟩
          case round =>
            obtain ⟨rfl, j, d, opn2, en, pt, rfl, rfl, hig, hd32, hod, HO, HD, HW⟩ := hrel
            by_cases hlt : j < n
            · have hlt' : (j : Int) < (n : Int) := by omega
              obtain ⟨t, ht⟩ : ∃ t, l[j]? = some t := ⟨_, List.getElem?_eq_getElem (by have := HN.out; omega)⟩
              have hd : l.drop j = t :: l.drop (j + 1) := by
                have hj' : j < l.length := by have := HN.out; omega
                rw [List.drop_eq_getElem_cons hj', (List.getElem?_eq_some_iff.1 ht).2]
              have ho := HO.out
              have hdd := HD.out
              have hww := HW.out
              rw [hd] at ho hdd hww
              simp only [okL, Bool.and_eq_true] at ho
              simp only [deepN] at hdd
              rw [List.any_cons] at hww
              have ho := ho.2
              obtain ⟨h, o, rfl, hcells⟩ := HA.out (by omega)
              obtain ⟨av, hta⟩ := hcells j t ht
              have hta := hta.keep HZ1.out
              obtain ⟨ta, tc, hav, _⟩ := hta.at_
              subst hav
              have c0 := hta.kind
              have c2 := hta.attrs
              have HD2 := Lib.hid hdd
              have HW2 := Lib.hid hww
              have HO3 := Lib.hid ho
              clear hta hcells hd ho hdd hww ht
              by_cases hwd : 64 < t.attrs.length
              · have HR6 : Hid (wholeN l = 6) := by
                  show _ = _
                  rw [HR.out, ← HW2.out, show wide t = true from by unfold wide; simpa using hwd]; simp
                have hwd' : (64 : Int) < (t.attrs.length : Int) := by omega
                by_cases hk2 : t.kind = 2
                · by_cases hd3 : d < 32
                  · have hd3' : ¬ (32 : Int) < (d : Int) + 1 := by omega
                    go_wp2_with fail
                    go_ret
                    exact ⟨by rw [HR6.out]; rfl, HZ1.out.old⟩
                  · have hd3' : (32 : Int) < (d : Int) + 1 := by omega
                    go_wp2_with fail
                    go_ret
                    exact ⟨by rw [HR6.out]; rfl, HZ1.out.old⟩
                · by_cases hk7 : t.kind = 7
                  · have hd3' : ¬ (32 : Int) < (d : Int) - 1 := by omega
                    go_wp2_with fail
                    go_ret
                    exact ⟨by rw [HR6.out]; rfl, HZ1.out.old⟩
                  · have hd3' : ¬ (32 : Int) < (d : Int) := by omega
                    go_wp2_with fail
                    go_ret
                    exact ⟨by rw [HR6.out]; rfl, HZ1.out.old⟩
              · have hwd' : ¬ (64 : Int) < (t.attrs.length : Int) := by omega
                have HW3 : Hid ((l.drop (j + 1)).any wide = l.any wide) := by
                  show _ = _
                  rw [← HW2.out, show wide t = false from by unfold wide; simpa using hwd]; simp
                by_cases hk2 : t.kind = 2
                · have hdd := HD2.out
                  have ho := HO3.out
                  rw [if_pos hk2] at hdd ho
                  simp only [Bool.and_eq_true] at ho
                  have HO4 := Lib.hid ho.2
                  have HD4 := Lib.hid hdd
                  clear hdd ho
                  by_cases hd3 : d < 32
                  · have hd3' : ¬ (32 : Int) < (d : Int) + 1 := by omega
                    have HD5 : Hid (deepN (d + 1) (l.drop (j + 1)) = deepN 0 l) := by
                      show _ = _
                      rw [← HD4.out]; simp [hd3]
                    go_wp2_with fail
                    go_roundg (gk - 1)
                    case measure => omega
                    case rel => exact ⟨rfl, j + 1, d + 1, opn2 ++ [t.name], _, _, by go_num, by go_num, by omega, by omega, by simp; omega, HO4, HD5, HW3⟩
                  · have hd3' : (32 : Int) < (d : Int) + 1 := by omega
                    have HR6 : Hid (wholeN l = 6) := by
                      show _ = _
                      rw [HR.out, ← HD4.out]; simp [hd3]
                    go_wp2_with fail
                    go_ret
                    exact ⟨by rw [HR6.out]; rfl, HZ1.out.old⟩
                · by_cases hk7 : t.kind = 7
                  · have hdd := HD2.out
                    have ho := HO3.out
                    rw [if_neg hk2, if_pos hk7] at hdd ho
                    simp only [Bool.and_eq_true] at ho
                    have hd1 : 1 ≤ d := by
                      rw [← hod]
                      cases opn2 with
                      | nil => have := ho.1; cases this
                      | cons => simp
                    have HO4 := Lib.hid ho.2
                    have HD4 := Lib.hid hdd
                    have hd3' : ¬ (32 : Int) < (d : Int) - 1 := by omega
                    clear hdd ho
                    go_wp2_with fail
                    go_roundg (gk - 1)
                    case measure => omega
                    case rel => exact ⟨rfl, j + 1, d - 1, opn2.take (opn2.length - 1), _, _, by go_num, by go_num, by omega, by omega, by simp; omega, HO4, HD4, HW3⟩
                  · have hdd := HD2.out
                    have ho := HO3.out
                    rw [if_neg hk2, if_neg hk7] at hdd ho
                    have HO4 : ∃ pt', Hid (okL isText opn2 en pt' (l.drop (j + 1)) = true) := by
                      by_cases hk4 : t.kind = 4
                      · rw [if_pos hk4] at ho
                        simp only [Bool.and_eq_true] at ho
                        exact ⟨_, ho.2⟩
                      · rw [if_neg hk4] at ho
                        exact ⟨_, ho⟩
                    obtain ⟨pt', HO4⟩ := HO4
                    have HD4 := Lib.hid hdd
                    have hd3' : ¬ (32 : Int) < (d : Int) := by omega
                    clear hdd ho
                    go_wp2_with fail
                    go_roundg (gk - 1)
                    case measure => omega
                    case rel => exact ⟨rfl, j + 1, d, opn2, _, _, rfl, by go_num, by omega, by omega, hod, HO4, HD4, HW3⟩
            · have hge : ¬ (j : Int) < (n : Int) := by omega
              have hd : l.drop j = [] := List.drop_eq_nil_of_le (by have := HN.out; omega)
              have hdd := HD.out
              have hww := HW.out
              rw [hd] at hdd hww
              have HR2 : Hid (wholeN l = if decide (n ≤ 4096) then 0 else 6) := by
                show _ = _
                rw [HR.out, ← hdd, ← hww]; simp [deepN]
              clear hdd hww hd
              by_cases hn4 : n ≤ 4096
              · have hn4' : ¬ (4096 : Int) < (n : Int) := by omega
                have HR3 : Hid (wholeN l = 0) := by show _ = _; rw [HR2.out]; simp [hn4]
                go_wp2_with fail
                go_ret
                exact ⟨by rw [HR3.out]; rfl, HZ1.out.old⟩
              · have hn4' : (4096 : Int) < (n : Int) := by omega
                have HR3 : Hid (wholeN l = 6) := by show _ = _; rw [HR2.out]; simp [hn4]
                go_wp2_with fail
                go_ret
                exact ⟨by rw [HR3.out]; rfl, HZ1.out.old⟩
        · have HR : Hid (wholeN l = 5) := by
            show _ = _
            unfold wholeN
            cases opn with
            | nil => exact absurd rfl h0
            | cons => rw [← HO2.out]; rfl
          have hz0 : (0 : Int) < (opn.length : Int) := by omega
          clear h0
          go_wp2_with fail
          go_ret
          exact ⟨by rw [HR.out]; rfl, HZ.out.old⟩
end
end Go.Proofs.YtalmkfikfmpmoaaGreatDoor

