/- expand: what an entity comes to is written. -/
import Derived.Test.YtahfcgjlcdbnjaaGreatDoorMExp2
namespace Go.Proofs.YtahfcgjlcdbnjaaGreatDoor
open Go.RowKit

theorem infoStr : (Tryz.prog.info? 9).map (fun i => (i.zero, i.size, i.bytes)) = some (some (.string ⟨#[]⟩), 1, 16) := by kernel_rfl
theorem undStrs : Tryz.prog.underlying 104 = some (.slice 9) := by kernel_rfl

section
variable {W : World} {b : Nat} {s : ByteArray}

theorem Scn.entsCell {w : World} {L : List Asn} {σ : St} (x : Hold W w (Scn b s σ :: L)) : ∃ m, w.cell? ⟨b, 7, none⟩ = some (.map (some m)) ∧
    ∀ k, (Instr.lookup 69 (.map (some m)) (str k) true).run Tryz.prog w = .ok (.tuple #[str ((σ.ents.lookup k).getD []), .bool (σ.ents.lookup k).isSome]) w := by
  obtain ⟨lv, ov, tp, tv, m, htp, y⟩ := Scn.out x
  exact ⟨m, y.cell 7, fun k => run_lookup y.f4 k⟩

set_option maxHeartbeats 1000000 in
set_option maxRecDepth 100000 in
theorem expand_any (g : Glob W) (attr : Bool) (p : Nat) (_hp : p ≤ 32768) (bo : Nat) : ∀ (d : Nat) (w : World) (L : List Asn) (σ : St) (wv : Value) (inside : List Bytes) (nm o : Bytes),
    8 ≤ inside.length + d → inside.length ≤ 8 → nm.length ≤ 1048576 → Ok s σ → EntsOk σ.ents → o.length ≤ 1048576 + σ.grown →
    Hold W w (Scn b s σ :: Bldr bo o :: Strs wv inside :: L) →
    Calls Tryz.prog 172 #[.pointer (some ⟨b, 0, none⟩), .pointer (some ⟨bo, 0, none⟩), str nm, .bool attr, wv, .int .i64 p] w
      (ExpPost W L b s σ bo wv inside (expandN σ.ents attr p d inside nm o σ.grown)) := by
  intro d
  induction d with
  | zero =>
    intro w L σ wv inside nm o hd hin hnm hok hents hol x
    have HO := Lib.hid x
    have HOK := Lib.hid hok
    have HEN := Lib.hid hents
    have HG := Lib.hid g
    have hgr := hok.grown
    obtain ⟨wa, wc, rfl⟩ := Row.slice (x.re [2, 0, 1])
    have hex : expandN σ.ents attr p 0 inside nm o σ.grown = (match plain nm with
      | some t => if inside.length > 0 then (if σ.grown + t.length ≤ 32768 then .ok (o ++ t, σ.grown + t.length) else .error (6, (p : Int))) else .ok (o ++ t, σ.grown)
      | none => match σ.ents.lookup nm with
        | none => .error (5, (p : Int))
        | some _ => if inside.contains nm || !decide (inside.length < 8) then .error (6, (p : Int)) else .error (6, (p : Int))) := by
      conv => lhs; unfold expandN
      rfl
    have HEX := Lib.hid hex
    clear x hok hents g hex
    go_enter Tryz.func172, Tryz.ntmps172
    go_wp2_with fail
    refine (plain_any nm).mono ?_
    rintro e w1 ⟨rfl, hb⟩
    have HX1 := Lib.hid (HO.out.below hb)
    clear hb
    cases hpl : plain nm with
    | some t =>
      have htl := plain_len hpl
      have HPL := Lib.hid hpl
      clear hpl
      unfold plainV
      by_cases hi0 : inside = []
      · have HI := Lib.hid hi0
        have hl0 : decide (0 < inside.length) = false := by rw [hi0]; rfl
        clear hi0
        go_wp2_with fail
        refine (Bldr.writeString t HX1.out.f1 (by omega)).mono ?_
        rintro e w2 ⟨rfl, z⟩
        go_wp2_with fail
        go_end0
        rw [HEX.out, HPL.out, HI.out]
        exact ⟨rfl, by have := z.f1; rw [HI.out] at this; exact this⟩
      · have HI := Lib.hid hi0
        have hl0 : decide (0 < inside.length) = true := by simpa using List.length_pos_iff.2 hi0
        have hl1 : 0 < inside.length := List.length_pos_iff.2 hi0
        clear hi0
        go_wp2_with fail
        refine (grow_any t.length p (by omega) HX1.out HOK.out).mono ?_
        intro e w2 hpost
        unfold grow at hpost
        by_cases hk : σ.grown + t.length ≤ 32768
        · rw [if_pos hk] at hpost
          obtain ⟨rfl, z⟩ := hpost
          have HZ := Lib.hid z.f1
          clear z
          go_wp2_with fail
          refine (Bldr.writeString t HZ.out (by omega)).mono ?_
          rintro e w3 ⟨rfl, z⟩
          go_wp2_with fail
          go_end0
          rw [HEX.out, HPL.out]
          simp only [if_pos hl1, if_pos hk]
          exact ⟨rfl, z.f1⟩
        · rw [if_neg hk] at hpost
          obtain ⟨rfl, z⟩ := hpost
          go_wp2_with fail
          refine ⟨rfl, ?_⟩
          rw [HEX.out, HPL.out]
          simp only [if_pos hl1, if_neg hk]
          exact ⟨rfl, z.drop.drop⟩
    | none =>
      have HPL := Lib.hid hpl
      clear hpl
      unfold plainV
      obtain ⟨m, hc7, hlk0⟩ := Scn.entsCell HX1.out
      have hlk := hlk0 nm
      clear hlk0
      cases hl : σ.ents.lookup nm with
      | none =>
        rw [hl] at hlk
        simp only [Option.getD_none, Option.isSome_none] at hlk
        have HL := Lib.hid hl
        clear hl
        go_wp2_with fail
        refine (must_no _).mono ?_
        rintro e w2 ⟨rfl, rfl⟩
        go_wp2_with fail
        refine ⟨rfl, ?_⟩
        rw [HEX.out, HPL.out]
        simp only [HL.out]
        exact ⟨rfl, HX1.out.drop.drop.drop⟩
      | some t =>
        rw [hl] at hlk
        simp only [Option.getD_some, Option.isSome_some] at hlk
        have HL := Lib.hid hl
        obtain ⟨q, hq, hqt⟩ := lookup_mem hl
        have htl : t.length ≤ 32768 := by rw [← hqt]; exact (HEN.out q hq).1
        have htr : RefsOk t := by rw [← hqt]; exact (HEN.out q hq).2
        have HTR := Lib.hid htr
        clear hl hqt hq htr
        go_wp2_with fail
        refine (must_yes _).mono ?_
        rintro e w2 ⟨rfl, rfl⟩
        go_wp2_with fail
        refine (containsIn _ inside nm (by omega) (HX1.out.re [2, 0, 1])).mono ?_
        rintro e w2 ⟨rfl, rfl⟩
        have hcond : (!inside.contains nm && decide (inside.length < 8)) = !(inside.contains nm || !decide (inside.length < 8)) := by
          cases inside.contains nm <;> simp
        cases hcn : inside.contains nm
        · by_cases hi8 : inside.length < 8
          · omega
          · have HC : Hid ((inside.contains nm || !decide (inside.length < 8)) = true) := by show _ = _; rw [hcn]; simp; omega
            clear hcn hcond hlk hc7
            go_wp2_with fail
            refine (may_any _ _).mono ?_
            rintro e w3 ⟨⟨hm, rfl⟩ | ⟨hm, rfl⟩, rfl⟩
            · simp at hm; omega
            · clear hm
              go_wp2_with fail
              refine ⟨rfl, ?_⟩
              rw [HEX.out, HPL.out]; simp only [HL.out, HC.out, if_true]
              exact ⟨rfl, HX1.out.drop.drop.drop⟩
        · have HC : Hid ((inside.contains nm || !decide (inside.length < 8)) = true) := by show _ = _; rw [hcn]; rfl
          clear hcn hcond hlk hc7
          go_wp2_with fail
          refine (may_no _).mono ?_
          rintro e w3 ⟨rfl, rfl⟩
          go_wp2_with fail
          refine ⟨rfl, ?_⟩
          rw [HEX.out, HPL.out]; simp only [HL.out, HC.out, if_true]
          exact ⟨rfl, HX1.out.drop.drop.drop⟩
  | succ d ih =>
    intro w L σ wv inside nm o hd hin hnm hok hents hol x
    have HO := Lib.hid x
    have HOK := Lib.hid hok
    have HEN := Lib.hid hents
    have HIH := Lib.hid ih
    have HG := Lib.hid g
    have hgr := hok.grown
    obtain ⟨wa, wc, rfl⟩ := Row.slice (x.re [2, 0, 1])
    have hex : expandN σ.ents attr p (d + 1) inside nm o σ.grown = (match plain nm with
      | some t => if inside.length > 0 then (if σ.grown + t.length ≤ 32768 then .ok (o ++ t, σ.grown + t.length) else .error (6, (p : Int))) else .ok (o ++ t, σ.grown)
      | none => match σ.ents.lookup nm with
        | none => .error (5, (p : Int))
        | some s' => if inside.contains nm || !decide (inside.length < 8) then .error (6, (p : Int))
          else expandL (fun e o' k' => expandN σ.ents attr p d (inside ++ [nm]) e o' k') attr p s'.length s' o σ.grown) := by
      conv => lhs; unfold expandN
      rfl
    have HEX := Lib.hid hex
    clear x hok hents ih g hex
    go_enter Tryz.func172, Tryz.ntmps172
    go_wp2_with fail
    refine (plain_any nm).mono ?_
    rintro e w1 ⟨rfl, hb⟩
    have HX1 := Lib.hid (HO.out.below hb)
    clear hb
    cases hpl : plain nm with
    | some t =>
      have htl := plain_len hpl
      have HPL := Lib.hid hpl
      clear hpl
      unfold plainV
      by_cases hi0 : inside = []
      · have HI := Lib.hid hi0
        have hl0 : decide (0 < inside.length) = false := by rw [hi0]; rfl
        clear hi0
        go_wp2_with fail
        refine (Bldr.writeString t HX1.out.f1 (by omega)).mono ?_
        rintro e w2 ⟨rfl, z⟩
        go_wp2_with fail
        go_end0
        rw [HEX.out, HPL.out, HI.out]
        exact ⟨rfl, by have := z.f1; rw [HI.out] at this; exact this⟩
      · have HI := Lib.hid hi0
        have hl0 : decide (0 < inside.length) = true := by simpa using List.length_pos_iff.2 hi0
        have hl1 : 0 < inside.length := List.length_pos_iff.2 hi0
        clear hi0
        go_wp2_with fail
        refine (grow_any t.length p (by omega) HX1.out HOK.out).mono ?_
        intro e w2 hpost
        unfold grow at hpost
        by_cases hk : σ.grown + t.length ≤ 32768
        · rw [if_pos hk] at hpost
          obtain ⟨rfl, z⟩ := hpost
          have HZ := Lib.hid z.f1
          clear z
          go_wp2_with fail
          refine (Bldr.writeString t HZ.out (by omega)).mono ?_
          rintro e w3 ⟨rfl, z⟩
          go_wp2_with fail
          go_end0
          rw [HEX.out, HPL.out]
          simp only [if_pos hl1, if_pos hk]
          exact ⟨rfl, z.f1⟩
        · rw [if_neg hk] at hpost
          obtain ⟨rfl, z⟩ := hpost
          go_wp2_with fail
          refine ⟨rfl, ?_⟩
          rw [HEX.out, HPL.out]
          simp only [if_pos hl1, if_neg hk]
          exact ⟨rfl, z.drop.drop⟩
    | none =>
      have HPL := Lib.hid hpl
      clear hpl
      unfold plainV
      obtain ⟨m, hc7, hlk0⟩ := Scn.entsCell HX1.out
      have hlk := hlk0 nm
      clear hlk0
      cases hl : σ.ents.lookup nm with
      | none =>
        rw [hl] at hlk
        simp only [Option.getD_none, Option.isSome_none] at hlk
        have HL := Lib.hid hl
        clear hl
        go_wp2_with fail
        refine (must_no _).mono ?_
        rintro e w2 ⟨rfl, rfl⟩
        go_wp2_with fail
        refine ⟨rfl, ?_⟩
        rw [HEX.out, HPL.out]
        simp only [HL.out]
        exact ⟨rfl, HX1.out.drop.drop.drop⟩
      | some t =>
        rw [hl] at hlk
        simp only [Option.getD_some, Option.isSome_some] at hlk
        have HL := Lib.hid hl
        obtain ⟨q, hq, hqt⟩ := lookup_mem hl
        have htl : t.length ≤ 32768 := by rw [← hqt]; exact (HEN.out q hq).1
        have htr : RefsOk t := by rw [← hqt]; exact (HEN.out q hq).2
        have HTR := Lib.hid htr
        clear hl hqt hq htr
        go_wp2_with fail
        refine (must_yes _).mono ?_
        rintro e w2 ⟨rfl, rfl⟩
        go_wp2_with fail
        refine (containsIn _ inside nm (by omega) (HX1.out.re [2, 0, 1])).mono ?_
        rintro e w2 ⟨rfl, rfl⟩
        have hcond : (!inside.contains nm && decide (inside.length < 8)) = !(inside.contains nm || !decide (inside.length < 8)) := by
          cases inside.contains nm <;> simp
        cases hcn : inside.contains nm
        · by_cases hi8 : inside.length < 8
          · have HC : Hid ((inside.contains nm || !decide (inside.length < 8)) = false) := by show _ = _; rw [hcn]; simp [hi8]
            clear hcn hcond hlk hc7
            obtain ⟨_, hcap, hcm⟩ := Row.cap (HX1.out.re [2, 0, 1])
            unfold maxLen at hcm
            obtain ⟨i0, hi, hz0, hz1, hz2⟩ := info_parts infoStr
            have HW := Lib.hid (((HX1.out.re [2, 0, 1]).alloc (.cells #[str nm] 9)))
            go_wp2_with fail
            refine (may_any _ _).mono ?_
            rintro e w3 ⟨⟨hm, rfl⟩ | ⟨hm, rfl⟩, rfl⟩
            · clear hm
              go_wp2_with (at_builtin; refine wpl_append_copy rfl _ _ 104 rfl i0 (.string ⟨#[]⟩) 16 undStrs hi hz0 hz1 hz2 rfl wa wc rfl HW.out.f1 ⟨w2.heap.size, 0, none⟩ 1 1 (by decide) [str nm] rfl rfl ?c1 ?c3 ?c4 ?_)
              case c1 => exact news_of HW.out
              case c3 => unfold maxLen; omega
              case c4 => omega
              intro ua uc w4 z
              have z : Hold W w4 (Scn b s σ :: Bldr bo o :: Strs (.slice ua (inside.length + 1) uc) (inside ++ [nm]) :: Strs (.slice wa inside.length wc) inside :: L) := by
                have z1 := (z.re [3, 4, 0, 1, 2])
                have z2 := (z1.re [4, 0, 1, 2, 3]).drop
                have e1 : Strs (.slice ua (inside.length + 1) uc) (inside ++ [nm]) = Row 9 1 (.slice ua (inside.length + 1) uc) (inside.length + 1) (inside.map str ++ [str nm]) := by
                  unfold Strs; simp
                rw [e1]
                exact z2
              have HZ := Lib.hid z
              clear z
              obtain ⟨tot, htot⟩ : ∃ r, expandL (fun e o' k' => expandN σ.ents attr p d (inside ++ [nm]) e o' k') attr p t.length t o σ.grown = r := ⟨_, rfl⟩
              have HT := Lib.hid htot
              have HRES : Hid (expandN σ.ents attr p (d + 1) inside nm o σ.grown = tot) := by
                show _ = _
                rw [HEX.out, HPL.out]; simp only [HL.out, HC.out, Bool.false_eq_true, if_false]; exact HT.out
              clear htot hi hz0 hz1 hz2
              go_wp2_with fail
              go_loopg [14] t.length (fun gk v14 wr => ∃ (rem o' : Bytes) (k : Nat), v14 = str rem ∧
                Hold W wr (Scn b s { σ with grown := k } :: Bldr bo o' :: Strs (.slice ua (inside.length + 1) uc) (inside ++ [nm]) :: Strs (.slice wa inside.length wc) inside :: L) ∧ rem.length ≤ gk ∧
                Hid (expandL (fun e o' k' => expandN σ.ents attr p d (inside ++ [nm]) e o' k') attr p gk rem o' k = tot) ∧ Hid (RefsOk rem) ∧ o'.length ≤ 1048576 + k ∧ k ≤ 32768 ∧ rem.length ≤ 32768)
              case atStart => exact ⟨t, o, σ.grown, rfl, HZ.out, Nat.le_refl _, HT, HTR, hol, hgr, htl⟩
              case round =>
                obtain ⟨rem, o', k, rfl, z, hrk, HE, HRR, hol', hk', hrl⟩ := hrel
                have HZ2 := Lib.hid z
                clear z
                have HOK2 : Hid (Ok s { σ with grown := k }) := ⟨HOK.out.size, HOK.out.pos, HOK.out.toks, HOK.out.opn, HOK.out.text, HOK.out.beg, hk'⟩
                cases rem with
                | nil =>
                  have HOV : Hid (tot = .ok (o', k)) := by
                    show _ = _
                    rw [← HE.out]; cases gk <;> rfl
                  go_wp2_with fail
                  go_end0
                  rw [HRES.out, HOV.out]
                  exact ⟨rfl, HZ2.out.re [0, 1, 3, 2] |>.re [0, 1, 2, 3] |>.f3.drop⟩
                | cons c l =>
                  obtain ⟨gk, rfl⟩ : ∃ g', gk = g' + 1 := ⟨gk - 1, by simp at hrk; omega⟩
                  by_cases hc : c = 38
                  · subst hc
                    have hb0 : ∀ h, (⟨(38 :: l).toArray⟩ : ByteArray)[0]'h = 38 := fun _ => rfl
                    have hr0 : reference (38 :: l) ≠ none := (HRR.out 0 rfl).1
                    have HWI := Lib.hid (show refWild (38 :: l) = false from (HRR.out 0 rfl).2)
                    cases href : reference (38 :: l) with
                    | none => exact absurd href hr0
                    | some q =>
                      obtain ⟨m', t', e'⟩ := q
                      obtain ⟨hm1, hm2, ht4, hel⟩ := reference_size href
                      have hm2' : m' ≤ l.length + 1 := by simpa using hm2
                      have hel' : e'.length ≤ l.length + 1 := by simpa using hel
                      have hrl' : l.length + 1 ≤ 32768 := by simpa using hrl
                      have hrk' : l.length + 1 ≤ gk + 1 := by simpa using hrk
                      have HE2 : Hid (tot = if k + 1 ≤ 32768 then
                          (if e' ≠ [] then
                            match expandN σ.ents attr p d (inside ++ [nm]) e' o' (k + 1) with
                            | .error x => .error x
                            | .ok (o'', k') => expandL (fun e o' k' => expandN σ.ents attr p d (inside ++ [nm]) e o' k') attr p gk ((38 :: l).drop m') o'' k'
                          else if k + 1 + t'.length ≤ 32768 then expandL (fun e o' k' => expandN σ.ents attr p d (inside ++ [nm]) e o' k') attr p gk ((38 :: l).drop m') (o' ++ t') (k + 1 + t'.length) else .error (6, p))
                        else .error (6, p)) := by
                        show _ = _
                        rw [← HE.out]; simp only [expandL]; rw [if_neg (by simp), href]; rfl
                      have HREF := Lib.hid href
                      have HDR : Hid (RefsOk ((38 :: l).drop m')) := HRR.out.drop m'
                      clear href hr0 hm2 hel hrl hrk
                      go_wp2_with fail
                      refine (reference_any (HG.out.carry HZ2.out) (38 :: l) (by simp; omega) rfl HWI.out).mono ?_
                      rw [HREF.out]
                      unfold refV
                      rintro e w5 ⟨rfl, hb⟩
                      have HZ3 := Lib.hid (HZ2.out.below hb)
                      clear hb
                      go_wp2_with fail
                      refine (grow_any 1 p (by decide) HZ3.out HOK2.out).mono ?_
                      intro e w6 hpost
                      unfold grow at hpost
                      by_cases hk1 : k + 1 ≤ 32768
                      · simp only [hk1, if_true] at hpost
                        obtain ⟨rfl, z⟩ := hpost
                        have HZ6 := Lib.hid z
                        have HOK3 : Hid (Ok s { σ with grown := k + 1 }) := ⟨HOK.out.size, HOK.out.pos, HOK.out.toks, HOK.out.opn, HOK.out.text, HOK.out.beg, hk1⟩
                        clear z
                        have hdl : ((38 :: l).drop m').length ≤ gk := by simp; omega
                        have hdl2 : ((38 :: l).drop m').length ≤ 32768 := by simp; omega
                        have HD1 := Lib.hid hdl
                        have HD2 := Lib.hid hdl2
                        have hext : (⟨(38 :: l).toArray⟩ : ByteArray).extract m' (l.length + 1) = ⟨((38 :: l).drop m').toArray⟩ := extract_tail (38 :: l) m'
                        have HXT := Lib.hid hext
                        clear hdl hdl2 hext
                        cases e' with
                        | nil =>
                          go_wp2_with fail
                          refine (grow_any t'.length p (by omega) HZ6.out HOK3.out).mono ?_
                          intro e w7 hpost
                          unfold grow at hpost
                          by_cases hk2 : k + 1 + t'.length ≤ 32768
                          · simp only [hk2, if_true] at hpost
                            obtain ⟨rfl, z⟩ := hpost
                            have HZ7 := Lib.hid z
                            clear z
                            go_wp2_with fail
                            refine (Bldr.writeString t' HZ7.out.f1 (by omega)).mono ?_
                            rintro e w8 ⟨rfl, z⟩
                            have HZ8 := Lib.hid z.f1
                            clear z
                            go_wp2_with fail
                            go_roundg gk
                            case measure => omega
                            case rel =>
                              refine ⟨(38 :: l).drop m', o' ++ t', k + 1 + t'.length, ?_, HZ8.out, HD1.out, ?_, HDR, by simp; omega, hk2, HD2.out⟩
                              · exact congrArg Value.string HXT.out
                              · show _ = _
                                rw [HE2.out, if_pos hk1, if_neg (by simp), if_pos hk2]
                          · simp only [hk2, if_false] at hpost
                            obtain ⟨rfl, z⟩ := hpost
                            go_wp2_with fail
                            refine ⟨rfl, ?_⟩
                            rw [HRES.out, HE2.out, if_pos hk1, if_neg (by simp), if_neg hk2]
                            exact ⟨rfl, z.drop.drop.drop⟩
                        | cons ec el =>
                          go_wp2_with fail
                          refine (HIH.out w6 (Strs (.slice wa inside.length wc) inside :: L) { σ with grown := k + 1 } (.slice ua (inside.length + 1) uc) (inside ++ [nm]) (ec :: el) o' (by simp; omega) (by simp; omega) (by omega) HOK3.out HEN.out (by show _ ≤ 1048576 + (k + 1); omega) HZ6.out).mono ?_
                          intro e w7 hpost
                          have hpost : ExpPost W (Strs (.slice wa inside.length wc) inside :: L) b s { σ with grown := k + 1 } bo (.slice ua (inside.length + 1) uc) (inside ++ [nm]) (expandN σ.ents attr p d (inside ++ [nm]) (ec :: el) o' (k + 1)) e w7 := hpost
                          cases hrec : expandN σ.ents attr p d (inside ++ [nm]) (ec :: el) o' (k + 1) with
                          | error er =>
                            obtain ⟨en, ep⟩ := er
                            rw [hrec] at hpost
                            obtain ⟨rfl, z⟩ := hpost
                            have HRC := Lib.hid hrec
                            clear hrec
                            go_wp2_with fail
                            refine ⟨rfl, ?_⟩
                            rw [HRES.out, HE2.out, if_pos hk1, if_pos (by simp), HRC.out]
                            exact ⟨rfl, z.drop⟩
                          | ok r =>
                            obtain ⟨o2, k2⟩ := r
                            obtain ⟨hl2, hk2, hk3⟩ := expandN_len _ _ _ _ _ _ _ _ _ _ (by simp) hrec hk1
                            rw [hrec] at hpost
                            obtain ⟨rfl, z⟩ := hpost
                            have HRC := Lib.hid hrec
                            have HZ7 := Lib.hid z
                            clear hrec z
                            go_wp2_with fail
                            go_roundg gk
                            case measure => omega
                            case rel =>
                              refine ⟨(38 :: l).drop m', o2, k2, ?_, HZ7.out, HD1.out, ?_, HDR, by omega, hk3, HD2.out⟩
                              · exact congrArg Value.string HXT.out
                              · show _ = _
                                rw [HE2.out, if_pos hk1, if_pos (by simp), HRC.out]
                      · simp only [hk1, if_false] at hpost
                        obtain ⟨rfl, z⟩ := hpost
                        go_wp2_with fail
                        refine ⟨rfl, ?_⟩
                        rw [HRES.out, HE2.out, if_neg hk1]
                        exact ⟨rfl, z.drop.drop.drop⟩
                  · have hcn : c.toNat ≠ 38 := fun h => hc (UInt8.toNat_inj.1 h)
                    have hci : ((c.toNat : Int) == 38) = false := by rw [beq_eq_false_iff_ne]; omega
                    have hb0 : ∀ h, (⟨(c :: l).toArray⟩ : ByteArray)[0]'h = c := fun _ => rfl
                    have hlt := c.toNat_lt
                    have hex1 : (⟨(c :: l).toArray⟩ : ByteArray).extract 0 1 = ⟨[c].toArray⟩ := by rw [extract_part]; rfl
                    have HX1' := Lib.hid hex1
                    have HE2 : Hid (tot = if k + 1 ≤ 32768 then expandL (fun e o' k' => expandN σ.ents attr p d (inside ++ [nm]) e o' k') attr p gk l (o' ++ [if attr && isBlank c.toNat then 32 else c]) (k + 1) else .error (6, p)) := by
                      show _ = _
                      rw [← HE.out]; simp only [expandL]; rw [if_pos hc]
                    clear hex1
                    cases attr
                    · go_wp2_with fail
                      rw [HX1'.out]
                      refine (Bldr.writeString [c] HZ2.out.f1 (by simp; omega)).mono ?_
                      rintro e w5 ⟨rfl, z⟩
                      have HZ5 := Lib.hid z.f1
                      clear z
                      go_wp2_with fail
                      refine (grow_any 1 p (by decide) HZ5.out HOK2.out).mono ?_
                      intro e w6 hpost
                      unfold grow at hpost
                      by_cases hk1 : k + 1 ≤ 32768
                      · simp only [hk1, if_true] at hpost
                        obtain ⟨rfl, z⟩ := hpost
                        have HZ6 := Lib.hid z
                        clear z
                        go_wp2_with fail
                        go_roundg gk
                        case measure => omega
                        case rel =>
                          refine ⟨l, o' ++ [c], k + 1, ?_, HZ6.out, by simp at hrk; omega, ?_, ?_, by simp; omega, hk1, by simp at hrl; omega⟩
                          · first | rfl | exact congrArg Value.string (extract_one (c :: l)) | (simp [extract_part]; done)
                          · show _ = _
                            rw [HE2.out, if_pos hk1]; rfl
                          · have := HRR.out.drop 1
                            exact this
                      · simp only [hk1, if_false] at hpost
                        obtain ⟨rfl, z⟩ := hpost
                        go_wp2_with fail
                        refine ⟨rfl, ?_⟩
                        rw [HRES.out, HE2.out, if_neg hk1]
                        exact ⟨rfl, z.drop.drop.drop⟩
                    · go_wp2_with fail
                      rw [HX1'.out]
                      refine (isBlank_any c.toNat wr).mono ?_
                      rintro e w5 ⟨rfl, rfl⟩
                      cases hbl : isBlank c.toNat
                      · have HBL := Lib.hid hbl
                        clear hbl
                        go_wp2_with fail
                        refine (Bldr.writeString [c] HZ2.out.f1 (by simp; omega)).mono ?_
                        rintro e w5 ⟨rfl, z⟩
                        have HZ5 := Lib.hid z.f1
                        clear z
                        go_wp2_with fail
                        refine (grow_any 1 p (by decide) HZ5.out HOK2.out).mono ?_
                        intro e w6 hpost
                        unfold grow at hpost
                        by_cases hk1 : k + 1 ≤ 32768
                        · simp only [hk1, if_true] at hpost
                          obtain ⟨rfl, z⟩ := hpost
                          have HZ6 := Lib.hid z
                          clear z
                          go_wp2_with fail
                          go_roundg gk
                          case measure => omega
                          case rel =>
                            refine ⟨l, o' ++ [c], k + 1, ?_, HZ6.out, by simp at hrk; omega, ?_, ?_, by simp; omega, hk1, by simp at hrl; omega⟩
                            · first | rfl | exact congrArg Value.string (extract_one (c :: l)) | (simp [extract_part]; done)
                            · show _ = _
                              rw [HE2.out, if_pos hk1]; simp [HBL.out]
                            · have := HRR.out.drop 1
                              exact this
                        · simp only [hk1, if_false] at hpost
                          obtain ⟨rfl, z⟩ := hpost
                          go_wp2_with fail
                          refine ⟨rfl, ?_⟩
                          rw [HRES.out, HE2.out, if_neg hk1]
                          exact ⟨rfl, z.drop.drop.drop⟩
                      · have HBL := Lib.hid hbl
                        clear hbl
                        go_wp2_with fail
                        refine (Bldr.writeString [32] HZ2.out.f1 (by simp; omega)).mono ?_
                        rintro e w5 ⟨rfl, z⟩
                        have HZ5 := Lib.hid z.f1
                        clear z
                        go_wp2_with fail
                        refine (grow_any 1 p (by decide) HZ5.out HOK2.out).mono ?_
                        intro e w6 hpost
                        unfold grow at hpost
                        by_cases hk1 : k + 1 ≤ 32768
                        · simp only [hk1, if_true] at hpost
                          obtain ⟨rfl, z⟩ := hpost
                          have HZ6 := Lib.hid z
                          clear z
                          go_wp2_with fail
                          go_roundg gk
                          case measure => omega
                          case rel =>
                            refine ⟨l, o' ++ [32], k + 1, ?_, HZ6.out, by simp at hrk; omega, ?_, ?_, by simp; omega, hk1, by simp at hrl; omega⟩
                            · first | rfl | exact congrArg Value.string (extract_one (c :: l)) | (simp [extract_part]; done)
                            · show _ = _
                              rw [HE2.out, if_pos hk1]; simp [HBL.out]
                            · have := HRR.out.drop 1
                              exact this
                        · simp only [hk1, if_false] at hpost
                          obtain ⟨rfl, z⟩ := hpost
                          go_wp2_with fail
                          refine ⟨rfl, ?_⟩
                          rw [HRES.out, HE2.out, if_neg hk1]
                          exact ⟨rfl, z.drop.drop.drop⟩
            · simp at hm; omega
          · have HC : Hid ((inside.contains nm || !decide (inside.length < 8)) = true) := by show _ = _; rw [hcn]; simp; omega
            clear hcn hcond hlk hc7
            go_wp2_with fail
            refine (may_any _ _).mono ?_
            rintro e w3 ⟨⟨hm, rfl⟩ | ⟨hm, rfl⟩, rfl⟩
            · simp at hm; omega
            · clear hm
              go_wp2_with fail
              refine ⟨rfl, ?_⟩
              rw [HEX.out, HPL.out]; simp only [HL.out, HC.out, if_true]
              exact ⟨rfl, HX1.out.drop.drop.drop⟩
        · have HC : Hid ((inside.contains nm || !decide (inside.length < 8)) = true) := by show _ = _; rw [hcn]; rfl
          clear hcn hcond hlk hc7
          go_wp2_with fail
          refine (may_no _).mono ?_
          rintro e w3 ⟨rfl, rfl⟩
          go_wp2_with fail
          refine ⟨rfl, ?_⟩
          rw [HEX.out, HPL.out]; simp only [HL.out, HC.out, if_true]
          exact ⟨rfl, HX1.out.drop.drop.drop⟩
end
end Go.Proofs.YtahfcgjlcdbnjaaGreatDoor

