/- The scanner's tag, walked. -/
import Derived.Test.YtahfcgjlcdbnjaaGreatDoorMTag
namespace Go.Proofs.YtahfcgjlcdbnjaaGreatDoor
open Go.RowKit

theorem infoPair : (Tryz.prog.info? 45).map (fun i => (i.zero, i.size, i.bytes)) = some (some (.agg #[.string ⟨#[]⟩, .string ⟨#[]⟩]), 2, 32) := by kernel_rfl
theorem undPairs : Tryz.prog.underlying 36 = some (.slice 45) := by kernel_rfl

section
variable {W w : World} {L : List Asn} {b : Nat} {s : ByteArray} {σ : St}

set_option maxHeartbeats 2000000 in
set_option maxRecDepth 100000 in
theorem tag_any (g : Glob W) (x : Hold W w (Scn b s σ :: L)) (h : Ok s σ) (hen : EntsOk σ.ents) (hlt : σ.pos < s.size) (hnw : tag s σ ≠ .error wild) :
    Calls Tryz.prog 130 #[.pointer (some ⟨b, 0, none⟩)] w (Post W L b s nothing (tag s σ)) := by
  have h1 := h.size
  have hopn := h.opn
  have hc1 := Scn.posCell x
  have hf := Scn.free x 1
  have HM := Lib.hid (Scn.move x (σ.pos + 1) ((σ.pos : Int) + 1) (by push_cast; rfl))
  have hK1 : Ok s (σ.to (σ.pos + 1)) := h.to (by omega)
  have HK := Lib.hid hK1
  have HG := Lib.hid g
  have HE := Lib.hid hen
  have HKQ := Lib.hid hK1.qname
  have HKP := Lib.hid ((Kept.to σ (σ.pos + 1) (by omega)).trans (Kept.qname s (σ.to (σ.pos + 1))))
  have ht : tag s σ = (if (qname s (σ.to (σ.pos + 1))).1.2 then
    match tagL s σ.pos (s.size + 1) (qname s (σ.to (σ.pos + 1))).2 [] with
    | .error x => .error x
    | .ok (az, σ1) =>
      if σ1.opn.length < 32 && az.length ≤ 64 then
        match flushAdd σ1 ⟨2, (qname s (σ.to (σ.pos + 1))).1.1, az, []⟩ σ.pos with
        | .error x => .error x
        | .ok (_, σ2) =>
          if has s σ2 [47, 62] then
            match add (σ2.to (σ2.pos + 2)) ⟨7, (qname s (σ.to (σ.pos + 1))).1.1, [], []⟩ σ.pos with
            | .error x => .error x
            | .ok (_, σ3) => .ok ((), { σ3 with ended := σ3.ended || σ3.opn.length == 0 })
          else .ok ((), { σ2.to (σ2.pos + 1) with opn := σ2.opn ++ [(qname s (σ.to (σ.pos + 1))).1.1] })
      else .error (6, σ.pos)
  else .error (5, σ.pos)) := rfl
  have HT := Lib.hid ht
  have HNW := Lib.hid hnw
  clear x h hen g hK1 ht hnw
  go_enter Tryz.func130, Tryz.ntmps130
  go_wp2_with fail
  refine (qname_any HG.out HM.out HK.out).mono ?_
  rintro e w1 ⟨rfl, z⟩
  generalize qname s (σ.to (σ.pos + 1)) = q at *
  obtain ⟨⟨nm, ok⟩, σq⟩ := q
  have HZ := Lib.hid z
  clear z hc1 hf
  cases ok
  · go_wp2_with fail
    refine (must_no _).mono ?_
    rintro e w4 ⟨rfl, rfl⟩
    go_wp2_with fail
    refine ⟨rfl, ?_⟩
    rw [HT.out]
    exact ⟨rfl, HZ.out.drop⟩
  · obtain ⟨tot, htot⟩ : ∃ r, tagL s σ.pos (s.size + 1) σq [] = r := ⟨_, rfl⟩
    have HTT := Lib.hid htot
    have ht := HT.out
    rw [htot, if_pos rfl] at ht
    simp only at ht
    have HT2 := Lib.hid ht
    clear htot ht HT
    go_wp2_with fail
    refine (must_yes _).mono ?_
    rintro e w2 ⟨rfl, rfl⟩
    obtain ⟨i0, hi, hz0, hz1, hz2⟩ := info_parts infoTok
    go_wp2_with fail
    go_loopg [] (s.size + 1) (fun gk wr => ∃ (σ' : St) (av : Value) (az : List (Bytes × Bytes)), Hold W wr (Scn b s σ' :: Asn.pts w1.heap.size (.cells #[.int .i64 2, str nm, av, str []] 38 (0, 0)) :: Attrs av az :: L) ∧ Hid (Ok s σ') ∧ az.length ≤ σ'.pos ∧ s.size < gk + σ'.pos ∧ Hid (Kept σ σ') ∧ Hid (tagL s σ.pos gk σ' az = tot))
    case atStart =>
      refine ⟨σq, .slice none 0 0, [], ?_, HKQ, Nat.zero_le _, by omega, HKP, HTT⟩
      exact (Row.nil (e := 45) (size := 2) (HZ.out.alloc (.cells #[.int .i64 2, str nm, .slice none 0 0, str []] 38))).re [2, 1, 0]
    case round =>
      obtain ⟨σ', av, az, z, HK', hal, hgk, HKP', HTV⟩ := hrel
      have hps := HK'.out.pos
      obtain ⟨n, rfl⟩ : ∃ n, gk = n + 1 := ⟨gk - 1, by omega⟩
      obtain ⟨aa, ac, rfl⟩ := Row.slice (z.re [2, 0, 1])
      have hvl : tagL s σ.pos (n + 1) σ' az = tot := HTV.out
      simp only [tagL] at hvl
      have HVL := Lib.hid hvl
      have HB := Lib.hid HK'.out.blanks
      have HKB := Lib.hid (HKP'.out.trans (Kept.blanks HK'.out))
      have hkb := (Kept.blanks HK'.out).pos
      have HZ1 := Lib.hid z
      clear HTV hvl z
      go_wp2_with fail
      refine (blanks_any HZ1.out HK'.out).mono ?_
      rintro e w3 ⟨rfl, z⟩
      generalize blanks s σ' = bl at *
      obtain ⟨gap, σb⟩ := bl
      have hpb : σb.pos ≤ s.size := HB.out.pos
      have hkb : σ'.pos ≤ σb.pos := hkb
      have hc0 := Scn.strCell z
      have hc1 : w3.cell? ⟨b, 1, none⟩ = some (.int .i64 σb.pos) := Scn.posCell z
      have HZ2 := Lib.hid z
      clear z
      by_cases hlt : σb.pos < s.size
      · have hlt' : (decide ((σb.pos : Int) < (s.size : Int))) = true := by simp; omega
        have hvl := HVL.out
        simp only at hvl
        rw [if_pos hlt] at hvl
        have HVM := Lib.hid hvl
        clear HVL hvl
        go_wp2_with fail
        go_quiet ((go_at_call 99; exact Calls.quiet_of_same ((must_yes _).mono fun _ _ h => ⟨h.1, h.2.symm⟩)))
        have HZ3 := Lib.hid (HZ2.out.drewN nq)
        clear hc0 hc1
        generalize w3.drewN nq = w4 at *
        go_wp2_with fail
        refine (has_any HZ3.out HB.out [62]).mono ?_
        rintro e w5 ⟨rfl, n1, rfl⟩
        have hvl := HVM.out
        cases hgt : has s σb [62]
        · rw [hgt] at hvl
          go_wp2_with fail
          refine (has_any (HZ3.out.drewN n1) HB.out [47, 62]).mono ?_
          rintro e w6 ⟨rfl, n2, rfl⟩
          cases hsl : has s σb [47, 62]
          · rw [hsl, if_neg (by simp)] at hvl
            have HVN := Lib.hid hvl
            have HZ4 := Lib.hid ((HZ3.out.drewN n1).drewN n2)
            clear hvl hgt hsl
            generalize (w4.drewN n1).drewN n2 = w6 at *
            go_wp2_with fail
            refine (qname_any HG.out HZ4.out HB.out).mono ?_
            rintro e w7 ⟨rfl, z⟩
            have HQ := Lib.hid HB.out.qname
            have HKQ2 := Lib.hid (HKB.out.trans (Kept.qname s σb))
            have hkq := (Kept.qname s σb).pos
            have hvl := HVN.out
            generalize qname s σb = q at *
            obtain ⟨⟨an, aok⟩, σc⟩ := q
            have hkq : σb.pos ≤ σc.pos := hkq
            have HZ5 := Lib.hid z
            have HVN := Lib.hid hvl
            clear z hvl
            cases gap
            · have HVO : Hid (Except.error (5, (σ.pos : Int)) = tot) := HVN.out
              clear HVN
              go_wp2_with fail
              refine (must_no _).mono ?_
              rintro e w9 ⟨rfl, rfl⟩
              go_wp2_with fail
              refine ⟨rfl, ?_⟩
              rw [HT2.out, ← HVO.out]
              exact ⟨rfl, (HZ5.out.alloc _).drop.drop.drop.drop⟩
            · cases aok
              · have HVO : Hid (Except.error (5, (σ.pos : Int)) = tot) := HVN.out
                clear HVN HVM
                go_wp2_with fail
                refine (must_no _).mono ?_
                rintro e w9 ⟨rfl, rfl⟩
                go_wp2_with fail
                refine ⟨rfl, ?_⟩
                rw [HT2.out, ← HVO.out]
                exact ⟨rfl, (HZ5.out.alloc _).drop.drop.drop.drop⟩
              · have HZ6 := Lib.hid (HZ5.out.alloc (.cells #[str an] 9)).f1
                have ha0 : (w7.alloc (.cells #[str an] 9)).heap.size = w7.heap.size + 1 := by simp
                clear HVM
                go_wp2_with fail
                refine (equal_any HZ6.out HQ.out).mono ?_
                rintro e w8 ⟨rfl, z⟩
                have HQE := Lib.hid HQ.out.equal
                have HKQ3 := Lib.hid (HKQ2.out.trans (Kept.equal HQ.out))
                have hke := (Kept.equal HQ.out).pos
                have hvl := HVN.out
                have HVN2 := Lib.hid hvl
                clear HVN hvl
                generalize equal s σc = q at *
                obtain ⟨eok, σe⟩ := q
                have hke : σc.pos ≤ σe.pos := hke
                have HZ7 := Lib.hid z
                have hpe : σe.pos ≤ s.size := HQE.out.pos
                clear z
                cases eok
                · have HVO : Hid (Except.error (5, (σ.pos : Int)) = tot) := HVN2.out
                  clear HVN2
                  go_wp2_with fail
                  refine (must_no _).mono ?_
                  rintro e w9 ⟨rfl, rfl⟩
                  go_wp2_with fail
                  refine ⟨rfl, ?_⟩
                  rw [HT2.out, ← HVO.out]
                  exact ⟨rfl, HZ7.out.drop.drop.drop.drop⟩
                · have hct := HZ7.out.f2.cell 2
                  have hct2 : w8.cell? ⟨w1.heap.size, 2, none⟩ = some (.slice aa az.length ac) := hct
                  clear hct
                  go_wp2_with fail
                  refine (must_yes _).mono ?_
                  rintro e w9 ⟨rfl, rfl⟩
                  go_wp2_with fail
                  refine (contains_name w7.heap.size _ an (.slice aa az.length ac) az (by omega) (HZ7.out.re [3, 1, 0, 2])).mono ?_
                  rintro e w10 ⟨rfl, z⟩
                  have HZ8 := Lib.hid z
                  have hvl : (if named az an = true then Except.error (5, (σ.pos : Int)) else match value s σe with
                    | .error x => .error x
                    | .ok ((v, ok), σv) => if ok then tagL s σ.pos n σv (az ++ [(an, v)]) else .error (5, (σ.pos : Int))) = tot := HVN2.out
                  have HVN := Lib.hid hvl
                  clear z hvl HVN2 hct2
                  cases hnm : named az an
                  · have hvl := HVN.out
                    rw [hnm, if_neg (by simp)] at hvl
                    have HVN3 := Lib.hid hvl
                    have HEE : Hid (EntsOk σe.ents) := by show EntsOk _; rw [HKQ3.out.ents]; exact HE.out
                    clear HVN hvl hnm
                    go_wp2_with fail
                    refine (must_yes _).mono ?_
                    rintro e w11 ⟨rfl, rfl⟩
                    go_wp2_with fail
                    have hnv : value s σe ≠ .error wild := by
                      intro hc
                      have hv := HVN3.out
                      rw [hc] at hv
                      exact HNW.out (by rw [HT2.out, ← hv])
                    have HNV := Lib.hid hnv
                    clear hnv
                    refine (value_any HG.out (HZ8.out.re [2, 1, 0, 3]) HQE.out HEE.out HNV.out).mono ?_
                    intro e w12 hpost
                    cases hva : value s σe with
                    | error er =>
                      obtain ⟨en, ep⟩ := er
                      rw [hva] at hpost
                      obtain ⟨rfl, z⟩ := hpost
                      have hvl := HVN3.out
                      rw [hva] at hvl
                      have HVO : Hid (Except.error (en, ep) = tot) := hvl
                      clear hvl HVN3 hva
                      go_wp2_with fail
                      refine ⟨rfl, ?_⟩
                      rw [HT2.out, ← HVO.out]
                      exact ⟨rfl, (Hold.drop z).drop.drop⟩
                    | ok r =>
                      obtain ⟨⟨v, vok⟩, σv⟩ := r
                      rw [hva] at hpost
                      obtain ⟨rfl, z⟩ := hpost
                      obtain ⟨hkv, hpv, hvp⟩ := value_parts hva HQE.out
                      have HQV := Lib.hid hkv
                      have HKQ4 := Lib.hid (HKQ3.out.trans hpv)
                      have hvl := HVN3.out
                      rw [hva] at hvl
                      have HZ9 := Lib.hid z
                      clear z hva HVN3 hkv hpv
                      cases vok
                      · have HVO : Hid (Except.error (5, (σ.pos : Int)) = tot) := hvl
                        clear hvl hvp
                        go_wp2_with fail
                        refine (must_no _).mono ?_
                        rintro e w9 ⟨rfl, rfl⟩
                        go_wp2_with fail
                        refine ⟨rfl, ?_⟩
                        rw [HT2.out, ← HVO.out]
                        exact ⟨rfl, (Hold.drop HZ9.out).drop.drop.drop⟩
                      · have HVP : Hid (tagL s σ.pos n σv (az ++ [(an, v)]) = tot) := hvl
                        have hvp : σe.pos < σv.pos := hvp rfl
                        clear hvl
                        have hpv := HQV.out.pos
                        have hct2 : w12.cell? ⟨w1.heap.size, 2, none⟩ = some (.slice aa az.length ac) := (HZ9.out.re [3, 0, 1, 2]).cell 2
                        have hca : w12.cell? ⟨w7.heap.size, 0, none⟩ = some (str an) := HZ9.out.f1.cell 0
                        obtain ⟨j0, hj, hj0, hj1, hj2⟩ := info_parts infoPair
                        go_wp2_with fail
                        refine (must_yes _).mono ?_
                        rintro e w13 ⟨rfl, rfl⟩
                        have HW := Lib.hid (HZ9.out.alloc (.cells #[str an, str v] 45))
                        go_wp2_with (at_builtin; refine wpl_append rfl _ _ 36 rfl j0 _ 32 undPairs hj hj0 hj1 hj2 rfl (by decide) rfl (HW.out.re [3, 0, 1, 2, 4]) ⟨w12.heap.size, 0, none⟩ 1 1 [str an, str v] rfl rfl (news_of HW.out) (by simp [Value.oneCell']) ?c1 ?c2 ?_)
                        case c1 => unfold maxLen; omega
                        case c2 => omega
                        intro v' w14 z
                        obtain ⟨va, vc, rfl⟩ := Row.slice z
                        have hfz := (z.re [4, 0, 1, 2, 3]).free 2
                        have hc14 : w14.cell? ⟨w1.heap.size, 2, none⟩ = some (.slice aa az.length ac) := (z.re [4, 0, 1, 2, 3]).cell 2
                        have HX := Lib.hid z
                        clear z hct2 hca
                        go_wp2_with fail
                        go_roundg n
                        case measure => omega
                        case rel =>
                          refine ⟨σv, .slice va (az.length + 1) vc, az ++ [(an, v)], ?_, HQV, by simp; omega, by omega, HKQ4, HVP⟩
                          have y := (((HX.out.re [4, 0, 1, 2, 3]).set 2 (.slice va (az.length + 1) vc)).re [2, 4, 3, 0, 1]).drop.drop
                          have e1 : (az ++ [(an, v)]).length = az.length + 1 := by simp
                          have e2 : (az ++ [(an, v)]).flatMap pairCells = az.flatMap pairCells ++ [str an, str v] := by simp [pairCells]
                          unfold Attrs
                          rw [e1, e2]
                          exact y
                  · have hvl := HVN.out
                    rw [hnm] at hvl
                    have HVO : Hid (Except.error (5, (σ.pos : Int)) = tot) := hvl
                    clear HVN hvl hnm
                    go_wp2_with fail
                    refine (must_no _).mono ?_
                    rintro e w9 ⟨rfl, rfl⟩
                    go_wp2_with fail
                    refine ⟨rfl, ?_⟩
                    rw [HT2.out, ← HVO.out]
                    exact ⟨rfl, HZ8.out.drop.drop.drop.drop⟩
          · rw [hsl, if_pos (by simp)] at hvl
            have HXX := Lib.hid hvl
            have HZ4 := Lib.hid ((HZ3.out.drewN n1).drewN n2)
            clear hvl hgt hsl HVM
            generalize (w4.drewN n1).drewN n2 = wx at *
            have HT3 : Hid (tag s σ = if (decide (σb.opn.length < 32) && decide (az.length ≤ 64)) = true then (match flushAdd σb ⟨2, nm, az, []⟩ σ.pos with
                | .error x => .error x
                | .ok (_, σ2) =>
                  if has s σ2 [47, 62] then
                    match add (σ2.to (σ2.pos + 2)) ⟨7, nm, [], []⟩ σ.pos with
                    | .error x => .error x
                    | .ok (_, σ3) => .ok ((), { σ3 with ended := σ3.ended || σ3.opn.length == 0 })
                  else .ok ((), { σ2.to (σ2.pos + 1) with opn := σ2.opn ++ [nm] })) else .error (6, (σ.pos : Int))) := by
              show _ = _
              rw [HT2.out, ← HXX.out]
            obtain ⟨oa, oc, hc3⟩ := Scn.opnCell HZ4.out
            have hct2 : wx.cell? ⟨w1.heap.size, 2, none⟩ = some (.slice aa az.length ac) := HZ4.out.f1.cell 2
            clear HT2 HXX
            by_cases h32 : σb.opn.length < 32
            · have h32' : decide ((σb.opn.length : Int) < 32) = true := by simp; omega
              by_cases h64 : az.length ≤ 64
              · have h64' : decide ((az.length : Int) ≤ 64) = true := by simp; omega
                go_wp2_with fail
                refine (may_yes _).mono ?_
                rintro e wy ⟨rfl, rfl⟩
                clear hc3 hct2 h32' h64'
                go_wp2_with fail
                refine (flush_any HZ4.out HB.out).mono ?_
                intro e wf hpost
                cases hfl : flush σb with
                | error er =>
                  obtain ⟨en, ep⟩ := er
                  rw [hfl] at hpost
                  obtain ⟨rfl, z⟩ := hpost
                  have HR : Hid (flushAdd σb ⟨2, nm, az, []⟩ σ.pos = .error (en, ep)) := by show _ = _; unfold flushAdd; rw [hfl]
                  clear hfl
                  go_wp2_with fail
                  refine ⟨rfl, ?_⟩
                  rw [HT3.out, if_pos (by simp [h32, h64]), HR.out]
                  exact ⟨rfl, (Hold.drop z).drop⟩
                | ok r =>
                  obtain ⟨_, σf⟩ := r
                  rw [hfl] at hpost
                  obtain ⟨rfl, z⟩ := hpost
                  have HOF := Lib.hid (HB.out.flush hfl)
                  have HFL := Lib.hid hfl
                  have HZF := Lib.hid (z.re [0, 2, 1])
                  clear hfl z
                  have ht0 : wf.cell? ⟨w1.heap.size, 0, none⟩ = some (.int .i64 2) := HZF.out.f2.cell 0
                  have ht1 : wf.cell? ⟨w1.heap.size, 1, none⟩ = some (str nm) := HZF.out.f2.cell 1
                  have ht2 : wf.cell? ⟨w1.heap.size, 2, none⟩ = some (.slice aa az.length ac) := HZF.out.f2.cell 2
                  have ht3 : wf.cell? ⟨w1.heap.size, 3, none⟩ = some (str []) := HZF.out.f2.cell 3
                  go_wp2_with fail
                  refine (add_any ⟨2, nm, az, []⟩ (.slice aa az.length ac) σ.pos HZF.out HOF.out).mono ?_
                  intro e wa hpost
                  cases had : add σf ⟨2, nm, az, []⟩ σ.pos with
                  | error er =>
                    obtain ⟨en, ep⟩ := er
                    rw [had] at hpost
                    obtain ⟨rfl, z⟩ := hpost
                    have HR : Hid (flushAdd σb ⟨2, nm, az, []⟩ σ.pos = .error (en, ep)) := by show _ = _; unfold flushAdd; rw [HFL.out]; exact had
                    clear had
                    go_wp2_with fail
                    refine ⟨rfl, ?_⟩
                    rw [HT3.out, if_pos (by simp [h32, h64]), HR.out]
                    exact ⟨rfl, Hold.drop z⟩
                  | ok r =>
                    obtain ⟨_, σa⟩ := r
                    rw [had] at hpost
                    obtain ⟨rfl, z⟩ := hpost
                    have hfa : flushAdd σb ⟨2, nm, az, []⟩ σ.pos = .ok ((), σa) := by unfold flushAdd; rw [HFL.out]; exact had
                    have HR := Lib.hid hfa
                    have HPT := Lib.hid (flushAdd_parts hfa)
                    have HKA := Lib.hid (HB.out.flushAdd hfa)
                    have HZA := Lib.hid z
                    clear had z hfa
                    clear ht0 ht1 ht2 ht3
                    go_wp2_with fail
                    have HT4 : Hid (tag s σ = if has s σa [47, 62] then (match add (σa.to (σa.pos + 2)) ⟨7, nm, [], []⟩ σ.pos with
                            | .error x => .error x
                            | .ok (_, σ3) => .ok ((), { σ3 with ended := σ3.ended || σ3.opn.length == 0 }))
                          else .ok ((), { σa.to (σa.pos + 1) with opn := σa.opn ++ [nm] })) := by
                      show _ = _
                      rw [HT3.out, if_pos (by simp [h32, h64]), HR.out]
                    refine (eat_any HZA.out HKA.out [47, 62] (by decide)).mono ?_
                    rintro e wb ⟨rfl, z⟩
                    clear HT3 HR
                    unfold eat at *
                    cases hh : has s σa [47, 62]
                    · rw [hh, if_neg (by simp)] at z
                      have ht := HT4.out
                      rw [hh, if_neg (by simp)] at ht
                      rw [if_neg (by simp)]
                      obtain ⟨lv, ov, tp, tv, m, htp, y⟩ := Scn.out z
                      obtain ⟨oa, oc, rfl⟩ := Row.slice y.f2
                      have hc1 : wb.cell? ⟨b, 1, none⟩ = some (.int .i64 σa.pos) := y.cell 1
                      have hc3 : wb.cell? ⟨b, 3, none⟩ = some (.slice oa σa.opn.length oc) := y.cell 3
                      have hf1 := y.free 1
                      have HW := Lib.hid ((y.set 1 (.int .i64 ((σa.pos : Int) + 1))).allocAt (o := .cells #[str nm] 9) (b := wb.heap.size) rfl (by simp))
                      have HT5 := Lib.hid ht
                      have HTP := Lib.hid htp
                      have hla : σa.opn.length ≤ 32 := HKA.out.opn
                      have hpa := HKA.out.pos
                      obtain ⟨j0, hj, hj0, hj1, hj2⟩ := info_parts infoStr
                      have zz := HW.out.re [3, 0, 1, 2, 4, 5, 6]
                      unfold Strs at zz
                      have HWS := Lib.hid zz
                      clear z ht HT4 hh y htp zz
                      go_wp2_with (at_builtin; refine wpl_append rfl _ _ 104 rfl j0 _ 16 undStrs hj hj0 hj1 hj2 rfl (by decide) rfl HWS.out ⟨wb.heap.size, 0, none⟩ 1 1 [str nm] rfl rfl (news_of HW.out) (by simp [Value.oneCell']) ?c1 ?c2 ?_)
                      case c1 => unfold maxLen; omega
                      case c2 => omega
                      intro v' w14 z
                      obtain ⟨va, vc, rfl⟩ := Row.slice z
                      have hfz := (z.re [2, 0, 1, 3, 4, 5, 6]).free 3
                      have hc14 : w14.cell? ⟨b, 3, none⟩ = some (.slice oa σa.opn.length oc) := (z.re [2, 0, 1, 3, 4, 5, 6]).cell 3
                      have HX := Lib.hid z
                      clear z
                      go_wp2_with fail
                      go_end0
                      rw [HT5.out]
                      refine ⟨rfl, ?_⟩
                      have e1 : (σa.opn ++ [nm]).length = σa.opn.length + 1 := by simp
                      have e2 : (σa.opn ++ [nm]).map str = σa.opn.map str ++ [str nm] := by simp
                      have y := (((HX.out.re [2, 0, 1, 3, 4, 5, 6]).set 3 (.slice va (σa.opn.length + 1) vc)).re [2, 6, 0, 3, 1, 4, 5]).drop.drop
                      refine Scn.mk (lv := lv) (ov := .slice va (σa.opn.length + 1) vc) (tp := tp) (tv := tv) (m := m) HTP.out ?_
                      unfold Strs
                      show Hold W _ (_ :: _ :: Row _ _ _ (σa.opn ++ [nm]).length ((σa.opn ++ [nm]).map str) :: _)
                      rw [e1, e2]
                      exact y
                    · rw [hh, if_pos rfl] at z
                      have ht := HT4.out
                      rw [hh, if_pos rfl] at ht
                      rw [if_pos rfl]
                      have HT5 := Lib.hid ht
                      have z : Hold W wb (Scn b s (σa.to (σa.pos + 2)) :: _) := z
                      have HZB := Lib.hid (Row.nil (e := 45) (size := 2) z).f1
                      have HKB2 : Hid (Ok s (σa.to (σa.pos + 2))) := by
                        have := hasPrefix_length hh
                        rw [rest_length] at this
                        have h2 : 2 ≤ s.size - σa.pos := this
                        exact HKA.out.to (by omega)
                      clear z ht HT4 hh
                      go_wp2_with fail
                      refine (add_any ⟨7, nm, [], []⟩ (.slice none 0 0) σ.pos HZB.out HKB2.out).mono ?_
                      intro e wc hpost
                      cases had : add (σa.to (σa.pos + 2)) ⟨7, nm, [], []⟩ σ.pos with
                      | error er =>
                        obtain ⟨en, ep⟩ := er
                        rw [had] at hpost
                        obtain ⟨rfl, z⟩ := hpost
                        have ht := HT5.out
                        rw [had] at ht
                        have HT6 := Lib.hid ht
                        clear had ht HT5
                        go_wp2_with fail
                        refine ⟨rfl, ?_⟩
                        rw [HT6.out]
                        exact ⟨rfl, Hold.drop z⟩
                      | ok r =>
                        obtain ⟨_, σ3⟩ := r
                        rw [had] at hpost
                        obtain ⟨rfl, z⟩ := hpost
                        have ht := HT5.out
                        rw [had] at ht
                        have HT6 := Lib.hid ht
                        have hc9 := Scn.endCell z
                        have hf9 := Scn.free z 9
                        obtain ⟨oa, oc, hc3⟩ := Scn.opnCell z
                        have HZC := Lib.hid z
                        clear had ht HT5 z
                        cases hen : σ3.ended
                        · rw [hen] at hc9
                          have HEN := Lib.hid hen
                          clear hen
                          go_wp2_with fail
                          go_end0
                          rw [HT6.out]
                          refine ⟨rfl, ?_⟩
                          have hc : ((σ3.opn.length : Int) == 0) = (σ3.opn.length == 0) := by rw [Bool.eq_iff_iff]; simp
                          rw [hc, HEN.out, Bool.false_or]
                          exact (Scn.setEnd HZC.out _).f1.drop
                        · rw [hen] at hc9
                          have HEN := Lib.hid hen
                          clear hen
                          go_wp2_with fail
                          go_end0
                          rw [HT6.out]
                          refine ⟨rfl, ?_⟩
                          rw [HEN.out, Bool.true_or]
                          exact (Scn.setEnd HZC.out true).f1.drop
              · have h64' : decide ((az.length : Int) ≤ 64) = false := by simp; omega
                go_wp2_with fail
                refine (may_no _).mono ?_
                rintro e wy ⟨rfl, rfl⟩
                go_wp2_with fail
                refine ⟨rfl, ?_⟩
                rw [HT3.out, if_neg (by simp [h64])]
                exact ⟨rfl, HZ4.out.drop.drop.drop⟩
            · have h32' : decide ((σb.opn.length : Int) < 32) = false := by simp; omega
              go_wp2_with fail
              refine (may_no _).mono ?_
              rintro e wy ⟨rfl, rfl⟩
              go_wp2_with fail
              refine ⟨rfl, ?_⟩
              rw [HT3.out, if_neg (by simp [h32])]
              exact ⟨rfl, HZ4.out.drop.drop.drop⟩
        · rw [hgt, if_pos (by simp)] at hvl
          have HXX := Lib.hid hvl
          have HZ4 := Lib.hid (HZ3.out.drewN n1)
          clear hvl hgt HVM
          generalize w4.drewN n1 = wx at *
          have HT3 : Hid (tag s σ = if (decide (σb.opn.length < 32) && decide (az.length ≤ 64)) = true then (match flushAdd σb ⟨2, nm, az, []⟩ σ.pos with
              | .error x => .error x
              | .ok (_, σ2) =>
                if has s σ2 [47, 62] then
                  match add (σ2.to (σ2.pos + 2)) ⟨7, nm, [], []⟩ σ.pos with
                  | .error x => .error x
                  | .ok (_, σ3) => .ok ((), { σ3 with ended := σ3.ended || σ3.opn.length == 0 })
                else .ok ((), { σ2.to (σ2.pos + 1) with opn := σ2.opn ++ [nm] })) else .error (6, (σ.pos : Int))) := by
            show _ = _
            rw [HT2.out, ← HXX.out]
          obtain ⟨oa, oc, hc3⟩ := Scn.opnCell HZ4.out
          have hct2 : wx.cell? ⟨w1.heap.size, 2, none⟩ = some (.slice aa az.length ac) := HZ4.out.f1.cell 2
          clear HT2 HXX
          by_cases h32 : σb.opn.length < 32
          · have h32' : decide ((σb.opn.length : Int) < 32) = true := by simp; omega
            by_cases h64 : az.length ≤ 64
            · have h64' : decide ((az.length : Int) ≤ 64) = true := by simp; omega
              go_wp2_with fail
              refine (may_yes _).mono ?_
              rintro e wy ⟨rfl, rfl⟩
              clear hc3 hct2 h32' h64'
              go_wp2_with fail
              refine (flush_any HZ4.out HB.out).mono ?_
              intro e wf hpost
              cases hfl : flush σb with
              | error er =>
                obtain ⟨en, ep⟩ := er
                rw [hfl] at hpost
                obtain ⟨rfl, z⟩ := hpost
                have HR : Hid (flushAdd σb ⟨2, nm, az, []⟩ σ.pos = .error (en, ep)) := by show _ = _; unfold flushAdd; rw [hfl]
                clear hfl
                go_wp2_with fail
                refine ⟨rfl, ?_⟩
                rw [HT3.out, if_pos (by simp [h32, h64]), HR.out]
                exact ⟨rfl, (Hold.drop z).drop⟩
              | ok r =>
                obtain ⟨_, σf⟩ := r
                rw [hfl] at hpost
                obtain ⟨rfl, z⟩ := hpost
                have HOF := Lib.hid (HB.out.flush hfl)
                have HFL := Lib.hid hfl
                have HZF := Lib.hid (z.re [0, 2, 1])
                clear hfl z
                have ht0 : wf.cell? ⟨w1.heap.size, 0, none⟩ = some (.int .i64 2) := HZF.out.f2.cell 0
                have ht1 : wf.cell? ⟨w1.heap.size, 1, none⟩ = some (str nm) := HZF.out.f2.cell 1
                have ht2 : wf.cell? ⟨w1.heap.size, 2, none⟩ = some (.slice aa az.length ac) := HZF.out.f2.cell 2
                have ht3 : wf.cell? ⟨w1.heap.size, 3, none⟩ = some (str []) := HZF.out.f2.cell 3
                go_wp2_with fail
                refine (add_any ⟨2, nm, az, []⟩ (.slice aa az.length ac) σ.pos HZF.out HOF.out).mono ?_
                intro e wa hpost
                cases had : add σf ⟨2, nm, az, []⟩ σ.pos with
                | error er =>
                  obtain ⟨en, ep⟩ := er
                  rw [had] at hpost
                  obtain ⟨rfl, z⟩ := hpost
                  have HR : Hid (flushAdd σb ⟨2, nm, az, []⟩ σ.pos = .error (en, ep)) := by show _ = _; unfold flushAdd; rw [HFL.out]; exact had
                  clear had
                  go_wp2_with fail
                  refine ⟨rfl, ?_⟩
                  rw [HT3.out, if_pos (by simp [h32, h64]), HR.out]
                  exact ⟨rfl, Hold.drop z⟩
                | ok r =>
                  obtain ⟨_, σa⟩ := r
                  rw [had] at hpost
                  obtain ⟨rfl, z⟩ := hpost
                  have hfa : flushAdd σb ⟨2, nm, az, []⟩ σ.pos = .ok ((), σa) := by unfold flushAdd; rw [HFL.out]; exact had
                  have HR := Lib.hid hfa
                  have HPT := Lib.hid (flushAdd_parts hfa)
                  have HKA := Lib.hid (HB.out.flushAdd hfa)
                  have HZA := Lib.hid z
                  clear had z hfa
                  clear ht0 ht1 ht2 ht3
                  go_wp2_with fail
                  have HT4 : Hid (tag s σ = if has s σa [47, 62] then (match add (σa.to (σa.pos + 2)) ⟨7, nm, [], []⟩ σ.pos with
                          | .error x => .error x
                          | .ok (_, σ3) => .ok ((), { σ3 with ended := σ3.ended || σ3.opn.length == 0 }))
                        else .ok ((), { σa.to (σa.pos + 1) with opn := σa.opn ++ [nm] })) := by
                    show _ = _
                    rw [HT3.out, if_pos (by simp [h32, h64]), HR.out]
                  refine (eat_any HZA.out HKA.out [47, 62] (by decide)).mono ?_
                  rintro e wb ⟨rfl, z⟩
                  clear HT3 HR
                  unfold eat at *
                  cases hh : has s σa [47, 62]
                  · rw [hh, if_neg (by simp)] at z
                    have ht := HT4.out
                    rw [hh, if_neg (by simp)] at ht
                    rw [if_neg (by simp)]
                    obtain ⟨lv, ov, tp, tv, m, htp, y⟩ := Scn.out z
                    obtain ⟨oa, oc, rfl⟩ := Row.slice y.f2
                    have hc1 : wb.cell? ⟨b, 1, none⟩ = some (.int .i64 σa.pos) := y.cell 1
                    have hc3 : wb.cell? ⟨b, 3, none⟩ = some (.slice oa σa.opn.length oc) := y.cell 3
                    have hf1 := y.free 1
                    have HW := Lib.hid ((y.set 1 (.int .i64 ((σa.pos : Int) + 1))).allocAt (o := .cells #[str nm] 9) (b := wb.heap.size) rfl (by simp))
                    have HT5 := Lib.hid ht
                    have HTP := Lib.hid htp
                    have hla : σa.opn.length ≤ 32 := HKA.out.opn
                    have hpa := HKA.out.pos
                    obtain ⟨j0, hj, hj0, hj1, hj2⟩ := info_parts infoStr
                    have zz := HW.out.re [3, 0, 1, 2, 4, 5, 6]
                    unfold Strs at zz
                    have HWS := Lib.hid zz
                    clear z ht HT4 hh y htp zz
                    go_wp2_with (at_builtin; refine wpl_append rfl _ _ 104 rfl j0 _ 16 undStrs hj hj0 hj1 hj2 rfl (by decide) rfl HWS.out ⟨wb.heap.size, 0, none⟩ 1 1 [str nm] rfl rfl (news_of HW.out) (by simp [Value.oneCell']) ?c1 ?c2 ?_)
                    case c1 => unfold maxLen; omega
                    case c2 => omega
                    intro v' w14 z
                    obtain ⟨va, vc, rfl⟩ := Row.slice z
                    have hfz := (z.re [2, 0, 1, 3, 4, 5, 6]).free 3
                    have hc14 : w14.cell? ⟨b, 3, none⟩ = some (.slice oa σa.opn.length oc) := (z.re [2, 0, 1, 3, 4, 5, 6]).cell 3
                    have HX := Lib.hid z
                    clear z
                    go_wp2_with fail
                    go_end0
                    rw [HT5.out]
                    refine ⟨rfl, ?_⟩
                    have e1 : (σa.opn ++ [nm]).length = σa.opn.length + 1 := by simp
                    have e2 : (σa.opn ++ [nm]).map str = σa.opn.map str ++ [str nm] := by simp
                    have y := (((HX.out.re [2, 0, 1, 3, 4, 5, 6]).set 3 (.slice va (σa.opn.length + 1) vc)).re [2, 6, 0, 3, 1, 4, 5]).drop.drop
                    refine Scn.mk (lv := lv) (ov := .slice va (σa.opn.length + 1) vc) (tp := tp) (tv := tv) (m := m) HTP.out ?_
                    unfold Strs
                    show Hold W _ (_ :: _ :: Row _ _ _ (σa.opn ++ [nm]).length ((σa.opn ++ [nm]).map str) :: _)
                    rw [e1, e2]
                    exact y
                  · rw [hh, if_pos rfl] at z
                    have ht := HT4.out
                    rw [hh, if_pos rfl] at ht
                    rw [if_pos rfl]
                    have HT5 := Lib.hid ht
                    have z : Hold W wb (Scn b s (σa.to (σa.pos + 2)) :: _) := z
                    have HZB := Lib.hid (Row.nil (e := 45) (size := 2) z).f1
                    have HKB2 : Hid (Ok s (σa.to (σa.pos + 2))) := by
                      have := hasPrefix_length hh
                      rw [rest_length] at this
                      have h2 : 2 ≤ s.size - σa.pos := this
                      exact HKA.out.to (by omega)
                    clear z ht HT4 hh
                    go_wp2_with fail
                    refine (add_any ⟨7, nm, [], []⟩ (.slice none 0 0) σ.pos HZB.out HKB2.out).mono ?_
                    intro e wc hpost
                    cases had : add (σa.to (σa.pos + 2)) ⟨7, nm, [], []⟩ σ.pos with
                    | error er =>
                      obtain ⟨en, ep⟩ := er
                      rw [had] at hpost
                      obtain ⟨rfl, z⟩ := hpost
                      have ht := HT5.out
                      rw [had] at ht
                      have HT6 := Lib.hid ht
                      clear had ht HT5
                      go_wp2_with fail
                      refine ⟨rfl, ?_⟩
                      rw [HT6.out]
                      exact ⟨rfl, Hold.drop z⟩
                    | ok r =>
                      obtain ⟨_, σ3⟩ := r
                      rw [had] at hpost
                      obtain ⟨rfl, z⟩ := hpost
                      have ht := HT5.out
                      rw [had] at ht
                      have HT6 := Lib.hid ht
                      have hc9 := Scn.endCell z
                      have hf9 := Scn.free z 9
                      obtain ⟨oa, oc, hc3⟩ := Scn.opnCell z
                      have HZC := Lib.hid z
                      clear had ht HT5 z
                      cases hen : σ3.ended
                      · rw [hen] at hc9
                        have HEN := Lib.hid hen
                        clear hen
                        go_wp2_with fail
                        go_end0
                        rw [HT6.out]
                        refine ⟨rfl, ?_⟩
                        have hc : ((σ3.opn.length : Int) == 0) = (σ3.opn.length == 0) := by rw [Bool.eq_iff_iff]; simp
                        rw [hc, HEN.out, Bool.false_or]
                        exact (Scn.setEnd HZC.out _).f1.drop
                      · rw [hen] at hc9
                        have HEN := Lib.hid hen
                        clear hen
                        go_wp2_with fail
                        go_end0
                        rw [HT6.out]
                        refine ⟨rfl, ?_⟩
                        rw [HEN.out, Bool.true_or]
                        exact (Scn.setEnd HZC.out true).f1.drop
            · have h64' : decide ((az.length : Int) ≤ 64) = false := by simp; omega
              go_wp2_with fail
              refine (may_no _).mono ?_
              rintro e wy ⟨rfl, rfl⟩
              go_wp2_with fail
              refine ⟨rfl, ?_⟩
              rw [HT3.out, if_neg (by simp [h64])]
              exact ⟨rfl, HZ4.out.drop.drop.drop⟩
          · have h32' : decide ((σb.opn.length : Int) < 32) = false := by simp; omega
            go_wp2_with fail
            refine (may_no _).mono ?_
            rintro e wy ⟨rfl, rfl⟩
            go_wp2_with fail
            refine ⟨rfl, ?_⟩
            rw [HT3.out, if_neg (by simp [h32])]
            exact ⟨rfl, HZ4.out.drop.drop.drop⟩
      · have hlt' : (decide ((σb.pos : Int) < (s.size : Int))) = false := by simp; omega
        have hvl := HVL.out
        simp only at hvl
        rw [if_neg hlt] at hvl
        have HVM := Lib.hid hvl
        clear HVL hvl
        go_wp2_with fail
        go_region_held2 (fun w' => w'.cell? ⟨b, 0, none⟩ = some (.string s) ∧ w'.cell? ⟨b, 1, none⟩ = some (.int .i64 σb.pos))
          (first | exact hF.elim | go_keep | exact ⟨hc0, hc1⟩)
          (first
            | (go_at_call 99
               refine (must_no _).mono ?_
               rintro e w9 ⟨rfl, rfl⟩
               refine dead ‹Shut _› ⟨rfl, by rw [HT2.out, ← HVM.out]; exact ⟨rfl, HZ2.out.drew.drop.drop.drop⟩⟩ (fun hF => ?_)))
        exact hF.elim
end
end Go.Proofs.YtahfcgjlcdbnjaaGreatDoor

