/- doctype: the document type is passed. -/
import Derived.Test.YtahfcgjlcdbnjaaGreatDoorMEnt
import Derived.Test.YtahfcgjlcdbnjaaGreatDoorMPart
namespace Go.Proofs.YtahfcgjlcdbnjaaGreatDoor
open Go.RowKit

/-- What stands behind the declarations. -/
def docTail (s : ByteArray) (σ : St) : M Unit → M Unit
  | .error x => .error x
  | .ok (_, σ1) => if (eat s σ1 [93]).1 then (if (eat s (blanks s (eat s σ1 [93]).2).2 [62]).1 then .ok ((), (eat s (blanks s (eat s σ1 [93]).2).2 [62]).2) else .error (5, σ.pos)) else .error (5, (eat s σ1 [93]).2.pos)

section
variable {W w : World} {L : List Asn} {b : Nat} {s : ByteArray} {σ : St}

set_option maxHeartbeats 4000000 in
set_option maxRecDepth 100000 in
theorem doctype_any (g : Glob W) (x : Hold W w (Scn b s σ :: L)) (h : Inv s σ) (hp : σ.pos + 9 ≤ s.size) (hnw : doctype s σ ≠ .error wild) :
    Calls Tryz.prog 132 #[.pointer (some ⟨b, 0, none⟩)] w (Post W L b s nothing (doctype s σ)) := by
  have hc1 := Scn.posCell x
  have hf := Scn.free x 1
  have h1 := h.ok.size
  have h0 : Inv s (σ.to (σ.pos + 9)) := h.to (by omega) hp
  have HM := Lib.hid (Scn.move x (σ.pos + 9) ((σ.pos : Int) + 9) (by push_cast; rfl))
  have HK := Lib.hid h0.ok
  have HI := Lib.hid (h0.blanks.qname.blanks.eat [91])
  have HG := Lib.hid g
  have HNW := Lib.hid hnw
  clear x h h0 g hnw
  go_enter Tryz.func132, Tryz.ntmps132
  go_wp2_with fail
  refine (blanks_any HM.out HK.out).mono ?_
  rintro e w21 ⟨rfl, z⟩
  obtain ⟨⟨ba, σ1⟩, hq⟩ : ∃ q, blanks s (σ.to (σ.pos + 9)) = q := ⟨_, rfl⟩
  have hk := HK.out.blanks
  rw [hq] at hk
  simp only [hq] at z ⊢
  have HQ1 := Lib.hid hq
  have HZ1 := Lib.hid z
  have HK1 := Lib.hid hk
  clear hq z hk
  go_wp2_with fail
  refine (qname_any HG.out HZ1.out HK1.out).mono ?_
  rintro e w22 ⟨rfl, z⟩
  obtain ⟨⟨⟨nm, qok⟩, σ2⟩, hq⟩ : ∃ q, qname s σ1 = q := ⟨_, rfl⟩
  have hk := HK1.out.qname
  rw [hq] at hk
  simp only [hq] at z ⊢
  have HQ2 := Lib.hid hq
  have HZ2 := Lib.hid z
  have HK2 := Lib.hid hk
  clear hq z hk
  cases ba
  · go_wp2_with fail
    refine (must_no _).mono ?_
    rintro e w9 ⟨rfl, rfl⟩
    go_wp2_with fail
    refine ⟨rfl, ?_⟩
    rw [show doctype s σ = .error (5, σ.pos) from by simp only [doctype, HQ1.out, HQ2.out]; rfl]
    exact ⟨rfl, HZ2.out.drop⟩
  · cases qok
    · go_wp2_with fail
      refine (must_no _).mono ?_
      rintro e w9 ⟨rfl, rfl⟩
      go_wp2_with fail
      refine ⟨rfl, ?_⟩
      rw [show doctype s σ = .error (5, σ.pos) from by simp only [doctype, HQ1.out, HQ2.out]; rfl]
      exact ⟨rfl, HZ2.out.drop⟩
    · go_wp2_with fail
      refine (must_yes _).mono ?_
      rintro e w8 ⟨rfl, rfl⟩
      go_wp2_with fail
      refine (blanks_any HZ2.out HK2.out).mono ?_
      rintro e w23 ⟨rfl, z⟩
      obtain ⟨⟨bb, σ3⟩, hq⟩ : ∃ q, blanks s σ2 = q := ⟨_, rfl⟩
      have hk := HK2.out.blanks
      rw [hq] at hk
      simp only [hq] at z ⊢
      have HQ3 := Lib.hid hq
      have HZ3 := Lib.hid z
      have HK3 := Lib.hid hk
      clear hq z hk
      go_wp2_with fail
      refine (eat_any HZ3.out HK3.out [91] (by decide)).mono ?_
      rintro e w24 ⟨rfl, z⟩
      obtain ⟨⟨e1, σ4⟩, hq⟩ : ∃ q, eat s σ3 [91] = q := ⟨_, rfl⟩
      have hk := HK3.out.eat [91]
      rw [hq] at hk
      simp only [hq] at z ⊢
      have HQ4 := Lib.hid hq
      have HZ4 := Lib.hid z
      have HK4 := Lib.hid hk
      clear hq z hk
      have hi4 : Inv s σ4 := by
        have := HI.out
        rw [HQ1.out, HQ2.out, HQ3.out, HQ4.out] at this
        exact this
      have HI4 := Lib.hid hi4
      clear hi4
      cases e1
      · go_wp2_with fail
        refine (eat_any HZ4.out HK4.out [62] (by decide)).mono ?_
        rintro e w25 ⟨rfl, z⟩
        obtain ⟨⟨h1b, σ5⟩, hq⟩ : ∃ q, eat s σ4 [62] = q := ⟨_, rfl⟩
        have hk := HK4.out.eat [62]
        rw [hq] at hk
        simp only [hq] at z ⊢
        have HQ5 := Lib.hid hq
        have HZ5 := Lib.hid z
        have HK5 := Lib.hid hk
        clear hq z hk
        cases h1b
        · go_wp2_with fail
          refine (must_no _).mono ?_
          rintro e w9 ⟨rfl, rfl⟩
          go_wp2_with fail
          refine ⟨rfl, ?_⟩
          rw [show doctype s σ = .error (5, σ.pos) from by simp only [doctype, HQ1.out, HQ2.out, HQ3.out, HQ4.out, HQ5.out]; rfl]
          exact ⟨rfl, HZ5.out.drop⟩
        · go_wp2_with fail
          refine (must_yes _).mono ?_
          rintro e w8 ⟨rfl, rfl⟩
          go_wp2_with fail
          go_end0
          rw [show doctype s σ = .ok ((), σ5) from by simp only [doctype, HQ1.out, HQ2.out, HQ3.out, HQ4.out, HQ5.out]; rfl]
          exact ⟨rfl, HZ5.out⟩
      · obtain ⟨tot, htot⟩ : ∃ r, decls s (s.size + 1) σ4 = r := ⟨_, rfl⟩
        have HTT := Lib.hid htot
        have hfin : doctype s σ = docTail s σ tot := by
          simp only [doctype, HQ1.out, HQ2.out, HQ3.out, HQ4.out, htot, Bool.and_self, if_true]
          cases tot <;> rfl
        have HFIN := Lib.hid hfin
        clear hfin htot
        have hp4 := HK4.out.pos
        go_wp2_with fail
        go_step3
        go_wp2_with fail
        go_step3
        go_wp2_with fail
        go_loopg [] (s.size + 1) (fun gk wr => ∃ σ' : St, Hold W wr (Scn b s σ' :: L) ∧ Hid (Inv s σ') ∧ s.size < gk + σ'.pos ∧ Hid (decls s gk σ' = tot))
        case atStart => exact ⟨σ4, HZ4.out, HI4, by omega, HTT⟩
        case round =>
          obtain ⟨σl, z, HIL, hgk, HTL⟩ := hrel
          have hps := HIL.out.ok.pos
          obtain ⟨n, rfl⟩ : ∃ n, gk = n + 1 := ⟨gk - 1, by omega⟩
          have hvl : decls s (n + 1) σl = tot := HTL.out
          simp only [decls] at hvl
          have HVL := Lib.hid hvl
          have HZL := Lib.hid z
          clear z hvl HTL
          have HKL := Lib.hid HIL.out.ok
          go_wp2_with fail
          refine (blanks_any HZL.out HKL.out).mono ?_
          rintro e w26 ⟨rfl, z⟩
          obtain ⟨⟨bl, σb⟩, hq⟩ : ∃ q, blanks s σl = q := ⟨_, rfl⟩
          have hk := HKL.out.blanks
          rw [hq] at hk
          simp only [hq] at z ⊢
          have hib : Inv s σb := by
            have := HIL.out.blanks
            rw [hq] at this
            exact this
          have HIB := Lib.hid hib
          have hpb : σl.pos ≤ σb.pos := by
            have := (Kept.blanks HIL.out.ok).pos
            rw [hq] at this
            exact this
          clear hib
          have HQ6 := Lib.hid hq
          have HZ6 := Lib.hid z
          have HK6 := Lib.hid hk
          clear hq z hk
          have hvl := HVL.out
          simp only [HQ6.out] at hvl
          have HVM := Lib.hid hvl
          clear hvl HVL
          go_wp2_with fail
          refine (has_any HZ6.out HK6.out commB).mono ?_
          rintro e w27 ⟨rfl, n7, hw⟩
          have hz := HZ6.out.drewN n7
          rw [← hw] at hz
          have HZ7 := Lib.hid hz
          clear hw hz
          cases hhc : has s σb commB
          · have hvl := HVM.out
            rw [hhc, if_neg (by simp)] at hvl
            have HVM := Lib.hid hvl
            clear hvl hhc
            go_wp2_with fail
            refine (has_any HZ7.out HK6.out [60, 63]).mono ?_
            rintro e w28 ⟨rfl, n8, hw⟩
            have hz := HZ7.out.drewN n8
            rw [← hw] at hz
            have HZ8 := Lib.hid hz
            clear hw hz
            cases hhp : has s σb [60, 63]
            · have hvl := HVM.out
              rw [hhp, if_neg (by simp)] at hvl
              have HVM := Lib.hid hvl
              clear hvl hhp
              go_wp2_with fail
              refine (has_any HZ8.out HK6.out entityB).mono ?_
              rintro e w29 ⟨rfl, n9, hw⟩
              have hz := HZ8.out.drewN n9
              rw [← hw] at hz
              have HZ9 := Lib.hid hz
              clear hw hz
              cases hhe : has s σb entityB
              · have hvl := HVM.out
                rw [hhe, if_neg (by simp)] at hvl
                have HVM := Lib.hid hvl
                clear hvl hhe
                have HVE : Hid (Except.ok ((), σb) = tot) := HVM.out
                clear HVM
                have hfin := HFIN.out
                rw [← HVE.out] at hfin
                simp only [docTail] at hfin
                have HFE := Lib.hid hfin
                clear hfin
                go_wp2_with fail
                refine (eat_any HZ9.out HK6.out [93] (by decide)).mono ?_
                rintro e w30 ⟨rfl, z⟩
                obtain ⟨⟨f1, σf⟩, hq⟩ : ∃ q, eat s σb [93] = q := ⟨_, rfl⟩
                have hk := HK6.out.eat [93]
                rw [hq] at hk
                simp only [hq] at z ⊢
                have HQ10 := Lib.hid hq
                have HZ10 := Lib.hid z
                have HK10 := Lib.hid hk
                clear hq z hk
                have hfin := HFE.out
                rw [HQ10.out] at hfin
                have HFF := Lib.hid hfin
                clear hfin HFE
                have hcf := Scn.posCell HZ10.out
                cases f1
                · go_wp2_with fail
                  refine (must_no _).mono ?_
                  rintro e w9 ⟨rfl, rfl⟩
                  go_wp2_with fail
                  refine ⟨rfl, ?_⟩
                  rw [HFF.out]
                  exact ⟨rfl, HZ10.out.drop⟩
                · go_wp2_with fail
                  refine (must_yes _).mono ?_
                  rintro e w8 ⟨rfl, rfl⟩
                  clear hcf
                  go_wp2_with fail
                  refine (blanks_any HZ10.out HK10.out).mono ?_
                  rintro e w31 ⟨rfl, z⟩
                  obtain ⟨⟨bf, σg⟩, hq⟩ : ∃ q, blanks s σf = q := ⟨_, rfl⟩
                  have hk := HK10.out.blanks
                  rw [hq] at hk
                  simp only [hq] at z ⊢
                  have HQ11 := Lib.hid hq
                  have HZ11 := Lib.hid z
                  have HK11 := Lib.hid hk
                  clear hq z hk
                  go_wp2_with fail
                  refine (eat_any HZ11.out HK11.out [62] (by decide)).mono ?_
                  rintro e w32 ⟨rfl, z⟩
                  obtain ⟨⟨h2, σh⟩, hq⟩ : ∃ q, eat s σg [62] = q := ⟨_, rfl⟩
                  have hk := HK11.out.eat [62]
                  rw [hq] at hk
                  simp only [hq] at z ⊢
                  have HQ12 := Lib.hid hq
                  have HZ12 := Lib.hid z
                  have HK12 := Lib.hid hk
                  clear hq z hk
                  cases h2
                  · go_wp2_with fail
                    refine (must_no _).mono ?_
                    rintro e w9 ⟨rfl, rfl⟩
                    go_wp2_with fail
                    refine ⟨rfl, ?_⟩
                    have hfin := HFF.out
                    simp only [HQ11.out, HQ12.out, if_true] at hfin
                    rw [hfin]
                    exact ⟨rfl, HZ12.out.drop⟩
                  · go_wp2_with fail
                    refine (must_yes _).mono ?_
                    rintro e w8 ⟨rfl, rfl⟩
                    go_wp2_with fail
                    go_end0
                    have hfin := HFF.out
                    simp only [HQ11.out, HQ12.out, if_true] at hfin
                    rw [hfin]
                    exact ⟨rfl, HZ12.out⟩
              · have hvl := HVM.out
                rw [hhe, if_pos rfl] at hvl
                have HVM := Lib.hid hvl
                have hpos := has_pos hhe HK6.out
                clear hvl hhe
                have hne : entity s σb ≠ .error wild := by
                  intro hc
                  have hv := HVM.out
                  rw [hc] at hv
                  have hv : Except.error wild = tot := hv
                  exact HNW.out (by rw [HFIN.out, ← hv]; rfl)
                have HNE := Lib.hid hne
                clear hne
                go_wp2_with fail
                refine (entity_any HG.out HZ9.out HK6.out hpos HNE.out).mono ?_
                intro e w33 hpost
                cases hq : entity s σb with
                | error er =>
                  obtain ⟨en, ep⟩ := er
                  rw [hq] at hpost
                  obtain ⟨rfl, z⟩ := hpost
                  have HQ13 := Lib.hid hq
                  have HZ13 := Lib.hid z
                  clear hq z
                  go_wp2_with fail
                  have hvl := HVM.out
                  rw [HQ13.out] at hvl
                  have hvl : Except.error (en, ep) = tot := hvl
                  refine ⟨rfl, ?_⟩
                  rw [HFIN.out, ← hvl]
                  exact ⟨rfl, HZ13.out⟩
                | ok r =>
                  obtain ⟨_, σc⟩ := r
                  rw [hq] at hpost
                  obtain ⟨rfl, z⟩ := hpost
                  have hinv := entity_inv HIB.out hpos hq
                  have HINV := Lib.hid hinv.1
                  have hpc := hinv.2
                  clear hinv
                  have HQ13 := Lib.hid hq
                  have HZ13 := Lib.hid z
                  clear hq z
                  have hvl := HVM.out
                  rw [HQ13.out] at hvl
                  have HVN : Hid (decls s n σc = tot) := hvl
                  clear hvl
                  go_wp2_with fail
                  go_roundg n
                  case measure => omega
                  case rel => exact ⟨σc, HZ13.out, HINV, by omega, HVN⟩
            · have hvl := HVM.out
              rw [hhp, if_pos rfl] at hvl
              have HVM := Lib.hid hvl
              have hpos := has_pos hhp HK6.out
              clear hvl hhp
              go_wp2_with fail
              refine (pi_any HG.out false HZ8.out HK6.out hpos).mono ?_
              intro e w34 hpost
              cases hq : pi s σb false with
              | error er =>
                obtain ⟨en, ep⟩ := er
                rw [hq] at hpost
                obtain ⟨rfl, z⟩ := hpost
                have HQ14 := Lib.hid hq
                have HZ14 := Lib.hid z
                clear hq z
                go_wp2_with fail
                have hvl := HVM.out
                rw [HQ14.out] at hvl
                have hvl : Except.error (en, ep) = tot := hvl
                refine ⟨rfl, ?_⟩
                rw [HFIN.out, ← hvl]
                exact ⟨rfl, HZ14.out⟩
              | ok r =>
                obtain ⟨_, σc⟩ := r
                rw [hq] at hpost
                obtain ⟨rfl, z⟩ := hpost
                have hinv := pi_inv HIB.out hpos hq
                have HINV := Lib.hid hinv.1
                have hpc := hinv.2
                clear hinv
                have HQ14 := Lib.hid hq
                have HZ14 := Lib.hid z
                clear hq z
                have hvl := HVM.out
                rw [HQ14.out] at hvl
                have HVN : Hid (decls s n σc = tot) := hvl
                clear hvl
                go_wp2_with fail
                go_roundg n
                case measure => omega
                case rel => exact ⟨σc, HZ14.out, HINV, by omega, HVN⟩
          · have hvl := HVM.out
            rw [hhc, if_pos rfl] at hvl
            have HVM := Lib.hid hvl
            have hpos := has_pos hhc HK6.out
            clear hvl hhc
            go_wp2_with fail
            refine (comment_any HG.out false HZ7.out HK6.out hpos).mono ?_
            intro e w35 hpost
            cases hq : comment s σb false with
            | error er =>
              obtain ⟨en, ep⟩ := er
              rw [hq] at hpost
              obtain ⟨rfl, z⟩ := hpost
              have HQ15 := Lib.hid hq
              have HZ15 := Lib.hid z
              clear hq z
              go_wp2_with fail
              have hvl := HVM.out
              rw [HQ15.out] at hvl
              have hvl : Except.error (en, ep) = tot := hvl
              refine ⟨rfl, ?_⟩
              rw [HFIN.out, ← hvl]
              exact ⟨rfl, HZ15.out⟩
            | ok r =>
              obtain ⟨_, σc⟩ := r
              rw [hq] at hpost
              obtain ⟨rfl, z⟩ := hpost
              have hinv := comment_inv HIB.out hpos hq
              have HINV := Lib.hid hinv.1
              have hpc := hinv.2
              clear hinv
              have HQ15 := Lib.hid hq
              have HZ15 := Lib.hid z
              clear hq z
              have hvl := HVM.out
              rw [HQ15.out] at hvl
              have HVN : Hid (decls s n σc = tot) := hvl
              clear hvl
              go_wp2_with fail
              go_roundg n
              case measure => omega
              case rel => exact ⟨σc, HZ15.out, HINV, by omega, HVN⟩
end
end Go.Proofs.YtahfcgjlcdbnjaaGreatDoor

