/- beside: what stands beside the element is passed. -/
import Derived.Test.YtahfcgjlcdbnjaaGreatDoorMDoct
namespace Go.Proofs.YtahfcgjlcdbnjaaGreatDoor
open Go.RowKit

section
variable {W w : World} {L : List Asn} {b : Nat} {s : ByteArray} {σ : St}

abbrev boolV : Bool → Value := fun t => .bool t

set_option maxHeartbeats 4000000 in
set_option maxRecDepth 100000 in
theorem beside_any (g : Glob W) (typed : Bool) (x : Hold W w (Scn b s σ :: L)) (h : Inv s σ) (hnw : beside s σ typed ≠ .error wild) :
    Calls Tryz.prog 98 #[.pointer (some ⟨b, 0, none⟩), .bool typed] w (Post W L b s boolV (beside s σ typed)) := by
  have hc1 := Scn.posCell x
  have h1 := h.ok.size
  have hps := h.ok.pos
  have HX := Lib.hid x
  have HK := Lib.hid h.ok
  have HI := Lib.hid h.blanks
  have HG := Lib.hid g
  have HNW := Lib.hid hnw
  clear x h g hnw
  go_enter Tryz.func98, Tryz.ntmps98
  go_wp2_with fail
  refine wp_scope_fwd 0 rfl ?_
  go_wp2_with fail
  refine (blanks_any HX.out HK.out).mono ?_
  rintro e w21 ⟨rfl, z⟩
  obtain ⟨⟨bl, σb⟩, hq⟩ : ∃ q, blanks s σ = q := ⟨_, rfl⟩
  have hk := HK.out.blanks
  rw [hq] at hk
  simp only [hq] at z ⊢
  have HQ1 := Lib.hid hq
  have HZ1 := Lib.hid z
  have HK1 := Lib.hid hk
  clear hq z hk
  have hib : Inv s σb := by
    have := HI.out
    rw [HQ1.out] at this
    exact this
  have HIB := Lib.hid hib
  clear hib
  cases bl
  · go_wp2_with fail
    refine (has_any HZ1.out HK1.out commB).mono ?_
    rintro e w22 ⟨rfl, n2, hw⟩
    have hz := HZ1.out.drewN n2
    rw [← hw] at hz
    have HZ2 := Lib.hid hz
    clear hw hz
    cases hhb : has s σb commB
    · have HHb := Lib.hid hhb
      clear hhb
      go_wp2_with fail
      refine (has_any HZ2.out HK1.out [60, 63]).mono ?_
      rintro e w23 ⟨rfl, n3, hw⟩
      have hz := HZ2.out.drewN n3
      rw [← hw] at hz
      have HZ3 := Lib.hid hz
      clear hw hz
      cases hhc : has s σb [60, 63]
      · have HHc := Lib.hid hhc
        clear hhc
        go_wp2_with fail
        refine (has_any HZ3.out HK1.out doctypeB).mono ?_
        rintro e w24 ⟨rfl, n4, hw⟩
        have hz := HZ3.out.drewN n4
        rw [← hw] at hz
        have HZ4 := Lib.hid hz
        clear hw hz
        cases hhd : has s σb doctypeB
        · have HHd := Lib.hid hhd
          clear hhd
          have hce := Scn.endCell HZ4.out
          go_wp2_with fail
          refine (has_any HZ4.out HK1.out [60]).mono ?_
          rintro e w25 ⟨rfl, n5, hw⟩
          have hz := HZ4.out.drewN n5
          rw [← hw] at hz
          have HZ5 := Lib.hid hz
          clear hw hz
          cases hhe : has s σb [60]
          · have HHe := Lib.hid hhe
            clear hhe
            go_wp2_with fail
            go_step3
            refine ⟨rfl, ?_⟩
            go_wp2_with fail
            refine ⟨rfl, ?_⟩
            rw [show beside s σ typed = .error (5, σ.pos) from by simp only [beside, HQ1.out, HHb.out, HHc.out, HHd.out, HHe.out]; rfl]
            exact ⟨rfl, HZ5.out.drop⟩
          · have HHe := Lib.hid hhe
            have hpose := has_pos hhe HK1.out
            clear hhe
            go_wp2_with fail
            refine (has_any HZ5.out HK1.out [60, 47]).mono ?_
            rintro e w26 ⟨rfl, n6, hw⟩
            have hz := HZ5.out.drewN n6
            rw [← hw] at hz
            have HZ6 := Lib.hid hz
            clear hw hz
            cases hhf : has s σb [60, 47]
            · have HHf := Lib.hid hhf
              clear hhf
              go_wp2_with fail
              refine (has_any HZ6.out HK1.out [60, 33]).mono ?_
              rintro e w27 ⟨rfl, n7, hw⟩
              have hz := HZ6.out.drewN n7
              rw [← hw] at hz
              have HZ7 := Lib.hid hz
              clear hw hz
              cases hhg : has s σb [60, 33]
              · have HHg := Lib.hid hhg
                clear hhg
                have hce := Scn.endCell HZ7.out
                cases hen : σb.ended
                · rw [hen] at hce
                  have HEN := Lib.hid hen
                  clear hen
                  have hne : tag s σb ≠ .error wild := by
                    intro hc
                    exact HNW.out (by simp only [beside, HQ1.out, HHb.out, HHc.out, HHd.out, HHe.out, HHf.out, HHg.out, HEN.out, hc]; rfl)
                  have HNT := Lib.hid hne
                  clear hne
                  go_wp2_with fail
                  refine (tag_any HG.out HZ7.out HK1.out HIB.out.ents hpose HNT.out).mono ?_
                  intro e w28 hpost
                  cases hq : tag s σb with
                  | error er =>
                    obtain ⟨en, ep⟩ := er
                    rw [hq] at hpost
                    obtain ⟨rfl, z⟩ := hpost
                    have HQ8 := Lib.hid hq
                    have HZ8 := Lib.hid z
                    clear hq z
                    go_wp2_with fail
                    simp only [Exit.jump]
                    refine ⟨rfl, ?_⟩
                    rw [show beside s σ typed = .error (en, ep) from by simp only [beside, HQ1.out, HHb.out, HHc.out, HHd.out, HHe.out, HHf.out, HHg.out, HEN.out, HQ8.out]; rfl]
                    exact ⟨rfl, HZ8.out⟩
                  | ok r =>
                    obtain ⟨_, σz⟩ := r
                    rw [hq] at hpost
                    obtain ⟨rfl, z⟩ := hpost
                    have HQ8 := Lib.hid hq
                    have HZ8 := Lib.hid z
                    clear hq z
                    go_wp2_with fail
                    simp only [Exit.jump]
                    go_ret
                    rw [show beside s σ typed = .ok (typed, σz) from by simp only [beside, HQ1.out, HHb.out, HHc.out, HHd.out, HHe.out, HHf.out, HHg.out, HEN.out, HQ8.out]; rfl]
                    exact ⟨rfl, HZ8.out⟩
                · rw [hen] at hce
                  have HEN := Lib.hid hen
                  clear hen
                  go_wp2_with fail
                  go_step3
                  refine ⟨rfl, ?_⟩
                  go_wp2_with fail
                  refine ⟨rfl, ?_⟩
                  rw [show beside s σ typed = .error (5, σ.pos) from by simp only [beside, HQ1.out, HHb.out, HHc.out, HHd.out, HHe.out, HHf.out, HHg.out, HEN.out]; rfl]
                  exact ⟨rfl, HZ7.out.drop⟩
              · have HHg := Lib.hid hhg
                have hposg := has_pos hhg HK1.out
                clear hhg
                go_wp2_with fail
                go_step3
                refine ⟨rfl, ?_⟩
                go_wp2_with fail
                refine ⟨rfl, ?_⟩
                rw [show beside s σ typed = .error (5, σ.pos) from by simp only [beside, HQ1.out, HHb.out, HHc.out, HHd.out, HHe.out, HHf.out, HHg.out]; rfl]
                exact ⟨rfl, HZ7.out.drop⟩
            · have HHf := Lib.hid hhf
              have hposf := has_pos hhf HK1.out
              clear hhf
              go_wp2_with fail
              go_step3
              refine ⟨rfl, ?_⟩
              go_wp2_with fail
              refine ⟨rfl, ?_⟩
              rw [show beside s σ typed = .error (5, σ.pos) from by simp only [beside, HQ1.out, HHb.out, HHc.out, HHd.out, HHe.out, HHf.out]; rfl]
              exact ⟨rfl, HZ6.out.drop⟩
        · have HHd := Lib.hid hhd
          have hposd := has_pos hhd HK1.out
          clear hhd
          have hce := Scn.endCell HZ4.out
          cases typed
          · cases hen : σb.ended
            · rw [hen] at hce
              have HEN := Lib.hid hen
              clear hen
              have hne : doctype s σb ≠ .error wild := by
                intro hc
                exact HNW.out (by simp only [beside, HQ1.out, HHb.out, HHc.out, HHd.out, HEN.out, hc]; rfl)
              have HND := Lib.hid hne
              clear hne
              go_wp2_with fail
              refine (doctype_any HG.out HZ4.out HIB.out hposd HND.out).mono ?_
              intro e w29 hpost
              cases hq : doctype s σb with
              | error er =>
                obtain ⟨en, ep⟩ := er
                rw [hq] at hpost
                obtain ⟨rfl, z⟩ := hpost
                have HQ9 := Lib.hid hq
                have HZ9 := Lib.hid z
                clear hq z
                go_wp2_with fail
                simp only [Exit.jump]
                refine ⟨rfl, ?_⟩
                rw [show beside s σ false = .error (en, ep) from by simp only [beside, HQ1.out, HHb.out, HHc.out, HHd.out, HEN.out, HQ9.out]; rfl]
                exact ⟨rfl, HZ9.out⟩
              | ok r =>
                obtain ⟨_, σz⟩ := r
                rw [hq] at hpost
                obtain ⟨rfl, z⟩ := hpost
                have HQ9 := Lib.hid hq
                have HZ9 := Lib.hid z
                clear hq z
                go_wp2_with fail
                simp only [Exit.jump]
                go_ret
                rw [show beside s σ false = .ok (true, σz) from by simp only [beside, HQ1.out, HHb.out, HHc.out, HHd.out, HEN.out, HQ9.out]; rfl]
                exact ⟨rfl, HZ9.out⟩
            · rw [hen] at hce
              have HEN := Lib.hid hen
              clear hen
              go_wp2_with fail
              go_step3
              refine ⟨rfl, ?_⟩
              go_wp2_with fail
              refine ⟨rfl, ?_⟩
              rw [show beside s σ false = .error (5, σ.pos) from by simp only [beside, HQ1.out, HHb.out, HHc.out, HHd.out, HEN.out]; rfl]
              exact ⟨rfl, HZ4.out.drop⟩
          · go_wp2_with fail
            go_step3
            refine ⟨rfl, ?_⟩
            go_wp2_with fail
            refine ⟨rfl, ?_⟩
            rw [show beside s σ true = .error (5, σ.pos) from by simp only [beside, HQ1.out, HHb.out, HHc.out, HHd.out]; rfl]
            exact ⟨rfl, HZ4.out.drop⟩
      · have HHc := Lib.hid hhc
        have hposc := has_pos hhc HK1.out
        clear hhc
        go_wp2_with fail
        refine (pi_any HG.out true HZ3.out HK1.out hposc).mono ?_
        intro e w30 hpost
        cases hq : pi s σb true with
        | error er =>
          obtain ⟨en, ep⟩ := er
          rw [hq] at hpost
          obtain ⟨rfl, z⟩ := hpost
          have HQ10 := Lib.hid hq
          have HZ10 := Lib.hid z
          clear hq z
          go_wp2_with fail
          simp only [Exit.jump]
          refine ⟨rfl, ?_⟩
          rw [show beside s σ typed = .error (en, ep) from by simp only [beside, HQ1.out, HHb.out, HHc.out, HQ10.out]; rfl]
          exact ⟨rfl, HZ10.out⟩
        | ok r =>
          obtain ⟨_, σz⟩ := r
          rw [hq] at hpost
          obtain ⟨rfl, z⟩ := hpost
          have HQ10 := Lib.hid hq
          have HZ10 := Lib.hid z
          clear hq z
          go_wp2_with fail
          simp only [Exit.jump]
          go_ret
          rw [show beside s σ typed = .ok (typed, σz) from by simp only [beside, HQ1.out, HHb.out, HHc.out, HQ10.out]; rfl]
          exact ⟨rfl, HZ10.out⟩
    · have HHb := Lib.hid hhb
      have hposb := has_pos hhb HK1.out
      clear hhb
      go_wp2_with fail
      refine (comment_any HG.out true HZ2.out HK1.out hposb).mono ?_
      intro e w31 hpost
      cases hq : comment s σb true with
      | error er =>
        obtain ⟨en, ep⟩ := er
        rw [hq] at hpost
        obtain ⟨rfl, z⟩ := hpost
        have HQ11 := Lib.hid hq
        have HZ11 := Lib.hid z
        clear hq z
        go_wp2_with fail
        simp only [Exit.jump]
        refine ⟨rfl, ?_⟩
        rw [show beside s σ typed = .error (en, ep) from by simp only [beside, HQ1.out, HHb.out, HQ11.out]; rfl]
        exact ⟨rfl, HZ11.out⟩
      | ok r =>
        obtain ⟨_, σz⟩ := r
        rw [hq] at hpost
        obtain ⟨rfl, z⟩ := hpost
        have HQ11 := Lib.hid hq
        have HZ11 := Lib.hid z
        clear hq z
        go_wp2_with fail
        simp only [Exit.jump]
        go_ret
        rw [show beside s σ typed = .ok (typed, σz) from by simp only [beside, HQ1.out, HHb.out, HQ11.out]; rfl]
        exact ⟨rfl, HZ11.out⟩
  · go_wp2_with fail
    simp only [Exit.jump]
    go_ret
    rw [show beside s σ typed = .ok (typed, σb) from by simp only [beside, HQ1.out]; rfl]
    exact ⟨rfl, HZ1.out⟩
end
end Go.Proofs.YtahfcgjlcdbnjaaGreatDoor

