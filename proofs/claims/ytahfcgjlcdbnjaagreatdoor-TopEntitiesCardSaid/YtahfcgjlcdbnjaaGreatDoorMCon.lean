/- content: what stands in an element is passed. -/
import Derived.Test.YtahfcgjlcdbnjaaGreatDoorMDoct
namespace Go.Proofs.YtahfcgjlcdbnjaaGreatDoor
open Go.RowKit

section
variable {W w : World} {L : List Asn} {b : Nat} {s : ByteArray} {σ : St}

theorem has_head {c : UInt8} (h : has s σ [c] = true) : (rest s σ).head? = some c := by
  unfold has Lib.hasPrefix at h
  obtain ⟨t, ht⟩ := List.isPrefixOf_iff_prefix.1 h
  rw [← ht]; rfl

theorem extract_head (h : σ.pos < s.size) : s.extract σ.pos (σ.pos + 1) = ⟨[(rest s σ).headD 0].toArray⟩ := by
  apply bytes_ext
  rw [extract_list]
  unfold rest
  have hl : σ.pos < s.data.toList.length := by simpa using h
  rw [List.drop_eq_getElem_cons hl]
  simp

set_option maxHeartbeats 4000000 in
set_option maxRecDepth 100000 in
theorem content_any (g : Glob W) (x : Hold W w (Scn b s σ :: L)) (h : Inv s σ) (hlt : σ.pos < s.size) (hnw : content s σ ≠ .error wild) :
    Calls Tryz.prog 97 #[.pointer (some ⟨b, 0, none⟩)] w (Post W L b s nothing (content s σ)) := by
  have hc1 := Scn.posCell x
  have h1 := h.ok.size
  have HX := Lib.hid x
  have HK := Lib.hid h.ok
  have HI := Lib.hid h
  have HG := Lib.hid g
  have HNW := Lib.hid hnw
  clear x h g hnw
  go_enter Tryz.func97, Tryz.ntmps97
  go_wp2_with fail
  refine (has_any HX.out HK.out [60, 47]).mono ?_
  rintro e w21 ⟨rfl, n1, hw⟩
  have hz := HX.out.drewN n1
  rw [← hw] at hz
  have HZ1 := Lib.hid hz
  clear hw hz
  cases hha : has s σ [60, 47]
  · have HHa := Lib.hid hha
    clear hha
    go_wp2_with fail
    refine (has_any HZ1.out HK.out commB).mono ?_
    rintro e w22 ⟨rfl, n2, hw⟩
    have hz := HZ1.out.drewN n2
    rw [← hw] at hz
    have HZ2 := Lib.hid hz
    clear hw hz
    cases hhb : has s σ commB
    · have HHb := Lib.hid hhb
      clear hhb
      go_wp2_with fail
      refine (has_any HZ2.out HK.out [60, 63]).mono ?_
      rintro e w23 ⟨rfl, n3, hw⟩
      have hz := HZ2.out.drewN n3
      rw [← hw] at hz
      have HZ3 := Lib.hid hz
      clear hw hz
      cases hhc : has s σ [60, 63]
      · have HHc := Lib.hid hhc
        clear hhc
        go_wp2_with fail
        refine (eat_any HZ3.out HK.out cdataB (by decide)).mono ?_
        rintro e w24 ⟨rfl, z⟩
        obtain ⟨⟨e1, σe⟩, hq⟩ : ∃ q, eat s σ cdataB = q := ⟨_, rfl⟩
        have hk := HK.out.eat cdataB
        rw [hq] at hk
        simp only [hq] at z ⊢
        have HQ4 := Lib.hid hq
        have HZ4 := Lib.hid z
        have HK4 := Lib.hid hk
        clear hq z hk
        cases e1
        · have hse : σe = σ := by
            have := eat_no (s := s) (σ := σ) (t := cdataB) (by rw [HQ4.out])
            rw [HQ4.out] at this
            exact this
          subst hse
          go_wp2_with fail
          refine (has_any HZ4.out HK.out [60]).mono ?_
          rintro e w25 ⟨rfl, n5, hw⟩
          have hz := HZ4.out.drewN n5
          rw [← hw] at hz
          have HZ5 := Lib.hid hz
          clear hw hz
          cases hhd : has s σe [60]
          · have HHd := Lib.hid hhd
            clear hhd
            go_wp2_with fail
            refine (has_any HZ5.out HK.out [38]).mono ?_
            rintro e w26 ⟨rfl, n6, hw⟩
            have hz := HZ5.out.drewN n6
            rw [← hw] at hz
            have HZ6 := Lib.hid hz
            clear hw hz
            cases hhf : has s σe [38]
            · have HHf := Lib.hid hhf
              clear hhf
              go_wp2_with fail
              refine (has_any HZ6.out HK.out [93, 93, 62]).mono ?_
              rintro e w27 ⟨rfl, n7, hw⟩
              have hz := HZ6.out.drewN n7
              rw [← hw] at hz
              have HZ7 := Lib.hid hz
              clear hw hz
              cases hhg : has s σe [93, 93, 62]
              · have HHg := Lib.hid hhg
                clear hhg
                have hcs := Scn.strCell HZ7.out
                have hex := extract_head hlt
                have HEX := Lib.hid hex
                clear hex
                go_wp2_with fail
                refine (must_yes _).mono ?_
                rintro e w8 ⟨rfl, rfl⟩
                go_wp2_with fail
                rw [HEX.out]
                clear hcs
                go_wp2_with fail
                refine (put_any [(rest s σe).headD 0] σe.pos (by simp) (by omega) HZ7.out HK.out).mono ?_
                intro e w28 hpost
                cases hq : put σe [(rest s σe).headD 0] σe.pos with
                | error er =>
                  obtain ⟨en, ep⟩ := er
                  rw [hq] at hpost
                  obtain ⟨rfl, z⟩ := hpost
                  have HQ8 := Lib.hid hq
                  have HZ8 := Lib.hid z
                  clear hq z
                  go_wp2_with fail
                  refine ⟨rfl, ?_⟩
                  rw [show content s σe = .error (en, ep) from by simp only [content, HHa.out, HHb.out, HHc.out, HQ4.out, HHd.out, HHf.out, HHg.out, HQ8.out]; rfl]
                  exact ⟨rfl, HZ8.out⟩
                | ok r =>
                  obtain ⟨_, σp⟩ := r
                  rw [hq] at hpost
                  obtain ⟨rfl, z⟩ := hpost
                  have HQ8 := Lib.hid hq
                  have HZ8 := Lib.hid z
                  clear hq z
                  have hcp := Scn.posCell HZ8.out
                  have hfp := Scn.free HZ8.out 1
                  have HMV := Lib.hid (Scn.move HZ8.out (σp.pos + 1) ((σp.pos : Int) + 1) (by push_cast; rfl))
                  have hpp : σp.pos = σe.pos := by
                    have hq := HQ8.out
                    unfold put at hq
                    split at hq
                    · split at hq
                      · cases hq; rfl
                      · cases hq
                    · cases hq; rfl
                  have hpl : σp.pos ≤ 32768 := by omega
                  clear hpp
                  go_wp2_with fail
                  go_end0
                  rw [show content s σe = .ok ((), σp.to (σp.pos + 1)) from by simp only [content, HHa.out, HHb.out, HHc.out, HQ4.out, HHd.out, HHf.out, HHg.out, HQ8.out]; rfl]
                  exact ⟨rfl, HMV.out⟩
              · have HHg := Lib.hid hhg
                have hposg := has_pos hhg HK.out
                clear hhg
                go_wp2_with fail
                refine (must_no _).mono ?_
                rintro e w9 ⟨rfl, rfl⟩
                go_wp2_with fail
                refine ⟨rfl, ?_⟩
                rw [show content s σe = .error (5, σe.pos) from by simp only [content, HHa.out, HHb.out, HHc.out, HQ4.out, HHd.out, HHf.out, HHg.out]; rfl]
                exact ⟨rfl, HZ7.out.drop⟩
            · have HHf := Lib.hid hhf
              have hposf := has_pos hhf HK.out
              clear hhf
              have hne : refM s σe false ≠ .error wild := by
                intro hc
                exact HNW.out (by simp only [content, HHa.out, HHb.out, HHc.out, HQ4.out, HHd.out, HHf.out, hc]; rfl)
              have HNR := Lib.hid hne
              clear hne
              have h38 := Lib.hid (has_head HHf.out)
              go_wp2_with fail
              refine (ref_any HG.out false HZ6.out HK.out HI.out.ents h38.out HNR.out).mono ?_
              intro e w29 hpost
              cases hq : refM s σe false with
              | error er =>
                obtain ⟨en, ep⟩ := er
                rw [hq] at hpost
                obtain ⟨rfl, z⟩ := hpost
                have HQ9 := Lib.hid hq
                have HZ9 := Lib.hid z
                clear hq z
                go_wp2_with fail
                refine ⟨rfl, ?_⟩
                rw [show content s σe = .error (en, ep) from by simp only [content, HHa.out, HHb.out, HHc.out, HQ4.out, HHd.out, HHf.out, HQ9.out]; rfl]
                exact ⟨rfl, HZ9.out⟩
              | ok r =>
                obtain ⟨tx, σr⟩ := r
                rw [hq] at hpost
                obtain ⟨rfl, z⟩ := hpost
                have HK9 := Lib.hid ((refM_parts hq HK.out).1)
                have htl : tx.length ≤ 32769 := (refM_parts hq HK.out).2.2.2.1
                have HQ9 := Lib.hid hq
                have HZ9 := Lib.hid z
                clear hq z
                go_wp2_with fail
                refine (put_any tx σe.pos (by omega) (by omega) HZ9.out HK9.out).mono ?_
                intro e w30 hpost
                cases hq : put σr tx σe.pos with
                | error er =>
                  obtain ⟨en, ep⟩ := er
                  rw [hq] at hpost
                  obtain ⟨rfl, z⟩ := hpost
                  have HQ10 := Lib.hid hq
                  have HZ10 := Lib.hid z
                  clear hq z
                  go_wp2_with fail
                  refine ⟨rfl, ?_⟩
                  rw [show content s σe = .error (en, ep) from by simp only [content, HHa.out, HHb.out, HHc.out, HQ4.out, HHd.out, HHf.out, HQ9.out, HQ10.out]; rfl]
                  exact ⟨rfl, HZ10.out⟩
                | ok r =>
                  obtain ⟨_, σz⟩ := r
                  rw [hq] at hpost
                  obtain ⟨rfl, z⟩ := hpost
                  have HQ10 := Lib.hid hq
                  have HZ10 := Lib.hid z
                  clear hq z
                  go_wp2_with fail
                  go_end0
                  rw [show content s σe = .ok ((), σz) from by simp only [content, HHa.out, HHb.out, HHc.out, HQ4.out, HHd.out, HHf.out, HQ9.out, HQ10.out]; rfl]
                  exact ⟨rfl, HZ10.out⟩
          · have HHd := Lib.hid hhd
            have hposd := has_pos hhd HK.out
            clear hhd
            have hne : tag s σe ≠ .error wild := by
              intro hc
              exact HNW.out (by simp only [content, HHa.out, HHb.out, HHc.out, HQ4.out, HHd.out, hc]; rfl)
            have HNT := Lib.hid hne
            clear hne
            go_wp2_with fail
            refine (tag_any HG.out HZ5.out HK.out HI.out.ents hlt HNT.out).mono ?_
            intro e w31 hpost
            cases hq : tag s σe with
            | error er =>
              obtain ⟨en, ep⟩ := er
              rw [hq] at hpost
              obtain ⟨rfl, z⟩ := hpost
              have HQ11 := Lib.hid hq
              have HZ11 := Lib.hid z
              clear hq z
              go_wp2_with fail
              refine ⟨rfl, ?_⟩
              rw [show content s σe = .error (en, ep) from by simp only [content, HHa.out, HHb.out, HHc.out, HQ4.out, HHd.out, HQ11.out]; rfl]
              exact ⟨rfl, HZ11.out⟩
            | ok r =>
              obtain ⟨_, σz⟩ := r
              rw [hq] at hpost
              obtain ⟨rfl, z⟩ := hpost
              have HQ11 := Lib.hid hq
              have HZ11 := Lib.hid z
              clear hq z
              go_wp2_with fail
              go_end0
              rw [show content s σe = .ok ((), σz) from by simp only [content, HHa.out, HHb.out, HHc.out, HQ4.out, HHd.out, HQ11.out]; rfl]
              exact ⟨rfl, HZ11.out⟩
        · go_wp2_with fail
          refine (until_any HG.out HZ4.out HK4.out [93, 93, 62]).mono ?_
          rintro e w32 ⟨rfl, z⟩
          obtain ⟨⟨⟨tx, ok2⟩, σu⟩, hq⟩ : ∃ q, upto s σe [93, 93, 62] = q := ⟨_, rfl⟩
          have hk := HK4.out.upto [93, 93, 62]
          rw [hq] at hk
          simp only [hq] at z ⊢
          have htl : tx.length ≤ 32768 := by
            have hu : (upto s σe [93, 93, 62]).1.1 = tx := by rw [hq]
            rw [← hu]
            unfold upto
            exact Nat.le_trans (cut_length_le _ _) (by rw [rest_length]; omega)
          have HQ12 := Lib.hid hq
          have HZ12 := Lib.hid z
          have HK12 := Lib.hid hk
          clear hq z hk
          cases ok2
          · go_wp2_with fail
            refine (must_no _).mono ?_
            rintro e w9 ⟨rfl, rfl⟩
            go_wp2_with fail
            refine ⟨rfl, ?_⟩
            rw [show content s σ = .error (5, σ.pos) from by simp only [content, HHa.out, HHb.out, HHc.out, HQ4.out, HQ12.out]; rfl]
            exact ⟨rfl, HZ12.out.drop⟩
          · go_wp2_with fail
            refine (must_yes _).mono ?_
            rintro e w8 ⟨rfl, rfl⟩
            go_wp2_with fail
            refine (put_any tx σ.pos (by omega) (by omega) HZ12.out HK12.out).mono ?_
            intro e w33 hpost
            cases hq : put σu tx σ.pos with
            | error er =>
              obtain ⟨en, ep⟩ := er
              rw [hq] at hpost
              obtain ⟨rfl, z⟩ := hpost
              have HQ13 := Lib.hid hq
              have HZ13 := Lib.hid z
              clear hq z
              go_wp2_with fail
              refine ⟨rfl, ?_⟩
              rw [show content s σ = .error (en, ep) from by simp only [content, HHa.out, HHb.out, HHc.out, HQ4.out, HQ12.out, HQ13.out]; rfl]
              exact ⟨rfl, HZ13.out⟩
            | ok r =>
              obtain ⟨_, σz⟩ := r
              rw [hq] at hpost
              obtain ⟨rfl, z⟩ := hpost
              have HQ13 := Lib.hid hq
              have HZ13 := Lib.hid z
              clear hq z
              go_wp2_with fail
              go_end0
              rw [show content s σ = .ok ((), σz) from by simp only [content, HHa.out, HHb.out, HHc.out, HQ4.out, HQ12.out, HQ13.out]; rfl]
              exact ⟨rfl, HZ13.out⟩
      · have HHc := Lib.hid hhc
        have hposc := has_pos hhc HK.out
        clear hhc
        go_wp2_with fail
        refine (pi_any HG.out true HZ3.out HK.out hposc).mono ?_
        intro e w34 hpost
        cases hq : pi s σ true with
        | error er =>
          obtain ⟨en, ep⟩ := er
          rw [hq] at hpost
          obtain ⟨rfl, z⟩ := hpost
          have HQ14 := Lib.hid hq
          have HZ14 := Lib.hid z
          clear hq z
          go_wp2_with fail
          refine ⟨rfl, ?_⟩
          rw [show content s σ = .error (en, ep) from by simp only [content, HHa.out, HHb.out, HHc.out, HQ14.out]; rfl]
          exact ⟨rfl, HZ14.out⟩
        | ok r =>
          obtain ⟨_, σz⟩ := r
          rw [hq] at hpost
          obtain ⟨rfl, z⟩ := hpost
          have HQ14 := Lib.hid hq
          have HZ14 := Lib.hid z
          clear hq z
          go_wp2_with fail
          go_end0
          rw [show content s σ = .ok ((), σz) from by simp only [content, HHa.out, HHb.out, HHc.out, HQ14.out]; rfl]
          exact ⟨rfl, HZ14.out⟩
    · have HHb := Lib.hid hhb
      have hposb := has_pos hhb HK.out
      clear hhb
      go_wp2_with fail
      refine (comment_any HG.out true HZ2.out HK.out hposb).mono ?_
      intro e w35 hpost
      cases hq : comment s σ true with
      | error er =>
        obtain ⟨en, ep⟩ := er
        rw [hq] at hpost
        obtain ⟨rfl, z⟩ := hpost
        have HQ15 := Lib.hid hq
        have HZ15 := Lib.hid z
        clear hq z
        go_wp2_with fail
        refine ⟨rfl, ?_⟩
        rw [show content s σ = .error (en, ep) from by simp only [content, HHa.out, HHb.out, HQ15.out]; rfl]
        exact ⟨rfl, HZ15.out⟩
      | ok r =>
        obtain ⟨_, σz⟩ := r
        rw [hq] at hpost
        obtain ⟨rfl, z⟩ := hpost
        have HQ15 := Lib.hid hq
        have HZ15 := Lib.hid z
        clear hq z
        go_wp2_with fail
        go_end0
        rw [show content s σ = .ok ((), σz) from by simp only [content, HHa.out, HHb.out, HQ15.out]; rfl]
        exact ⟨rfl, HZ15.out⟩
  · have HHa := Lib.hid hha
    have hposa := has_pos hha HK.out
    clear hha
    go_wp2_with fail
    refine (endTag_any HG.out HZ1.out HK.out hposa).mono ?_
    intro e w36 hpost
    cases hq : endTag s σ with
    | error er =>
      obtain ⟨en, ep⟩ := er
      rw [hq] at hpost
      obtain ⟨rfl, z⟩ := hpost
      have HQ16 := Lib.hid hq
      have HZ16 := Lib.hid z
      clear hq z
      go_wp2_with fail
      refine ⟨rfl, ?_⟩
      rw [show content s σ = .error (en, ep) from by simp only [content, HHa.out, HQ16.out]; rfl]
      exact ⟨rfl, HZ16.out⟩
    | ok r =>
      obtain ⟨_, σz⟩ := r
      rw [hq] at hpost
      obtain ⟨rfl, z⟩ := hpost
      have HQ16 := Lib.hid hq
      have HZ16 := Lib.hid z
      clear hq z
      go_wp2_with fail
      go_end0
      rw [show content s σ = .ok ((), σz) from by simp only [content, HHa.out, HQ16.out]; rfl]
      exact ⟨rfl, HZ16.out⟩
end
end Go.Proofs.YtahfcgjlcdbnjaaGreatDoor

