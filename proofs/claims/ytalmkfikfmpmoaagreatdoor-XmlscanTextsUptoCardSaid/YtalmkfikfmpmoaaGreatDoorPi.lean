/- pi: a processing instruction is passed. -/
import Derived.Test.YtalmkfikfmpmoaaGreatDoorTag2
import Derived.Test.YtalmkfikfmpmoaaGreatDoorFold
namespace Go.Proofs.YtalmkfikfmpmoaaGreatDoor
open Go.RowKit

theorem cut_length_le (l t : Bytes) : (Lib.cut l t).1.length ≤ l.length := by
  unfold Lib.cut
  split
  · simp only [List.length_take]; omega
  · exact Nat.le_refl _

/-- A processing instruction is passed. -/
def pi (s : ByteArray) (σ : St) (keep : Bool) : M Unit :=
  let n := name s (σ.to (σ.pos + 2))
  if n.1.2 && !isXml n.1.1 then
    let u := upto s n.2 [63, 62]
    if u.1.2 && (u.1.1.isEmpty || decide ((trimB u.1.1).length < u.1.1.length)) then
      if keep then flushAdd u.2 ⟨6, n.1.1, [], trimB u.1.1⟩ σ.pos else .ok ((), u.2)
    else .error (5, σ.pos)
  else .error (5, σ.pos)

section
variable {W w : World} {L : List Asn} {b : Nat} {s : ByteArray} {σ : St}

set_option maxHeartbeats 6000000 in
set_option maxRecDepth 100000 in
theorem pi_any (g : Glob W) (keep : Bool) (x : Hold W w (Scn b s σ :: L)) (h : Ok s σ) (hp : σ.pos + 2 ≤ s.size) :
    Calls Tryz.prog 75 #[.pointer (some ⟨b, 0, none⟩), .bool keep] w (Post W L b s nothing (pi s σ keep)) := by
  have hc1 := Scn.posCell x
  have hf := Scn.free x 1
  have h1 := h.size
  have hO := h.to hp
  have HM := Lib.hid (Scn.move x (σ.pos + 2) ((σ.pos : Int) + 2) (by push_cast; rfl))
  have HK := Lib.hid hO
  have HG := Lib.hid g
  have HNL := Lib.hid (word_length s (σ.to (σ.pos + 2)) false hO)
  clear x h hO g
  go_enter Tryz.func75, Tryz.ntmps75
  go_wp2_with fail
  refine (name_any HG.out HM.out HK.out).mono ?_
  rintro e w21 ⟨rfl, z⟩
  obtain ⟨⟨⟨nm, ok⟩, σ1⟩, hq⟩ : ∃ q, name s (σ.to (σ.pos + 2)) = q := ⟨_, rfl⟩
  have hk := HK.out.name
  rw [hq] at hk
  simp only [hq] at z ⊢
  have hnl : nm.length ≤ 32768 := by
    have e : (name s (σ.to (σ.pos + 2))).1.1 = nm := by rw [hq]
    rw [← e]
    exact HNL.out
  have HQ1 := Lib.hid hq
  have HZ1 := Lib.hid z
  have HK1 := Lib.hid hk
  clear hq z hk
  cases ok
  · go_wp2_with fail
    refine (must_no _).mono ?_
    rintro e w9 ⟨rfl, rfl⟩
    go_wp2_with fail
    refine ⟨rfl, ?_⟩
    rw [show pi s σ keep = .error (5, σ.pos) from by simp only [pi, HQ1.out]; rfl]
    exact ⟨rfl, HZ1.out.drop⟩
  · go_wp2_with fail
    refine (equalFold_any (HG.out.carry HZ1.out) nm (by omega)).mono ?_
    rintro e w22 ⟨rfl, hb⟩
    have HZ2 := Lib.hid (HZ1.out.below hb)
    clear hb
    cases hx : isXml nm
    · have HXM := Lib.hid hx
      clear hx
      go_wp2_with fail
      refine (must_yes _).mono ?_
      rintro e w8 ⟨rfl, rfl⟩
      go_wp2_with fail
      refine (until_any HG.out HZ2.out HK1.out [63, 62]).mono ?_
      rintro e w23 ⟨rfl, z⟩
      obtain ⟨⟨⟨tx, ok2⟩, σ2⟩, hq⟩ : ∃ q, upto s σ1 [63, 62] = q := ⟨_, rfl⟩
      have hk := HK1.out.upto [63, 62]
      rw [hq] at hk
      simp only [hq] at z ⊢
      have htl : tx.length ≤ 32768 := by
        have hu : (upto s σ1 [63, 62]).1.1 = tx := by rw [hq]
        rw [← hu]; unfold upto; exact Nat.le_trans (cut_length_le _ _) (by rw [rest_length]; omega)
      have HQ3 := Lib.hid hq
      have HZ3 := Lib.hid z
      have HK3 := Lib.hid hk
      clear hq z hk
      go_wp2_with fail
      refine (trimLeft_any tx).mono ?_
      rintro e w24 ⟨rfl, hb⟩
      have HZ4 := Lib.hid (HZ3.out.below hb)
      clear hb
      have htr := trimB_le tx
      generalize htm : trimB tx = tm at *
      have HTM := Lib.hid htm
      clear htm
      cases ok2
      · go_wp2_with fail
        refine (must_no _).mono ?_
        rintro e w9 ⟨rfl, rfl⟩
        go_wp2_with fail
        refine ⟨rfl, ?_⟩
        rw [show pi s σ keep = .error (5, σ.pos) from by simp only [pi, HQ1.out, HXM.out, HQ3.out, HTM.out]; rfl]
        exact ⟨rfl, HZ4.out.drop⟩
      · cases tx with
        | nil =>
          go_wp2_with fail
          refine (must_yes _).mono ?_
          rintro e w8 ⟨rfl, rfl⟩
          cases keep
          · go_wp2_with fail
            go_end0
            rw [show pi s σ false = .ok ((), σ2) from by simp only [pi, HQ1.out, HXM.out, HQ3.out, HTM.out]; rfl]
            exact ⟨rfl, HZ4.out⟩
          · go_wp2_with fail
            refine (flush_any HZ4.out HK3.out).mono ?_
            intro e wf hpost
            cases hfl : flush σ2 with
            | error er =>
              obtain ⟨en, ep⟩ := er
              rw [hfl] at hpost
              obtain ⟨rfl, z⟩ := hpost
              have HR : Hid (flushAdd σ2 ⟨6, nm, [], tm⟩ σ.pos = .error (en, ep)) := by show _ = _; unfold flushAdd; rw [hfl]
              have HZE := Lib.hid z
              clear hfl z
              go_wp2_with fail
              refine ⟨rfl, ?_⟩
              rw [show pi s σ true = .error (en, ep) from by simp only [pi, HQ1.out, HXM.out, HQ3.out, HTM.out, HR.out]; rfl]
              exact ⟨rfl, HZE.out⟩
            | ok r =>
              obtain ⟨_, σf⟩ := r
              rw [hfl] at hpost
              obtain ⟨rfl, z⟩ := hpost
              have HOF := Lib.hid (HK3.out.flush hfl)
              have HFL := Lib.hid hfl
              have HZF := Lib.hid ((Row.nil (e := 28) (size := 2) z).f1)
              clear hfl z
              go_wp2_with fail
              refine (add_any ⟨6, nm, [], tm⟩ (.slice none 0 0) σ.pos HZF.out HOF.out).mono ?_
              intro e wa hpost
              cases had : add σf ⟨6, nm, [], tm⟩ σ.pos with
              | error er =>
                obtain ⟨en, ep⟩ := er
                rw [had] at hpost
                obtain ⟨rfl, z⟩ := hpost
                have HR : Hid (flushAdd σ2 ⟨6, nm, [], tm⟩ σ.pos = .error (en, ep)) := by show _ = _; unfold flushAdd; rw [HFL.out]; exact had
                have HZE := Lib.hid z
                clear had z
                go_wp2_with fail
                refine ⟨rfl, ?_⟩
                rw [show pi s σ true = .error (en, ep) from by simp only [pi, HQ1.out, HXM.out, HQ3.out, HTM.out, HR.out]; rfl]
                exact ⟨rfl, HZE.out⟩
              | ok r =>
                obtain ⟨_, σa⟩ := r
                rw [had] at hpost
                obtain ⟨rfl, z⟩ := hpost
                have hfa : flushAdd σ2 ⟨6, nm, [], tm⟩ σ.pos = .ok ((), σa) := by unfold flushAdd; rw [HFL.out]; exact had
                have HR := Lib.hid hfa
                have HPT := Lib.hid (flushAdd_parts hfa)
                have HKA := Lib.hid (HK3.out.flushAdd hfa)
                have HZA := Lib.hid z
                clear had z hfa
                go_wp2_with fail
                go_end0
                rw [show pi s σ true = .ok ((), σa) from by simp only [pi, HQ1.out, HXM.out, HQ3.out, HTM.out, HR.out]; rfl]
                exact ⟨rfl, HZA.out⟩
        | cons c tl =>
          by_cases hlt : tm.length < (c :: tl).length
          · have hlt1 : decide ((tm.length : Int) < (tl.length : Int) + 1) = true := decide_eq_true (by simp at hlt; omega)
            have HTR := Lib.hid (decide_eq_true hlt)
            clear hlt
            go_wp2_with fail
            refine (must_yes _).mono ?_
            rintro e w8 ⟨rfl, rfl⟩
            cases keep
            · go_wp2_with fail
              go_end0
              rw [show pi s σ false = .ok ((), σ2) from by simp only [pi, HQ1.out, HXM.out, HQ3.out, HTM.out, HTR.out]; rfl]
              exact ⟨rfl, HZ4.out⟩
            · go_wp2_with fail
              refine (flush_any HZ4.out HK3.out).mono ?_
              intro e wf hpost
              cases hfl : flush σ2 with
              | error er =>
                obtain ⟨en, ep⟩ := er
                rw [hfl] at hpost
                obtain ⟨rfl, z⟩ := hpost
                have HR : Hid (flushAdd σ2 ⟨6, nm, [], tm⟩ σ.pos = .error (en, ep)) := by show _ = _; unfold flushAdd; rw [hfl]
                have HZE := Lib.hid z
                clear hfl z
                go_wp2_with fail
                refine ⟨rfl, ?_⟩
                rw [show pi s σ true = .error (en, ep) from by simp only [pi, HQ1.out, HXM.out, HQ3.out, HTM.out, HTR.out, HR.out]; rfl]
                exact ⟨rfl, HZE.out⟩
              | ok r =>
                obtain ⟨_, σf⟩ := r
                rw [hfl] at hpost
                obtain ⟨rfl, z⟩ := hpost
                have HOF := Lib.hid (HK3.out.flush hfl)
                have HFL := Lib.hid hfl
                have HZF := Lib.hid ((Row.nil (e := 28) (size := 2) z).f1)
                clear hfl z
                go_wp2_with fail
                refine (add_any ⟨6, nm, [], tm⟩ (.slice none 0 0) σ.pos HZF.out HOF.out).mono ?_
                intro e wa hpost
                cases had : add σf ⟨6, nm, [], tm⟩ σ.pos with
                | error er =>
                  obtain ⟨en, ep⟩ := er
                  rw [had] at hpost
                  obtain ⟨rfl, z⟩ := hpost
                  have HR : Hid (flushAdd σ2 ⟨6, nm, [], tm⟩ σ.pos = .error (en, ep)) := by show _ = _; unfold flushAdd; rw [HFL.out]; exact had
                  have HZE := Lib.hid z
                  clear had z
                  go_wp2_with fail
                  refine ⟨rfl, ?_⟩
                  rw [show pi s σ true = .error (en, ep) from by simp only [pi, HQ1.out, HXM.out, HQ3.out, HTM.out, HTR.out, HR.out]; rfl]
                  exact ⟨rfl, HZE.out⟩
                | ok r =>
                  obtain ⟨_, σa⟩ := r
                  rw [had] at hpost
                  obtain ⟨rfl, z⟩ := hpost
                  have hfa : flushAdd σ2 ⟨6, nm, [], tm⟩ σ.pos = .ok ((), σa) := by unfold flushAdd; rw [HFL.out]; exact had
                  have HR := Lib.hid hfa
                  have HPT := Lib.hid (flushAdd_parts hfa)
                  have HKA := Lib.hid (HK3.out.flushAdd hfa)
                  have HZA := Lib.hid z
                  clear had z hfa
                  go_wp2_with fail
                  go_end0
                  rw [show pi s σ true = .ok ((), σa) from by simp only [pi, HQ1.out, HXM.out, HQ3.out, HTM.out, HTR.out, HR.out]; rfl]
                  exact ⟨rfl, HZA.out⟩
          · have HTR := Lib.hid (decide_eq_false hlt)
            have hlt1 : decide ((tm.length : Int) < (tl.length : Int) + 1) = false := decide_eq_false (by simp at hlt; omega)
            clear hlt
            go_wp2_with fail
            refine (must_no _).mono ?_
            rintro e w9 ⟨rfl, rfl⟩
            go_wp2_with fail
            refine ⟨rfl, ?_⟩
            rw [show pi s σ keep = .error (5, σ.pos) from by simp only [pi, HQ1.out, HXM.out, HQ3.out, HTM.out, HTR.out]; rfl]
            exact ⟨rfl, HZ4.out.drop⟩
    · have HXM := Lib.hid hx
      clear hx
      go_wp2_with fail
      refine (must_no _).mono ?_
      rintro e w9 ⟨rfl, rfl⟩
      go_wp2_with fail
      refine ⟨rfl, ?_⟩
      rw [show pi s σ keep = .error (5, σ.pos) from by simp only [pi, HQ1.out, HXM.out]; rfl]
      exact ⟨rfl, HZ2.out.drop⟩
end
end Go.Proofs.YtalmkfikfmpmoaaGreatDoor
