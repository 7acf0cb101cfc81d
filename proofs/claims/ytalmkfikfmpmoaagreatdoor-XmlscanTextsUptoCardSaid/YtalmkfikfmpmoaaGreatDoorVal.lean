/- ref passes a reference; value passes an attribute's text. -/
import Derived.Test.YtalmkfikfmpmoaaGreatDoorExp3
namespace Go.Proofs.YtalmkfikfmpmoaaGreatDoor
open Go.RowKit

/-- The mark of what is not said. -/
def wild : Int × Int := (-1, 0)

/-- A reference is passed: what it says. -/
def refM (s : ByteArray) (σ : St) (attr : Bool) : M Bytes :=
  if refWild (rest s σ) then .error wild else
  match reference (rest s σ) with
  | none => .error (5, σ.pos)
  | some (n, t, e) =>
    if e = [] then .ok (t, σ.to (σ.pos + n))
    else match expandN σ.ents attr σ.pos 8 [] e [] σ.grown with
      | .error x => .error x
      | .ok (o, k) => .ok (o, { σ.to (σ.pos + n) with grown := k })

theorem Bldr.newAt {W w w' : World} {L : List Asn} {bo : Nat} (x : Hold W w L) (hw : w' = w.alloc (.cells #[.pointer none, .slice none 0 0] 52)) (hb : bo = w.heap.size) : Hold W w' (Bldr bo [] :: L) := by
  subst hw; subst hb; exact Bldr.new x

section
variable {W w : World} {L : List Asn} {b : Nat} {s : ByteArray} {σ : St}

set_option maxHeartbeats 1000000 in
set_option maxRecDepth 100000 in
theorem ref_any (g : Glob W) (attr : Bool) (x : Hold W w (Scn b s σ :: L)) (h : Ok s σ) (hen : EntsOk σ.ents) (h38 : (rest s σ).head? = some 38) (hnw : refM s σ attr ≠ .error wild) :
    Calls Tryz.prog 79 #[.pointer (some ⟨b, 0, none⟩), .bool attr] w (Post W L b s str (refM s σ attr)) := by
  have hc1 := Scn.posCell x
  have h1 := h.size
  have h2 := h.pos
  have hrl := rest_length s σ
  have HO := Lib.hid x
  have HH := Lib.hid h
  have HG := Lib.hid g
  have HEN := Lib.hid hen
  have H38 := Lib.hid h38
  have hwi : refWild (rest s σ) = false := by
    cases hc : refWild (rest s σ)
    · rfl
    · exact absurd (show refM s σ attr = .error wild by unfold refM; rw [hc]; rfl) hnw
  have HWI := Lib.hid hwi
  clear hnw
  have hrm : refM s σ attr = (match reference (rest s σ) with
    | none => .error (5, (σ.pos : Int))
    | some (n, t, e) => if e = [] then .ok (t, σ.to (σ.pos + n))
      else match expandN σ.ents attr σ.pos 8 [] e [] σ.grown with
        | .error x => .error x
        | .ok (o, k) => .ok (o, { σ.to (σ.pos + n) with grown := k })) := by unfold refM; rw [hwi]; rfl
  have HRM := Lib.hid hrm
  have HRL := Lib.hid hrl
  clear x h g hen h38 hrm hrl hwi
  go_enter Tryz.func79, Tryz.ntmps79
  go_wp2_with fail
  refine (rest_any HO.out HH.out).mono ?_
  rintro e w1 ⟨rfl, n, rfl⟩
  have HX1 := Lib.hid (HO.out.drewN n)
  go_wp2_with fail
  refine (reference_any (HG.out.carry HX1.out) (rest s σ) (by have := HRL.out; omega) H38.out HWI.out).mono ?_
  rintro e w2 ⟨rfl, hb⟩
  have HX2 := Lib.hid (HX1.out.below hb)
  clear hb
  cases href : reference (rest s σ) with
  | none =>
    have HR := Lib.hid href
    clear href
    unfold refV
    go_wp2_with fail
    refine (must_no _).mono ?_
    rintro e w3 ⟨rfl, rfl⟩
    go_wp2_with fail
    refine ⟨rfl, ?_⟩
    rw [HRM.out, HR.out]
    exact ⟨rfl, HX2.out.drop⟩
  | some q =>
    obtain ⟨m, t, e⟩ := q
    obtain ⟨hm1, hm2, ht4, hel⟩ := reference_size href
    rw [HRL.out] at hm2 hel
    have HR := Lib.hid href
    have hc2 := Scn.posCell HX2.out
    have hf2 := Scn.free HX2.out 1
    have HM := Lib.hid (Scn.move HX2.out (σ.pos + m) ((σ.pos : Int) + m) (by push_cast; rfl))
    have HK : Hid (Ok s (σ.to (σ.pos + m))) := HH.out.to (by omega)
    have hm0 : decide (0 < m) = true := by simp; omega
    clear href hc1
    unfold refV
    go_wp2_with fail
    refine (must_yes _).mono ?_
    rintro e w3 ⟨rfl, rfl⟩
    cases e with
    | nil =>
      go_wp2_with fail
      go_ret
      rw [HRM.out, HR.out]
      exact ⟨rfl, HM.out⟩
    | cons ec el =>
      go_wp2_with fail
      have hgr : ([] : Bytes).length ≤ 1048576 + (σ.to (σ.pos + m)).grown := Nat.zero_le _
      refine (expand_any HG.out attr σ.pos (by omega) _ 8 _ L (σ.to (σ.pos + m)) (.slice none 0 0) [] (ec :: el) [] (by decide) (by decide) (by omega) HK.out HEN.out hgr ?_).mono ?_
      · have z := Bldr.newAt (bo := w2.heap.size) HM.out rfl (by simp)
        have z := Row.nil (e := 9) (size := 1) z
        exact z.re [2, 1, 0]
      intro e w4 hpost
      have hpost : ExpPost W L b s (σ.to (σ.pos + m)) w2.heap.size (.slice none 0 0) [] (expandN σ.ents attr σ.pos 8 [] (ec :: el) [] σ.grown) e w4 := hpost
      cases hex : expandN σ.ents attr σ.pos 8 [] (ec :: el) [] σ.grown with
      | error er =>
        obtain ⟨en, ep⟩ := er
        rw [hex] at hpost
        obtain ⟨rfl, z⟩ := hpost
        have HE := Lib.hid hex
        clear hex
        go_wp2_with fail
        refine ⟨rfl, ?_⟩
        rw [HRM.out, HR.out]
        simp only [HE.out]
        exact ⟨rfl, z⟩
      | ok r =>
        obtain ⟨o, k⟩ := r
        rw [hex] at hpost
        obtain ⟨rfl, z⟩ := hpost
        have HE := Lib.hid hex
        have HZ := Lib.hid z
        clear hex z
        go_wp2_with fail
        refine (Bldr.string HZ.out.f1).mono ?_
        rintro e w5 ⟨rfl, z⟩
        have HZ5 := Lib.hid z
        clear z
        go_wp2_with fail
        go_ret
        rw [HRM.out, HR.out]
        simp only [HE.out]
        exact ⟨rfl, HZ5.out.f1.drop⟩
end
end Go.Proofs.YtalmkfikfmpmoaaGreatDoor
