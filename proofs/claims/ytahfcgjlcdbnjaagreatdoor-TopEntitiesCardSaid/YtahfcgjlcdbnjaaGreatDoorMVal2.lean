/- ref passes a reference; value passes an attribute's text. -/
import Derived.Test.YtahfcgjlcdbnjaaGreatDoorMExp3
namespace Go.Proofs.YtahfcgjlcdbnjaaGreatDoor
open Go.RowKit

/-- The mark of what is not said. -/
def wild : Int × Int := (-1, 0)

/-- A reference is passed: what it says. -/
def refM (s : ByteArray) (σ : St) (attr : Bool) : M Bytes :=
  if refWild (rest s σ) then .error wild else
  match reference (rest s σ) with
  | none => .error (5, σ.pos)
  | some (n, t, e) =>
    if e = [] then .ok (t, σ.to (σ.pos + n))
    else match expandN σ.ents attr σ.pos 8 [] e [] σ.grown with
      | .error x => .error x
      | .ok (o, k) => .ok (o, { σ.to (σ.pos + n) with grown := k })

theorem Bldr.newAt {W w w' : World} {L : List Asn} {bo : Nat} (x : Hold W w L) (hw : w' = w.alloc (.cells #[.pointer none, .slice none 0 0] 95)) (hb : bo = w.heap.size) : Hold W w' (Bldr bo [] :: L) := by
  subst hw; subst hb; exact Bldr.new x

section
variable {W w : World} {L : List Asn} {b : Nat} {s : ByteArray} {σ : St}

set_option maxHeartbeats 1000000 in
set_option maxRecDepth 100000 in
theorem ref_any (g : Glob W) (attr : Bool) (x : Hold W w (Scn b s σ :: L)) (h : Ok s σ) (hen : EntsOk σ.ents) (h38 : (rest s σ).head? = some 38) (hnw : refM s σ attr ≠ .error wild) :
    Calls Tryz.prog 131 #[.pointer (some ⟨b, 0, none⟩), .bool attr] w (Post W L b s str (refM s σ attr)) := by
  have hc1 := Scn.posCell x
  have h1 := h.size
  have h2 := h.pos
  have hrl := rest_length s σ
  have HO := Lib.hid x
  have HH := Lib.hid h
  have HG := Lib.hid g
  have HEN := Lib.hid hen
  have H38 := Lib.hid h38
  have hwi : refWild (rest s σ) = false := by
    cases hc : refWild (rest s σ)
    · rfl
    · exact absurd (show refM s σ attr = .error wild by unfold refM; rw [hc]; rfl) hnw
  have HWI := Lib.hid hwi
  clear hnw
  have hrm : refM s σ attr = (match reference (rest s σ) with
    | none => .error (5, (σ.pos : Int))
    | some (n, t, e) => if e = [] then .ok (t, σ.to (σ.pos + n))
      else match expandN σ.ents attr σ.pos 8 [] e [] σ.grown with
        | .error x => .error x
        | .ok (o, k) => .ok (o, { σ.to (σ.pos + n) with grown := k })) := by unfold refM; rw [hwi]; rfl
  have HRM := Lib.hid hrm
  have HRL := Lib.hid hrl
  clear x h g hen h38 hrm hrl hwi
  go_enter Tryz.func131, Tryz.ntmps131
  go_wp2_with fail
  refine (rest_any HO.out HH.out).mono ?_
  rintro e w1 ⟨rfl, n, rfl⟩
  have HX1 := Lib.hid (HO.out.drewN n)
  go_wp2_with fail
  refine (reference_any (HG.out.carry HX1.out) (rest s σ) (by have := HRL.out; omega) H38.out HWI.out).mono ?_
  rintro e w2 ⟨rfl, hb⟩
  have HX2 := Lib.hid (HX1.out.below hb)
  clear hb
  cases href : reference (rest s σ) with
  | none =>
    have HR := Lib.hid href
    clear href
    unfold refV
    go_wp2_with fail
    refine (must_no _).mono ?_
    rintro e w3 ⟨rfl, rfl⟩
    go_wp2_with fail
    refine ⟨rfl, ?_⟩
    rw [HRM.out, HR.out]
    exact ⟨rfl, HX2.out.drop⟩
  | some q =>
    obtain ⟨m, t, e⟩ := q
    obtain ⟨hm1, hm2, ht4, hel⟩ := reference_size href
    rw [HRL.out] at hm2 hel
    have HR := Lib.hid href
    have hc2 := Scn.posCell HX2.out
    have hf2 := Scn.free HX2.out 1
    have HM := Lib.hid (Scn.move HX2.out (σ.pos + m) ((σ.pos : Int) + m) (by push_cast; rfl))
    have HK : Hid (Ok s (σ.to (σ.pos + m))) := HH.out.to (by omega)
    have hm0 : decide (0 < m) = true := by simp; omega
    clear href hc1
    unfold refV
    go_wp2_with fail
    refine (must_yes _).mono ?_
    rintro e w3 ⟨rfl, rfl⟩
    cases e with
    | nil =>
      go_wp2_with fail
      go_ret
      rw [HRM.out, HR.out]
      exact ⟨rfl, HM.out⟩
    | cons ec el =>
      go_wp2_with fail
      have hgr : ([] : Bytes).length ≤ 1048576 + (σ.to (σ.pos + m)).grown := Nat.zero_le _
      refine (expand_any HG.out attr σ.pos (by omega) _ 8 _ L (σ.to (σ.pos + m)) (.slice none 0 0) [] (ec :: el) [] (by decide) (by decide) (by omega) HK.out HEN.out hgr ?_).mono ?_
      · have z := Bldr.newAt (bo := w2.heap.size) HM.out rfl (by simp)
        have z := Row.nil (e := 9) (size := 1) z
        exact z.re [2, 1, 0]
      intro e w4 hpost
      have hpost : ExpPost W L b s (σ.to (σ.pos + m)) w2.heap.size (.slice none 0 0) [] (expandN σ.ents attr σ.pos 8 [] (ec :: el) [] σ.grown) e w4 := hpost
      cases hex : expandN σ.ents attr σ.pos 8 [] (ec :: el) [] σ.grown with
      | error er =>
        obtain ⟨en, ep⟩ := er
        rw [hex] at hpost
        obtain ⟨rfl, z⟩ := hpost
        have HE := Lib.hid hex
        clear hex
        go_wp2_with fail
        refine ⟨rfl, ?_⟩
        rw [HRM.out, HR.out]
        simp only [HE.out]
        exact ⟨rfl, z⟩
      | ok r =>
        obtain ⟨o, k⟩ := r
        rw [hex] at hpost
        obtain ⟨rfl, z⟩ := hpost
        have HE := Lib.hid hex
        have HZ := Lib.hid z
        clear hex z
        go_wp2_with fail
        refine (Bldr.string HZ.out.f1).mono ?_
        rintro e w5 ⟨rfl, z⟩
        have HZ5 := Lib.hid z
        clear z
        go_wp2_with fail
        go_ret
        rw [HRM.out, HR.out]
        simp only [HE.out]
        exact ⟨rfl, HZ5.out.f1.drop⟩
end
end Go.Proofs.YtahfcgjlcdbnjaaGreatDoor
/- value: an attribute's text is passed. -/
namespace Go.Proofs.YtahfcgjlcdbnjaaGreatDoor
open Go.RowKit

theorem expandN_len0 (ents : List (Bytes × Bytes)) (attr : Bool) (p : Nat) (d : Nat) (inside : List Bytes) (nm o : Bytes) (k : Nat) (o' : Bytes) (k' : Nat)
    (h : expandN ents attr p d inside nm o k = .ok (o', k')) (hk : k ≤ 32768) : o'.length ≤ o.length + (k' - k) + 1 ∧ k ≤ k' ∧ k' ≤ 32768 := by
  by_cases hi : 0 < inside.length
  · have := expandN_len ents attr p d inside nm o k o' k' hi h hk
    omega
  · cases d with
    | zero =>
      unfold expandN at h
      split at h
      · rename_i t hpl
        have := plain_len hpl
        split at h
        · omega
        · cases h; simp; omega
      · split at h
        · cases h
        · split at h
          · cases h
          · cases h
    | succ d =>
      unfold expandN at h
      split at h
      · rename_i t hpl
        have := plain_len hpl
        split at h
        · omega
        · cases h; simp; omega
      · split at h
        · cases h
        · split at h
          · cases h
          · have := expandL_len _ attr p (fun e o k o' k' hr hk => expandN_len ents attr p d (inside ++ [nm]) e o k o' k' (by simp) hr hk) _ _ _ _ _ _ h hk
            omega

section
variable {W w : World} {L : List Asn} {b : Nat} {s : ByteArray} {σ : St}

theorem refM_parts {attr : Bool} {t : Bytes} {σ' : St} (h : refM s σ attr = .ok (t, σ')) (hk : Ok s σ) :
    Ok s σ' ∧ σ'.ents = σ.ents ∧ σ.pos < σ'.pos ∧ t.length ≤ 32769 ∧ σ'.toks = σ.toks ∧ σ'.opn = σ.opn ∧ σ'.text = σ.text ∧ σ'.beg = σ.beg ∧ σ'.ended = σ.ended := by
  have hrl := rest_length s σ
  have hp := hk.pos
  unfold refM at h
  split at h
  · cases h
  split at h
  · cases h
  · rename_i n u e hr
    obtain ⟨hn1, hn2, hu, _⟩ := reference_size hr
    rw [hrl] at hn2
    split at h
    · cases h
      exact ⟨hk.to (by omega), rfl, by show _ < σ.pos + n; omega, by omega, rfl, rfl, rfl, rfl, rfl⟩
    · split at h
      · cases h
      · rename_i o k hex
        cases h
        have := expandN_len0 _ _ _ _ _ _ _ _ _ _ hex hk.grown
        refine ⟨⟨hk.size, by show σ.pos + n ≤ _; omega, hk.toks, hk.opn, hk.text, hk.beg, this.2.2⟩, rfl, by show _ < σ.pos + n; omega, ?_, rfl, rfl, rfl, rfl, rfl⟩
        have h1 := this.1
        simp at h1
        omega

/-- An attribute's text up to its sign. -/
def valueL (sg : Bytes) (s : ByteArray) : Nat → St → Bytes → M (Bytes × Bool)
  | 0, σ, _ => .ok (([], false), σ)
  | n + 1, σ, o =>
    if σ.pos < s.size then
      (if has s σ sg then .ok ((o, true), σ.to (σ.pos + sg.length))
       else if (rest s σ).headD 0 = 60 then .ok (([], false), σ)
       else if (rest s σ).headD 0 = 38 then
         match refM s σ true with
         | .error x => .error x
         | .ok (t, σ') => valueL sg s n σ' (o ++ t)
       else if isBlank ((rest s σ).headD 0).toNat then valueL sg s n (σ.to (σ.pos + 1)) (o ++ [32])
       else valueL sg s n (σ.to (σ.pos + 1)) (o ++ [(rest s σ).headD 0]))
    else .ok (([], false), σ)

/-- An attribute's text is passed. -/
def value (s : ByteArray) (σ : St) : M (Bytes × Bool) :=
  let r := sign s σ
  if r.1.2 then valueL r.1.1 s (s.size + 1) r.2 [] else .ok (([], false), r.2)

abbrev strBool (p : Bytes × Bool) : Value := .tuple #[str p.1, .bool p.2]

theorem head_at (s : ByteArray) (σ : St) (h : σ.pos < s.size) : s[σ.pos]'h = (rest s σ).headD 0 := by
  unfold rest
  have hl : σ.pos < s.data.toList.length := by simpa using h
  rw [List.drop_eq_getElem_cons hl]
  simp
  rfl

theorem sign_length (s : ByteArray) (σ : St) : (sign s σ).1.1.length ≤ 1 := by
  unfold sign
  split
  · simp
  · split <;> simp

set_option maxHeartbeats 2000000 in
set_option maxRecDepth 100000 in
theorem value_any (g : Glob W) (x : Hold W w (Scn b s σ :: L)) (h : Ok s σ) (hen : EntsOk σ.ents) (hnw : value s σ ≠ .error wild) :
    Calls Tryz.prog 170 #[.pointer (some ⟨b, 0, none⟩)] w (Post W L b s strBool (value s σ)) := by
  have h1 := h.size
  have HO := Lib.hid x
  have HH := Lib.hid h
  have HG := Lib.hid g
  have HEN : Hid (EntsOk (sign s σ).2.ents) := by
    show EntsOk _
    have : (sign s σ).2.ents = σ.ents := by unfold sign; split; rfl; split <;> rfl
    rw [this]; exact hen
  have HS := Lib.hid h.sign
  have hsl := sign_length s σ
  have hv : value s σ = if (sign s σ).1.2 then valueL (sign s σ).1.1 s (s.size + 1) (sign s σ).2 [] else .ok (([], false), (sign s σ).2) := rfl
  have HV := Lib.hid hv
  have HNW := Lib.hid hnw
  clear x h g hen hv hnw
  go_enter Tryz.func170, Tryz.ntmps170
  go_wp2_with fail
  refine (sign_any HO.out HH.out).mono ?_
  rintro e w1 ⟨rfl, z⟩
  generalize sign s σ = r at *
  obtain ⟨⟨sg, ok⟩, σr⟩ := r
  have HZ := Lib.hid z
  clear z
  cases ok
  · go_wp2_with fail
    go_ret2
    rw [HV.out]
    exact ⟨rfl, HZ.out⟩
  · have hsg : sg.length ≤ 1 := hsl
    clear hsl
    obtain ⟨tot, htot⟩ : ∃ r, valueL sg s (s.size + 1) σr [] = r := ⟨_, rfl⟩
    have HT : Hid (value s σ = tot) := by show _ = _; rw [HV.out]; exact htot
    have HTT := Lib.hid htot
    clear htot
    go_wp2_with fail
    go_loopg [] (s.size + 1) (fun gk wr => ∃ (σ' : St) (o : Bytes), Hold W wr (Scn b s σ' :: Bldr w1.heap.size o :: L) ∧ Hid (Ok s σ') ∧ Hid (EntsOk σ'.ents) ∧ o.length ≤ σ'.pos * 40000 ∧ s.size < gk + σ'.pos ∧
      Hid (valueL sg s gk σ' o = tot))
    case atStart =>
      refine ⟨σr, [], ?_, HS, HEN, Nat.zero_le _, by omega, HTT⟩
      exact (Bldr.newAt (bo := w1.heap.size) HZ.out rfl rfl).f1
    case round =>
      obtain ⟨σ', o, z, HK, HE, ho, hgk, HTV⟩ := hrel
      have hc0 := Scn.strCell z
      have hc1 := Scn.posCell z
      have hps := HK.out.pos
      have HZ2 := Lib.hid z
      clear z
      by_cases hlt : σ'.pos < s.size
      · obtain ⟨n, rfl⟩ : ∃ n, gk = n + 1 := ⟨gk - 1, by omega⟩
        have hx : (rest s σ').headD 0 = s[σ'.pos]'hlt := (head_at s σ' hlt).symm
        have hvl : valueL sg s (n + 1) σ' o = tot := HTV.out
        simp only [valueL] at hvl
        rw [if_pos hlt] at hvl
        have HVL := Lib.hid hvl
        have h38 : (rest s σ').head? = some ((rest s σ').headD 0) := by
          have := rest_length s σ'
          cases hr : rest s σ' with
          | nil => rw [hr] at this; simp at this; omega
          | cons a l => rfl
        have HX := Lib.hid hx
        have H38 := Lib.hid h38
        clear HTV hvl hx h38
        have hlt' : (decide ((σ'.pos : Int) < (s.size : Int))) = true := by simp; omega
        obtain ⟨c, hc⟩ : ∃ c, s[σ'.pos]'hlt = c := ⟨_, rfl⟩
        have hcx : (rest s σ').headD 0 = c := HX.out.trans hc
        have hvl := HVL.out
        rw [hcx] at hvl
        have h38 := H38.out
        rw [hcx] at h38
        clear HVL H38 HX hcx
        have HVL := Lib.hid hvl
        have H38 := Lib.hid h38
        have HC := Lib.hid hc
        clear hvl h38 hc
        go_wp2_with fail
        go_quiet (fail)
        go_wp2_with fail
        go_quiet (fail)
        rw [HC.out]
        clear HC hc0 hc1
        have hcb := c.toNat_lt
        go_wp2_with fail
        refine (eat_any (HZ2.out.drewN _) HK.out sg (by omega)).mono ?_
        rintro e w3 ⟨rfl, z⟩
        unfold eat at *
        cases hhas : has s σ' sg
        · rw [hhas, if_neg (by simp)] at z
          have hvl := HVL.out
          rw [hhas, if_neg (by simp)] at hvl
          rw [if_neg (by simp)]
          have HZ3 := Lib.hid z
          have HVL := Lib.hid hvl
          clear z hvl hhas
          by_cases h60 : c = 60
          · subst h60
            have hvl := HVL.out
            rw [if_pos rfl] at hvl
            have HVL := Lib.hid hvl
            clear hvl
            go_wp2_with fail
            go_ret2
            rw [HT.out, ← HVL.out]
            exact ⟨rfl, HZ3.out.f1.drop⟩
          · have h60n : c.toNat ≠ 60 := fun q => h60 (UInt8.toNat_inj.mp q)
            have h60i : ((c.toNat : Int) == 60) = false := by rw [beq_eq_false_iff_ne]; omega
            have hvl := HVL.out
            rw [if_neg h60] at hvl
            by_cases h38 : c = 38
            · subst h38
              rw [if_pos rfl] at hvl
              have HVR := Lib.hid hvl
              clear hvl
              go_wp2_with fail
              have hnr : refM s σ' true ≠ .error wild := by
                intro hc
                have hv := HVR.out
                rw [hc] at hv
                exact HNW.out (by rw [HT.out, ← hv])
              have HNR := Lib.hid hnr
              clear hnr
              refine (ref_any HG.out true HZ3.out HK.out HE.out H38.out HNR.out).mono ?_
              intro e w4 hpost
              cases hr : refM s σ' true with
              | error er =>
                obtain ⟨en, ep⟩ := er
                rw [hr] at hpost
                obtain ⟨rfl, z⟩ := hpost
                have hvl := HVR.out
                rw [hr] at hvl
                simp only at hvl
                have HVR := Lib.hid hvl
                clear hvl hr
                go_wp2_with fail
                refine ⟨rfl, ?_⟩
                rw [HT.out, ← HVR.out]
                exact ⟨rfl, Hold.drop z⟩
              | ok r =>
                obtain ⟨tx, σ''⟩ := r
                rw [hr] at hpost
                obtain ⟨rfl, z⟩ := hpost
                have hvl := HVR.out
                rw [hr] at hvl
                simp only at hvl
                obtain ⟨hk2, he2, hp2, hl2, -⟩ := refM_parts hr HK.out
                have hen2 : EntsOk σ''.ents := by rw [he2]; exact HE.out
                have HVR := Lib.hid hvl
                have HZ4 := Lib.hid z
                have HK2 := Lib.hid hk2
                have HE2 := Lib.hid hen2
                have hps2 := hk2.pos
                clear hvl hr z hk2 hen2 he2
                go_wp2_with fail
                refine (Bldr.writeString tx HZ4.out.f1 (by omega)).mono ?_
                rintro e w5 ⟨rfl, z⟩
                have HZ5 := Lib.hid z
                clear z
                go_wp2_with fail
                go_roundg n
                case measure => omega
                case rel => exact ⟨σ'', o ++ tx, HZ5.out.f1, HK2, HE2, by simp; omega, by omega, HVR⟩
            · have h38n : c.toNat ≠ 38 := fun q => h38 (UInt8.toNat_inj.mp q)
              have h38i : ((c.toNat : Int) == 38) = false := by rw [beq_eq_false_iff_ne]; omega
              rw [if_neg h38] at hvl
              have HVL := Lib.hid hvl
              clear hvl
              go_wp2_with fail
              refine (isBlank_any _ _).mono ?_
              rintro e w4 ⟨rfl, rfl⟩
              cases hbl : isBlank (c.toNat : Int)
              · have hvl := HVL.out
                rw [hbl, if_neg (by simp)] at hvl
                have HVL := Lib.hid hvl
                clear hvl hbl
                go_wp2_with fail
                refine (Bldr.writeByte c HZ3.out.f1 (by omega)).mono ?_
                rintro e w5 ⟨rfl, z⟩
                have z := z.f1
                have hc1 := Scn.posCell z
                have hf2 := Scn.free z 1
                have HM := Lib.hid (Scn.move z (σ'.pos + 1) ((σ'.pos : Int) + 1) (by push_cast; rfl))
                have HK2 : Hid (Ok s (σ'.to (σ'.pos + 1))) := HK.out.to (by omega)
                clear z
                go_wp2_with fail
                go_roundg n
                case measure => omega
                case rel => exact ⟨σ'.to (σ'.pos + 1), o ++ [c], HM.out, HK2, HE, by simp [St.to]; omega, by simp [St.to]; omega, HVL⟩
              · have hvl := HVL.out
                rw [hbl, if_pos rfl] at hvl
                have HVL := Lib.hid hvl
                clear hvl hbl
                go_wp2_with fail
                refine (Bldr.writeByte 32 HZ3.out.f1 (by omega)).mono ?_
                rintro e w5 ⟨rfl, z⟩
                have z := z.f1
                have hc1 := Scn.posCell z
                have hf2 := Scn.free z 1
                have HM := Lib.hid (Scn.move z (σ'.pos + 1) ((σ'.pos : Int) + 1) (by push_cast; rfl))
                have HK2 : Hid (Ok s (σ'.to (σ'.pos + 1))) := HK.out.to (by omega)
                clear z
                go_wp2_with fail
                go_roundg n
                case measure => omega
                case rel => exact ⟨σ'.to (σ'.pos + 1), o ++ [32], HM.out, HK2, HE, by simp [St.to]; omega, by simp [St.to]; omega, HVL⟩
        · rw [hhas, if_pos rfl] at z
          have hvl := HVL.out
          rw [hhas, if_pos rfl] at hvl
          rw [if_pos rfl]
          have HZ3 := Lib.hid z
          have HVL := Lib.hid hvl
          clear z hvl hhas
          go_wp2_with fail
          refine (Bldr.string HZ3.out.f1).mono ?_
          rintro e w4 ⟨rfl, z⟩
          have HZ4 := Lib.hid z
          clear z
          go_wp2_with fail
          go_ret2
          rw [HT.out, ← HVL.out]
          exact ⟨rfl, HZ4.out⟩
      · have HOV : Hid (tot = .ok (([], false), σ')) := by
          show _ = _
          rw [← HTV.out]
          cases gk with
          | zero => rfl
          | succ n => simp only [valueL]; rw [if_neg hlt]
        go_wp2_with fail
        go_quiet (fail)
        go_wp2_with fail
        go_ret2
        rw [HT.out, HOV.out]
        exact ⟨rfl, (HZ2.out.drewN _).f1.drop⟩
end
end Go.Proofs.YtahfcgjlcdbnjaaGreatDoor
