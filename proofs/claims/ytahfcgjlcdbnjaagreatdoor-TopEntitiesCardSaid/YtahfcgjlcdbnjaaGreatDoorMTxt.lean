/- Escaped texts, read back by the scanner's models: the plain law of XmlscanTexts. -/
import Derived.Test.YtahfcgjlcdbnjaaGreatDoorMLaw
namespace Go.Proofs.YtahfcgjlcdbnjaaGreatDoor
open Go.RowKit

/-- A letter as it stands in an element's text; in an attribute's. -/
def escB (c : UInt8) : Bytes := if c = 38 then [38, 97, 109, 112, 59] else if c = 60 then [38, 108, 116, 59] else if c = 62 then [38, 103, 116, 59] else if c = 13 then [38, 35, 49, 51, 59] else [c]
def quoB (c : UInt8) : Bytes := if c = 38 then [38, 97, 109, 112, 59] else if c = 60 then [38, 108, 116, 59] else if c = 34 then [38, 113, 117, 111, 116, 59] else if c = 9 then [38, 35, 57, 59] else if c = 10 then [38, 35, 49, 48, 59] else if c = 13 then [38, 35, 49, 51, 59] else [c]
def esc (l : Bytes) : Bytes := l.flatMap escB
def quo (l : Bytes) : Bytes := l.flatMap quoB

theorem ref_tail {n r : Bytes} (h : (59 : UInt8) ∉ n) : reference (38 :: (n ++ 59 :: r)) = reference (38 :: (n ++ [59])) ∧ refWild (38 :: (n ++ 59 :: r)) = refWild (38 :: (n ++ [59])) := by
  have hc : ∀ r : Bytes, Lib.cut (38 :: (n ++ 59 :: r)) [59] = (38 :: n, r, true) := fun r => by
    have := cut_at (a := 38 :: n) (r := r) (c := 59) (by simp [h])
    simpa using this
  unfold reference refWild
  simp only [hc]
  exact ⟨trivial, trivial⟩

section
variable {D : Bytes} {σ : St}

/-- A reference to a named sign. -/
theorem refM_name (n r : Bytes) (c : UInt8) (at_ : Bool) (h : (59 : UInt8) ∉ n) (hr : reference (38 :: (n ++ [59])) = some (n.length + 2, [], n)) (hw : refWild (38 :: (n ++ [59])) = false) (hp : plain n = some [c]) (hn : n ≠ [])
    (hd : D.drop σ.pos = 38 :: (n ++ 59 :: r)) : refM ⟨D.toArray⟩ σ at_ = .ok ([c], σ.to (σ.pos + (n.length + 2))) := by
  unfold refM
  rw [rest_ev, hd, (ref_tail h).1, (ref_tail h).2, hr, hw]
  simp only [Bool.false_eq_true, if_false]
  rw [if_neg hn]
  unfold expandN
  rw [hp]
  simp [St.to]

/-- A reference by number. -/
theorem refM_num (n r : Bytes) (c : UInt8) (at_ : Bool) (h : (59 : UInt8) ∉ n) (hr : reference (38 :: (n ++ [59])) = some (n.length + 2, [c], [])) (hw : refWild (38 :: (n ++ [59])) = false)
    (hd : D.drop σ.pos = 38 :: (n ++ 59 :: r)) : refM ⟨D.toArray⟩ σ at_ = .ok ([c], σ.to (σ.pos + (n.length + 2))) := by
  unfold refM
  rw [rest_ev, hd, (ref_tail h).1, (ref_tail h).2, hr, hw]
  simp

theorem drop_lt {a : UInt8} {l : Bytes} {k : Nat} (h : D.drop k = a :: l) : k < D.length := by
  rcases Nat.lt_or_ge k D.length with h' | h'
  · exact h'
  · rw [List.drop_eq_nil_of_le h'] at h; cases h
theorem drop_more {a b : Bytes} {k : Nat} (h : D.drop k = a ++ b) : D.drop (k + a.length) = b := by
  rw [← List.drop_drop, h, List.drop_left]

/-- What a letter comes to: it alone, or a reference that says it. -/
theorem quoB_ref (c : UInt8) (hc : quoB c ≠ [c]) (r : Bytes) (at_ : Bool) (hd : D.drop σ.pos = quoB c ++ r) :
    (∃ l, D.drop σ.pos = 38 :: l) ∧ refM ⟨D.toArray⟩ σ at_ = .ok ([c], σ.to (σ.pos + (quoB c).length)) := by
  unfold quoB at hc hd ⊢
  by_cases h1 : c = 38
  · subst h1
    exact ⟨⟨_, hd⟩, refM_name [97, 109, 112] r 38 at_ (by decide) (by kernel_rfl) (by kernel_rfl) (by kernel_rfl) (by decide) hd⟩
  by_cases h2 : c = 60
  · subst h2
    exact ⟨⟨_, hd⟩, refM_name [108, 116] r 60 at_ (by decide) (by kernel_rfl) (by kernel_rfl) (by kernel_rfl) (by decide) hd⟩
  by_cases h3 : c = 34
  · subst h3
    exact ⟨⟨_, hd⟩, refM_name [113, 117, 111, 116] r 34 at_ (by decide) (by kernel_rfl) (by kernel_rfl) (by kernel_rfl) (by decide) hd⟩
  by_cases h4 : c = 9
  · subst h4
    exact ⟨⟨_, hd⟩, refM_num [35, 57] r 9 at_ (by decide) (by kernel_rfl) (by kernel_rfl) hd⟩
  by_cases h5 : c = 10
  · subst h5
    exact ⟨⟨_, hd⟩, refM_num [35, 49, 48] r 10 at_ (by decide) (by kernel_rfl) (by kernel_rfl) hd⟩
  by_cases h6 : c = 13
  · subst h6
    exact ⟨⟨_, hd⟩, refM_num [35, 49, 51] r 13 at_ (by decide) (by kernel_rfl) (by kernel_rfl) hd⟩
  exact absurd (by rw [if_neg h1, if_neg h2, if_neg h3, if_neg h4, if_neg h5, if_neg h6]) hc

theorem escB_ref (c : UInt8) (hc : escB c ≠ [c]) (r : Bytes) (at_ : Bool) (hd : D.drop σ.pos = escB c ++ r) :
    (∃ l, D.drop σ.pos = 38 :: l) ∧ refM ⟨D.toArray⟩ σ at_ = .ok ([c], σ.to (σ.pos + (escB c).length)) := by
  unfold escB at hc hd ⊢
  by_cases h1 : c = 38
  · subst h1
    exact ⟨⟨_, hd⟩, refM_name [97, 109, 112] r 38 at_ (by decide) (by kernel_rfl) (by kernel_rfl) (by kernel_rfl) (by decide) hd⟩
  by_cases h2 : c = 60
  · subst h2
    exact ⟨⟨_, hd⟩, refM_name [108, 116] r 60 at_ (by decide) (by kernel_rfl) (by kernel_rfl) (by kernel_rfl) (by decide) hd⟩
  by_cases h3 : c = 62
  · subst h3
    exact ⟨⟨_, hd⟩, refM_name [103, 116] r 62 at_ (by decide) (by kernel_rfl) (by kernel_rfl) (by kernel_rfl) (by decide) hd⟩
  by_cases h6 : c = 13
  · subst h6
    exact ⟨⟨_, hd⟩, refM_num [35, 49, 51] r 13 at_ (by decide) (by kernel_rfl) (by kernel_rfl) hd⟩
  exact absurd (by rw [if_neg h1, if_neg h2, if_neg h3, if_neg h6]) hc

theorem quoB_self {c : UInt8} (h : quoB c = [c]) : c ≠ 38 ∧ c ≠ 60 ∧ c ≠ 34 ∧ c ≠ 9 ∧ c ≠ 10 ∧ c ≠ 13 := by
  refine ⟨?_, ?_, ?_, ?_, ?_, ?_⟩ <;> (rintro rfl; exact absurd h (by decide))
theorem escB_self {c : UInt8} (h : escB c = [c]) : c ≠ 38 ∧ c ≠ 60 ∧ c ≠ 62 ∧ c ≠ 13 := by
  refine ⟨?_, ?_, ?_, ?_⟩ <;> (rintro rfl; exact absurd h (by decide))

theorem has_cons {a : UInt8} {l t : Bytes} {x : UInt8} (h : D.drop σ.pos = a :: l) (hx : x ≠ a) : has ⟨D.toArray⟩ σ (x :: t) = false := by
  rw [has_ev, h]
  simp [List.isPrefixOf, hx]

/-- An attribute's text is read as it was. -/
theorem valueL_quo (r : Bytes) : ∀ (s : Bytes) (n : Nat) (σ : St) (o : Bytes), D.drop σ.pos = quo s ++ 34 :: r → s.length < n →
    valueL [34] ⟨D.toArray⟩ n σ o = .ok ((o ++ s, true), σ.to (σ.pos + (quo s).length + 1))
  | [], n + 1, σ, o, hd, _ => by
    have hd : D.drop σ.pos = 34 :: r := hd
    have hlt := drop_lt hd
    show (if σ.pos < _ then _ else _) = _
    rw [if_pos (by rw [size_ev]; exact hlt), if_pos (by rw [has_ev, hd]; rfl)]
    simp [quo]
  | c :: s, n + 1, σ, o, hd, hn => by
    have hd : D.drop σ.pos = quoB c ++ (quo s ++ 34 :: r) := by rw [hd]; simp [quo]
    have hq : (quo (c :: s)).length = (quoB c).length + (quo s).length := by simp [quo]
    have hdn := drop_more hd
    simp only [List.length_cons] at hn
    by_cases hc : quoB c = [c]
    · obtain ⟨n1, n2, n3, n4, n5, n6⟩ := quoB_self hc
      rw [hc] at hd hq hdn
      have hd : D.drop σ.pos = c :: (quo s ++ 34 :: r) := hd
      have hlt := drop_lt hd
      have hh : (rest ⟨D.toArray⟩ σ).headD 0 = c := by rw [rest_ev, hd]; rfl
      have ih := valueL_quo r s n (σ.to (σ.pos + 1)) (o ++ [c]) hdn (by omega)
      show (if σ.pos < _ then _ else _) = _
      rw [if_pos (by rw [size_ev]; exact hlt), if_neg (by rw [has_cons hd (Ne.symm n3)]; simp), hh, if_neg n2, if_neg n1]
      have e : (if isBlank (c.toNat : Int) = true then valueL [34] ⟨D.toArray⟩ n (σ.to (σ.pos + 1)) (o ++ [32]) else valueL [34] ⟨D.toArray⟩ n (σ.to (σ.pos + 1)) (o ++ [c])) = valueL [34] ⟨D.toArray⟩ n (σ.to (σ.pos + 1)) (o ++ [c]) := by
        split
        · rename_i hb
          have : c = 32 := by
            have k : ∀ x : UInt8, c ≠ x → c.toNat ≠ x.toNat := fun x hx he => hx (UInt8.toNat_inj.1 he)
            have k4 := k 9 n4
            have k5 := k 10 n5
            have k6 := k 13 n6
            unfold isBlank at hb
            simp at hb
            simp at k4 k5 k6
            exact UInt8.toNat_inj.1 (by simp; omega)
          rw [this]
        · rfl
      rw [e, ih, hq]
      simp [St.to, Nat.add_assoc, Nat.add_comm 1]
    · obtain ⟨⟨l, hl⟩, hr⟩ := quoB_ref c hc _ true hd
      have hlt := drop_lt hl
      have hh : (rest ⟨D.toArray⟩ σ).headD 0 = 38 := by rw [rest_ev, hl]; rfl
      have ih := valueL_quo r s n (σ.to (σ.pos + (quoB c).length)) (o ++ [c]) hdn (by omega)
      show (if σ.pos < _ then _ else _) = _
      rw [if_pos (by rw [size_ev]; exact hlt), if_neg (by rw [has_cons hl (by decide)]; simp), hh, if_neg (by decide), if_pos rfl, hr]
      show valueL _ _ n _ _ = _
      rw [ih, hq]
      simp [St.to, Nat.add_assoc]
  | _, 0, _, _, _, hn => absurd hn (Nat.not_lt_zero _)

abbrev closeA : Bytes := [60, 47, 97, 62]

theorem no_end (c : UInt8) (s : Bytes) : [93, 93, 62].isPrefixOf (c :: (esc s ++ closeA)) = false := by
  cases s with
  | nil => simp [esc, List.isPrefixOf]
  | cons c2 s2 =>
    by_cases h2 : escB c2 = [c2]
    · have e2 : esc (c2 :: s2) = c2 :: esc s2 := by simp [esc, h2]
      rw [e2]
      cases s2 with
      | nil => simp [esc, List.isPrefixOf]
      | cons c3 s3 =>
        by_cases h3 : escB c3 = [c3]
        · have e3 : esc (c3 :: s3) = c3 :: esc s3 := by simp [esc, h3]
          rw [e3]
          have := (escB_self h3).2.2.1
          simp [List.isPrefixOf, Ne.symm this]
        · obtain ⟨l, hl⟩ : ∃ l, escB c3 = 38 :: l := by
            unfold escB at h3 ⊢
            repeat' split
            all_goals first | exact ⟨_, rfl⟩ | (exfalso; simp_all)
          have e3 : esc (c3 :: s3) = 38 :: (l ++ esc s3) := by simp [esc, hl]
          rw [e3]
          simp [List.isPrefixOf]
    · obtain ⟨l, hl⟩ : ∃ l, escB c2 = 38 :: l := by
        unfold escB at h2 ⊢
        repeat' split
        all_goals first | exact ⟨_, rfl⟩ | (exfalso; simp_all)
      have e2 : esc (c2 :: s2) = 38 :: (l ++ esc s2) := by simp [esc, hl]
      rw [e2]
      simp [List.isPrefixOf]

/-- One letter of a text. -/
theorem content_esc (c : UInt8) (s : Bytes) (hd : D.drop σ.pos = escB c ++ (esc s ++ closeA)) (ht : σ.toks.length < 4096) :
    ∃ b, content ⟨D.toArray⟩ σ = .ok ((), { σ with pos := σ.pos + (escB c).length, text := σ.text ++ [c], beg := b }) := by
  have hput : ∀ p : Nat, ∃ b, put σ [c] p = .ok ((), { σ with text := σ.text ++ [c], beg := b }) := fun p => by
    unfold put
    by_cases h : σ.text = []
    · rw [if_pos h, if_pos (.inr ht)]; exact ⟨p, by simp [h]⟩
    · rw [if_neg h]; exact ⟨σ.beg, rfl⟩
  by_cases hc : escB c = [c]
  · obtain ⟨n1, n2, n3, n4⟩ := escB_self hc
    rw [hc] at hd ⊢
    have hd : D.drop σ.pos = c :: (esc s ++ closeA) := hd
    obtain ⟨b, hb⟩ := hput σ.pos
    have hh : (rest ⟨D.toArray⟩ σ).headD 0 = c := by rw [rest_ev, hd]; rfl
    have h3 : has ⟨D.toArray⟩ σ [93, 93, 62] = false := by rw [has_ev, hd]; exact no_end c s
    refine ⟨b, ?_⟩
    unfold content eat
    simp only [has_cons hd (Ne.symm n2), has_cons hd (Ne.symm n1), h3, Bool.false_eq_true, if_false, hh, hb]
    rfl
  · obtain ⟨⟨l, hl⟩, hr⟩ := escB_ref c hc _ false hd
    have h38 : has ⟨D.toArray⟩ σ [38] = true := by rw [has_ev, hl]; rfl
    have hput' : ∃ b, put (σ.to (σ.pos + (escB c).length)) [c] σ.pos = .ok ((), { σ with pos := σ.pos + (escB c).length, text := σ.text ++ [c], beg := b }) := by
      unfold put
      by_cases h : σ.text = []
      · have h' : (σ.to (σ.pos + (escB c).length)).text = [] := h
        rw [if_pos h', if_pos (.inr ht)]; exact ⟨σ.pos, by simp [h, St.to]⟩
      · have h' : ¬ (σ.to (σ.pos + (escB c).length)).text = [] := h
        rw [if_neg h']; exact ⟨σ.beg, rfl⟩
    obtain ⟨b, hb⟩ := hput'
    refine ⟨b, ?_⟩
    unfold content eat
    simp only [has_cons hl (show (60 : UInt8) ≠ 38 by decide), h38, Bool.false_eq_true, if_false, if_true, hr, hb]

theorem parts_esc (t : Bool) : ∀ (s : Bytes) (n : Nat) (σ : St), D.drop σ.pos = esc s ++ closeA → σ.toks.length < 4096 → 0 < σ.opn.length →
    ∃ b, parts ⟨D.toArray⟩ (n + s.length) σ t = parts ⟨D.toArray⟩ n { σ with pos := σ.pos + (esc s).length, text := σ.text ++ s, beg := b } t
  | [], n, σ, _, _, _ => ⟨σ.beg, by simp [esc]⟩
  | c :: s, n, σ, hd, ht, ho => by
    have hd : D.drop σ.pos = escB c ++ (esc s ++ closeA) := by rw [hd]; simp [esc]
    have hq : (esc (c :: s)).length = (escB c).length + (esc s).length := by simp [esc]
    have hlt : σ.pos < D.length := by
      by_cases hc : escB c = [c]
      · rw [hc] at hd; exact drop_lt (l := esc s ++ closeA) hd
      · exact drop_lt (escB_ref c hc _ false hd).1.choose_spec
    obtain ⟨b, hb⟩ := content_esc c s hd ht
    obtain ⟨b', ih⟩ := parts_esc t s n { σ with pos := σ.pos + (escB c).length, text := σ.text ++ [c], beg := b } (drop_more hd) ht ho
    refine ⟨b', ?_⟩
    rw [List.length_cons, ← Nat.add_assoc, parts_in (by rw [size_ev]; exact hlt) ho hb, ih, hq]
    simp [Nat.add_assoc]
end
end Go.Proofs.YtahfcgjlcdbnjaaGreatDoor

