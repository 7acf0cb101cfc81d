/- What is written is a text of characters; it is scanned as it was. -/
import Derived.Test.YtalmkfikfmpmoaaGreatDoorWr2
namespace Go.Proofs.YtalmkfikfmpmoaaGreatDoor
open Go.RowKit

theorem decodeN_fit (n n' b0 b1 b2 b3 c1 c2 c3 : Nat) (hv : ¬ ((Lib.decodeN n b0 b1 b2 b3).1 = 65533 ∧ (Lib.decodeN n b0 b1 b2 b3).2 = 1)) (hn : (Lib.decodeN n b0 b1 b2 b3).2 ≤ n')
    (e1 : 1 < (Lib.decodeN n b0 b1 b2 b3).2 → c1 = b1) (e2 : 2 < (Lib.decodeN n b0 b1 b2 b3).2 → c2 = b2) (e3 : 3 < (Lib.decodeN n b0 b1 b2 b3).2 → c3 = b3) :
    Lib.decodeN n' b0 c1 c2 c3 = Lib.decodeN n b0 b1 b2 b3 ∧ (1 < (Lib.decodeN n b0 b1 b2 b3).2 → 128 ≤ b0 ∧ 128 ≤ b1) ∧ (2 < (Lib.decodeN n b0 b1 b2 b3).2 → 128 ≤ b2) ∧ (3 < (Lib.decodeN n b0 b1 b2 b3).2 → 128 ≤ b3) ∧ (Lib.decodeN n b0 b1 b2 b3).2 ≤ 4 := by
  unfold Lib.decodeN at *
  by_cases h0 : b0 < 128
  · rw [if_pos h0] at hv hn e1 e2 e3 ⊢
    rw [if_pos h0]
    refine ⟨rfl, ?_, ?_, ?_, ?_⟩ <;> simp
  · rw [if_neg h0] at hv hn e1 e2 e3 ⊢
    rw [if_neg h0]
    by_cases h2 : b0 / 32 = 6 ∧ (1 < n ∧ b1 / 64 = 2)
    · rw [if_pos h2] at hv hn e1 e2 e3 ⊢
      split at hv
      · rename_i hg
        rw [if_pos hg] at hn e1 e2 e3 ⊢
        have := e1 (by simp); subst this
        rw [if_pos ⟨h2.1, by simp only at hn; omega, h2.2.2⟩, if_pos hg]
        refine ⟨rfl, fun _ => by omega, ?_, ?_, ?_⟩ <;> simp
      · exact absurd ⟨rfl, rfl⟩ hv
    · rw [if_neg h2] at hv hn e1 e2 e3 ⊢
      by_cases h3 : b0 / 16 = 14 ∧ (1 < n ∧ b1 / 64 = 2) ∧ (2 < n ∧ b2 / 64 = 2)
      · rw [if_pos h3] at hv hn e1 e2 e3 ⊢
        split at hv
        · rename_i hg
          rw [if_pos hg] at hn e1 e2 e3 ⊢
          have := e1 (by simp); subst this
          have := e2 (by simp); subst this
          rw [if_neg (by omega), if_pos ⟨h3.1, ⟨by simp only at hn; omega, h3.2.1.2⟩, by simp only at hn; omega, h3.2.2.2⟩, if_pos hg]
          refine ⟨rfl, fun _ => by omega, fun _ => by omega, ?_, ?_⟩ <;> simp
        · exact absurd ⟨rfl, rfl⟩ hv
      · rw [if_neg h3] at hv hn e1 e2 e3 ⊢
        by_cases h4 : b0 / 8 = 30 ∧ (1 < n ∧ b1 / 64 = 2) ∧ (2 < n ∧ b2 / 64 = 2) ∧ (3 < n ∧ b3 / 64 = 2)
        · rw [if_pos h4] at hv hn e1 e2 e3 ⊢
          split at hv
          · rename_i hg
            rw [if_pos hg] at hn e1 e2 e3 ⊢
            have := e1 (by simp); subst this
            have := e2 (by simp); subst this
            have := e3 (by simp); subst this
            rw [if_neg (by omega), if_neg (by omega), if_pos ⟨h4.1, ⟨by simp only at hn; omega, h4.2.1.2⟩, ⟨by simp only at hn; omega, h4.2.2.1.2⟩, by simp only at hn; omega, h4.2.2.2.2⟩, if_pos hg]
            exact ⟨rfl, fun _ => by omega, fun _ => by omega, fun _ => by omega, by simp⟩
          · exact absurd ⟨rfl, rfl⟩ hv
        · rw [if_neg h4] at hv
          exact absurd ⟨rfl, rfl⟩ hv

theorem decodeN_one {n b0 b1 b2 b3 : Nat} (h0 : ¬ b0 < 128) : (Lib.decodeN n b0 b1 b2 b3).2 = 1 → (Lib.decodeN n b0 b1 b2 b3).1 = 65533 := by
  unfold Lib.decodeN
  rw [if_neg h0]
  repeat' split
  all_goals simp

def badR (l : Bytes) : Bool := !isChar (Lib.decodeL l).1 || ((Lib.decodeL l).1 == 65533 && (Lib.decodeL l).2 == 1)

theorem badR_ok {l : Bytes} (h : badR l = false) : isChar (Lib.decodeL l).1 = true ∧ ¬ ((Lib.decodeL l).1 = 65533 ∧ (Lib.decodeL l).2 = 1) := by
  unfold badR at h
  simp at h
  exact ⟨h.1, fun hh => h.2 hh.1 hh.2⟩

theorem badAt_none : ∀ (n m : Nat) (l : Bytes) (p q : Nat), l.length ≤ n → l.length ≤ m → (badAt n l p).isNone = (badAt m l q).isNone
  | 0, m, l, p, q, h, _ => by
    have : l = [] := List.eq_nil_of_length_eq_zero (by omega)
    subst this
    cases m <;> simp [badAt]
  | n + 1, 0, l, p, q, _, h => by
    have : l = [] := List.eq_nil_of_length_eq_zero (by omega)
    subst this
    simp [badAt]
  | n + 1, m + 1, l, p, q, h1, h2 => by
    by_cases hl : l = []
    · subst hl; simp [badAt]
    · have hw := Lib.decodeL_width l
      have ih := badAt_none n m (l.drop (Lib.decodeL l).2) (p + (Lib.decodeL l).2) (q + (Lib.decodeL l).2) (by simp; omega) (by simp; omega)
      unfold badAt
      rw [if_neg hl, if_neg hl]
      split
      · rfl
      · exact ih

theorem isText_nil : isText [] = true := rfl
theorem isText_step {l : Bytes} (hl : l ≠ []) : isText l = if badR l then false else isText (l.drop (Lib.decodeL l).2) := by
  have hp : l.length = (l.length - 1) + 1 := by have := List.length_pos_iff.2 hl; omega
  have hw := Lib.decodeL_width l
  conv => lhs; unfold isText; rw [hp]; unfold badAt
  rw [if_neg hl]
  unfold badR
  split
  · rfl
  · exact badAt_none _ _ _ _ _ (by simp; omega) (Nat.le_refl _)

theorem isText_append : ∀ (n : Nat) (a b : Bytes), a.length ≤ n → isText a = true → isText (a ++ b) = isText b
  | 0, a, b, h, _ => by
    have : a = [] := List.eq_nil_of_length_eq_zero (by omega)
    subst this; rfl
  | n + 1, a, b, h, hv => by
    by_cases ha : a = []
    · subst ha; rfl
    · have hw := Lib.decodeL_width a
      have hle := Lib.decodeL_le a ha
      rw [isText_step ha] at hv
      split at hv
      · cases hv
      · rename_i hb
        have hb : badR a = false := by simpa using hb
        have hd := dec_more a b ha (badR_ok hb).2
        have hb' : badR (a ++ b) = false := by unfold badR at hb ⊢; rw [hd]; exact hb
        rw [isText_step (l := a ++ b) (by simp [ha]), hb', hd, List.drop_append_of_le_length hle]
        exact isText_append n _ b (by simp; omega) hv

theorem isText_app {a b : Bytes} (ha : isText a = true) (hb : isText b = true) : isText (a ++ b) = true := by
  rw [isText_append _ a b (Nat.le_refl _) ha]; exact hb

theorem isText_cons {c : UInt8} {l : Bytes} (hc : c.toNat < 128) (hi : isChar (c.toNat : Int) = true) : isText (c :: l) = isText l := by
  have hb : badR (c :: l) = false := by
    unfold badR
    rw [Lib.decodeL_ascii c l hc, hi]
    simp
    omega
  rw [isText_step (by simp), hb, Lib.decodeL_ascii c l hc]
  rfl

theorem goesOn_char {r : Int} (h : goesOn r = true) (h0 : 0 ≤ r) : isChar r = true := by
  unfold goesOn at h
  simp only [Bool.or_eq_true, beq_iff_eq, decide_eq_true_eq] at h
  have hb : begins r = true → isChar r = true := fun h => by
    unfold begins at h
    unfold isChar within chars
    split at h
    · simp at h ⊢; omega
    · unfold within beginsHigh at h; simp at h ⊢; omega
  rcases h with ((((h | h) | h) | h) | h) | h
  · exact hb h
  all_goals unfold isChar within chars
  · simp; omega
  · simp; omega
  · simp; omega
  · simp; omega
  · unfold within goesHigh at h; simp at h ⊢; omega

theorem isText_word : ∀ (n : Nat) (l : Bytes), l.length ≤ n → Lib.validD l = true → wordN false l = l.length → isText l = true
  | 0, l, h, _, _ => by
    have : l = [] := List.eq_nil_of_length_eq_zero (by omega)
    subst this; rfl
  | n + 1, l, h, hv, hw => by
    by_cases hl : l = []
    · subst hl; rfl
    · have hwd := Lib.decodeL_width l
      have hle := Lib.decodeL_le l hl
      rw [Lib.validD_step l hl] at hv
      split at hv
      · cases hv
      · rename_i hb
        rw [wordN_step false l hl] at hw
        split at hw
        · rename_i hg
          have hg : goesOn (Lib.decodeL l).1 = true := by simpa using hg
          have hb' : badR l = false := by
            unfold badR
            rw [goesOn_char hg (by omega)]
            simp
            exact fun x y => hb ⟨x, y⟩
          rw [isText_step hl, hb']
          exact isText_word n _ (by simp; omega) hv (by simp; omega)
        · have := List.length_pos_iff.2 hl; omega

theorem isText_name {l : Bytes} (h : isName l = true) : isText l = true := by
  obtain ⟨h1, _, _, h4⟩ := name_parts h
  exact isText_word _ l (Nat.le_refl _) h1 h4
theorem isText_qname {l : Bytes} (h : (split l).isSome = true) : isText l = true := by
  rcases split_parts h with h | ⟨a, b, rfl, ha, hb⟩
  · exact isText_name h
  · exact isText_app (isText_name ha) (by rw [isText_cons (by decide) (by decide)]; exact isText_name hb)

/-- A text's first character: its bytes, and what follows. -/
theorem first_char {l : Bytes} (hl : l ≠ []) (hb : badR l = false) : ∃ u r, l = u ++ r ∧ u.length = (Lib.decodeL l).2 ∧ (∀ x, Lib.decodeL (u ++ x) = Lib.decodeL l) ∧ ((∃ c, u = [c] ∧ c.toNat < 128) ∨ ∀ c ∈ u, 128 ≤ c.toNat) := by
  have hv := (badR_ok hb).2
  have hle := Lib.decodeL_le l hl
  have hw := Lib.decodeL_width l
  have hlen : (l.take (Lib.decodeL l).2).length = (Lib.decodeL l).2 := by simp; omega
  have hg : ∀ x i, i < (Lib.decodeL l).2 → ((l.take (Lib.decodeL l).2) ++ x).getD i 0 = l.getD i 0 := fun x i hi => by
    simp [List.getD, List.getElem?_append_left (by rw [hlen]; exact hi : i < (l.take (Lib.decodeL l).2).length), List.getElem?_take_of_lt hi]
  have key := fun x => decodeN_fit l.length ((l.take (Lib.decodeL l).2) ++ x).length (l.getD 0 0).toNat (l.getD 1 0).toNat (l.getD 2 0).toNat (l.getD 3 0).toNat
    (((l.take (Lib.decodeL l).2) ++ x).getD 1 0).toNat (((l.take (Lib.decodeL l).2) ++ x).getD 2 0).toNat (((l.take (Lib.decodeL l).2) ++ x).getD 3 0).toNat
    (by rw [← Lib.decodeL_N]; exact hv) (by rw [← Lib.decodeL_N, List.length_append, hlen]; omega)
    (fun h => by rw [← Lib.decodeL_N] at h; rw [hg x 1 h]) (fun h => by rw [← Lib.decodeL_N] at h; rw [hg x 2 h]) (fun h => by rw [← Lib.decodeL_N] at h; rw [hg x 3 h])
  refine ⟨l.take (Lib.decodeL l).2, l.drop (Lib.decodeL l).2, (List.take_append_drop _ _).symm, hlen, fun x => ?_, ?_⟩
  · have := (key x).1
    rw [← Lib.decodeL_N] at this
    rw [Lib.decodeL_N (l.take (Lib.decodeL l).2 ++ x), hg x 0 (by omega)]
    exact this
  · obtain ⟨_, k1, k2, k3, k4⟩ := key []
    rw [← Lib.decodeL_N] at k1 k2 k3 k4
    by_cases h1 : (Lib.decodeL l).2 = 1
    · left
      cases l with
      | nil => exact absurd rfl hl
      | cons c t =>
        refine ⟨c, by rw [h1]; rfl, ?_⟩
        by_cases h8 : c.toNat < 128
        · exact h8
        · exfalso
          apply hv
          refine ⟨?_, h1⟩
          rw [Lib.decodeL_N] at h1 ⊢
          exact decodeN_one (show ¬ ((c :: t).getD 0 0).toNat < 128 from h8) h1
    · right
      intro c hc
      obtain ⟨i, hi, rfl⟩ := List.mem_iff_getElem.1 hc
      rw [hlen] at hi
      have he : (l.take (Lib.decodeL l).2)[i] = l.getD i 0 := by
        simp [List.getD, List.getElem_take, List.getElem?_eq_getElem (show i < l.length by omega)]
      rw [he]
      match i, hi with
      | 0, _ => exact (k1 (by omega)).1
      | 1, hi => exact (k1 hi).2
      | 2, hi => exact k2 hi
      | 3, hi => exact k3 hi
      | i + 4, hi => omega

theorem escB_high {c : UInt8} (h : 128 ≤ c.toNat) : escB c = [c] := by
  have k : ∀ x : UInt8, x.toNat < 128 → c ≠ x := fun x hx he => by subst he; omega
  unfold escB
  rw [if_neg (k 38 (by decide)), if_neg (k 60 (by decide)), if_neg (k 62 (by decide)), if_neg (k 13 (by decide))]
theorem quoB_high {c : UInt8} (h : 128 ≤ c.toNat) : quoB c = [c] := by
  have k : ∀ x : UInt8, x.toNat < 128 → c ≠ x := fun x hx he => by subst he; omega
  unfold quoB
  rw [if_neg (k 38 (by decide)), if_neg (k 60 (by decide)), if_neg (k 34 (by decide)), if_neg (k 9 (by decide)), if_neg (k 10 (by decide)), if_neg (k 13 (by decide))]

theorem flat_high {f : UInt8 → Bytes} (hf : ∀ c : UInt8, 128 ≤ c.toNat → f c = [c]) : ∀ u : Bytes, (∀ c ∈ u, 128 ≤ c.toNat) → u.flatMap f = u
  | [], _ => rfl
  | c :: u, h => by
    rw [List.flatMap_cons, hf c (h c (by simp)), flat_high hf u fun x hx => h x (by simp [hx])]
    rfl

/-- A text whose letters below 128 are written otherwise. -/
theorem isText_flat {f : UInt8 → Bytes} (hf : ∀ c : UInt8, 128 ≤ c.toNat → f c = [c]) (hl : ∀ c : UInt8, c.toNat < 128 → isChar (c.toNat : Int) = true → isText (f c) = true) :
    ∀ (n : Nat) (l : Bytes), l.length ≤ n → isText l = true → isText (l.flatMap f) = true
  | 0, l, h, _ => by
    have : l = [] := List.eq_nil_of_length_eq_zero (by omega)
    subst this; rfl
  | n + 1, l, h, hv => by
    by_cases hne : l = []
    · subst hne; rfl
    · rw [isText_step hne] at hv
      split at hv
      · cases hv
      · rename_i hb
        have hb : badR l = false := by simpa using hb
        obtain ⟨u, r, he, hu, hd, hcase⟩ := first_char hne hb
        have hw := Lib.decodeL_width l
        have hr : l.drop (Lib.decodeL l).2 = r := by rw [← hu, he, List.drop_left]
        rw [hr] at hv
        have hln : l.length = u.length + r.length := by rw [he]; simp
        have ih := isText_flat hf hl n r (by omega) hv
        have hch := (badR_ok hb).1
        rw [he, List.flatMap_append]
        rcases hcase with ⟨c, rfl, h8⟩ | hi
        · refine isText_app ?_ ih
          rw [List.flatMap_cons, List.flatMap_nil, List.append_nil]
          refine hl c h8 ?_
          rw [← hd [], List.append_nil, Lib.decodeL_ascii c [] h8] at hch
          exact hch
        · rw [flat_high hf u hi]
          have hune : u ≠ [] := by rintro rfl; simp at hu; omega
          have hdu := hd []
          rw [List.append_nil] at hdu
          have hbu : badR u = false := by unfold badR at hb ⊢; rw [hdu]; exact hb
          refine isText_app ?_ ih
          rw [isText_step hune, hbu, hdu, ← hu]
          simp [isText_nil]

theorem isText_esc {l : Bytes} (h : isText l = true) : isText (esc l) = true :=
  isText_flat (fun _ => escB_high) (fun c h1 h2 => by
    unfold escB
    repeat' split
    all_goals first | decide | (rw [isText_cons h1 h2]; rfl)) _ l (Nat.le_refl _) h
theorem isText_quo {l : Bytes} (h : isText l = true) : isText (quo l) = true :=
  isText_flat (fun _ => quoB_high) (fun c h1 h2 => by
    unfold quoB
    repeat' split
    all_goals first | decide | (rw [isText_cons h1 h2]; rfl)) _ l (Nat.le_refl _) h

theorem isText_attrs : ∀ (seen : List Bytes) (az : List (Bytes × Bytes)), attrsOk isText seen az = true → isText (az.flatMap attrB) = true
  | _, [], _ => rfl
  | seen, a :: az, h => by
    simp only [attrsOk, Bool.and_eq_true] at h
    obtain ⟨⟨⟨h1, h2⟩, _⟩, h4⟩ := h
    rw [List.flatMap_cons]
    refine isText_app ?_ (isText_attrs _ az h4)
    unfold attrB
    rw [isText_cons (by decide) (by decide)]
    refine isText_app (isText_qname h1) ?_
    rw [isText_cons (by decide) (by decide), isText_cons (by decide) (by decide)]
    exact isText_app (isText_quo h2) (by decide)

theorem isText_wr {t : Tok} (h : right isText t = true) : isText (wr t) = true := by
  have ht : isText t.text = true := by unfold right at h; simp only [Bool.and_eq_true] at h; exact h.1.1
  unfold wr
  rcases kinds h with k | k | k | k | k
  · rw [if_pos k, isText_cons (by decide) (by decide)]
    obtain ⟨h1, h2, _⟩ := right_el h k
    exact isText_app (isText_qname h1) (isText_app (isText_attrs _ _ h2) (by decide))
  · rw [if_neg (by omega), if_pos k, isText_cons (by decide) (by decide), isText_cons (by decide) (by decide)]
    exact isText_app (isText_qname (right_end h k).1) (by decide)
  · rw [if_neg (by omega), if_neg (by omega), if_pos k]
    exact isText_esc ht
  · rw [if_neg (by omega), if_neg (by omega), if_neg (by omega), if_pos k, isText_cons (by decide) (by decide), isText_cons (by decide) (by decide), isText_cons (by decide) (by decide), isText_cons (by decide) (by decide)]
    exact isText_app ht (by decide)
  · rw [if_neg (by omega), if_neg (by omega), if_neg (by omega), if_neg (by omega), isText_cons (by decide) (by decide), isText_cons (by decide) (by decide)]
    refine isText_app (isText_name (right_pi h k).1) (isText_app ?_ (by decide))
    unfold piB
    split
    · rfl
    · rw [isText_cons (by decide) (by decide)]; exact ht

theorem okL_right : ∀ (l : List Tok) {opn : List Bytes} {e pt : Bool}, okL isText opn e pt l = true → ∀ t ∈ l, right isText t = true
  | [], _, _, _, _, t, ht => by cases ht
  | x :: l, opn, e, pt, h, t, ht => by
    unfold okL at h
    simp only [Bool.and_eq_true] at h
    obtain ⟨hr, h⟩ := h
    rcases List.mem_cons.1 ht with rfl | ht
    · exact hr
    · split at h
      · simp only [Bool.and_eq_true] at h; exact okL_right l h.2 t ht
      · split at h
        · simp only [Bool.and_eq_true] at h; exact okL_right l h.2 t ht
        · split at h
          · simp only [Bool.and_eq_true] at h; exact okL_right l h.2 t ht
          · exact okL_right l h t ht

theorem isText_write : ∀ l : List Tok, (∀ t ∈ l, right isText t = true) → isText (write l) = true
  | [], _ => rfl
  | t :: l, h => by
    show isText (wr t ++ write l) = true
    exact isText_app (isText_wr (h t (by simp))) (isText_write l fun x hx => h x (by simp [hx]))

/-- What is written has no declaration at its begin. -/
theorem no_decl {tx : Bytes → Bool} {l : List Tok} {D Q : Bytes} (h : okL tx [] false false l = true) (hD : write l = D ++ Q) :
    (has ⟨D.toArray⟩ St.start xmldB && decide (6 ≤ (⟨D.toArray⟩ : ByteArray).size) && isBlank ((D.getD 5 0).toNat : Int)) = false := by
  cases hx : (has ⟨D.toArray⟩ St.start xmldB && decide (6 ≤ (⟨D.toArray⟩ : ByteArray).size) && isBlank ((D.getD 5 0).toNat : Int)) with
  | false => rfl
  | true =>
    exfalso
    simp only [Bool.and_eq_true, decide_eq_true_eq] at hx
    obtain ⟨⟨h1, h2⟩, h3⟩ := hx
    rw [has_ev] at h1
    obtain ⟨u, hu⟩ := List.isPrefixOf_iff_prefix.1 h1
    have hu : D = 60 :: 63 :: 120 :: 109 :: 108 :: u := hu.symm
    rw [size_ev, hu] at h2
    cases u with
    | nil => simp at h2
    | cons x u =>
      have h3 : isBlank (x.toNat : Int) = true := by rw [hu] at h3; exact h3
      have hs : stops x = true := by
        unfold isBlank at h3
        simp at h3
        have : x = 32 ∨ x = 9 ∨ x = 10 ∨ x = 13 := by
          rcases h3 with ((h3 | h3) | h3) | h3
          · exact .inl (UInt8.toNat_inj.1 (by simp; omega))
          · exact .inr (.inl (UInt8.toNat_inj.1 (by simp; omega)))
          · exact .inr (.inr (.inl (UInt8.toNat_inj.1 (by simp; omega))))
          · exact .inr (.inr (.inr (UInt8.toNat_inj.1 (by simp; omega))))
        rcases this with rfl | rfl | rfl | rfl <;> decide
      cases l with
      | nil => rw [hu] at hD; simp [write] at hD
      | cons t l =>
        rw [hu] at hD
        have hD : wr t ++ write l = 60 :: 63 :: 120 :: 109 :: 108 :: x :: (u ++ Q) := hD
        unfold okL at h
        simp only [Bool.and_eq_true] at h
        obtain ⟨hr, h⟩ := h
        rcases kinds hr with k | k | k | k | k
        · obtain ⟨a, q, hq, hh⟩ := qname_head (right_el hr k).1
          unfold wr at hD
          rw [if_pos k, hq] at hD
          simp at hD
          exact absurd hD.1 (headOk_ne hh (by decide))
        · unfold wr at hD
          rw [if_neg (by omega), if_pos k] at hD
          simp at hD
        · rw [if_neg (by omega), if_neg (by omega), if_pos k] at h
          simp at h
        · unfold wr at hD
          rw [if_neg (by omega), if_neg (by omega), if_neg (by omega), if_pos k] at hD
          simp at hD
        · obtain ⟨hn, _, hxm, _, _⟩ := right_pi hr k
          unfold wr at hD
          rw [if_neg (by omega), if_neg (by omega), if_neg (by omega), if_neg (by omega)] at hD
          simp only [List.cons_append, List.cons.injEq, true_and, List.append_assoc] at hD
          obtain ⟨a, r', hr', hs'⟩ : ∃ a r', piB t.text ++ ([63, 62] ++ write l) = a :: r' ∧ stops a = true := by
            unfold piB
            split
            · exact ⟨63, _, rfl, stop_63⟩
            · exact ⟨32, _, rfl, stop_32⟩
          have hw : wordN false (t.name ++ (piB t.text ++ ([63, 62] ++ write l))) = t.name.length := by rw [hr']; exact name_word hn false a r' hs'
          have hw3 : wordN false (120 :: 109 :: 108 :: x :: (u ++ Q)) = 3 := by
            rw [wordN_cons _ _ _ (by decide), if_pos (by decide), wordN_cons _ _ _ (by decide), if_pos (by decide), wordN_cons _ _ _ (by decide), if_pos (by decide), word_stop false x _ hs]
          have hD2 : t.name ++ (piB t.text ++ ([63, 62] ++ write l)) = 120 :: 109 :: 108 :: x :: (u ++ Q) := by simpa using hD
          rw [hD2, hw3] at hw
          have hnm : t.name = [120, 109, 108] := by
            have := congrArg (List.take 3) hD2
            rw [hw, List.take_left, ← hw] at this
            exact this
          rw [hnm] at hxm
          exact absurd hxm (by decide)

theorem whole_write {tx : Bytes → Bool} {l : List Tok} (h : okL tx [] false false l = true) (hd : deepOk 0 l = true) (hl : l.length ≤ 4096) : ∃ σ', whole ⟨(write l).toArray⟩ St.start = .ok ((), σ') ∧ σ'.toks = l := by
  obtain ⟨σ', e1, e2, e3, e4⟩ := parts_write (D := write l) false l ((write l).length + 1) St.start h hd rfl (by simpa [fl, St.start] using hl) (fun _ => rfl) (by simp [St.start])
  refine ⟨σ', ?_, by rw [e4]; rfl⟩
  unfold whole
  rw [show ((has ⟨(write l).toArray⟩ St.start xmldB && decide (6 ≤ (⟨(write l).toArray⟩ : ByteArray).size) && isBlank (((write l).getD 5 0).toNat : Int)) = false) from no_decl (Q := []) h (by simp)]
  simp only [Bool.false_eq_true, if_false]
  rw [size_ev, e1]
  simp [e2, e3]

/-- What is written is scanned as it was. -/
theorem scan_write {l : List Tok} (h : okL isText [] false false l = true) (hd : deepOk 0 l = true) (hl : l.length ≤ 4096) (hs : (write l).length ≤ 32768) : scan (write l) = .ok l := by
  obtain ⟨σ', e1, e2⟩ := whole_write h hd hl
  have ht := isText_write l (okL_right l h)
  unfold scan
  rw [if_neg (by omega)]
  unfold isText at ht
  rw [Option.isNone_iff_eq_none] at ht
  rw [ht]
  simp only
  rw [e1]
  simp only
  rw [e2]
end Go.Proofs.YtalmkfikfmpmoaaGreatDoor
