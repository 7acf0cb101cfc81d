/- UTF-8 and names: what a valid text decodes to does not hang on what follows it. -/
import Derived.Test.YtahfcgjlcdbnjaaGreatDoorMTxt
import Derived.Lib.TrimUEq
import Derived.Lib.ValidLaws
import Derived.Lib.MapLaws
import Derived.Lib.TrimAscii
import Derived.Lib.CutLaws
namespace Go.Proofs.YtahfcgjlcdbnjaaGreatDoor
open Go.RowKit

theorem decodeN_ext (n n' b0 b1 b2 b3 c1 c2 c3 : Nat) (hn : n ≤ n') (e1 : 1 < n → c1 = b1) (e2 : 2 < n → c2 = b2) (e3 : 3 < n → c3 = b3)
    (hv : ¬ ((Lib.decodeN n b0 b1 b2 b3).1 = 65533 ∧ (Lib.decodeN n b0 b1 b2 b3).2 = 1)) : Lib.decodeN n' b0 c1 c2 c3 = Lib.decodeN n b0 b1 b2 b3 := by
  unfold Lib.decodeN at hv ⊢
  by_cases h0 : b0 < 128
  · simp [h0]
  · rw [if_neg h0] at hv ⊢
    rw [if_neg h0]
    by_cases h2 : b0 / 32 = 6 ∧ (1 < n ∧ b1 / 64 = 2)
    · have := e1 h2.2.1; subst this
      have k : b0 / 32 = 6 ∧ (1 < n' ∧ c1 / 64 = 2) := ⟨h2.1, by omega, h2.2.2⟩
      rw [if_pos h2, if_pos k]
    · rw [if_neg h2] at hv ⊢
      by_cases h3 : b0 / 16 = 14 ∧ (1 < n ∧ b1 / 64 = 2) ∧ (2 < n ∧ b2 / 64 = 2)
      · have := e1 h3.2.1.1; subst this
        have := e2 h3.2.2.1; subst this
        have k : b0 / 16 = 14 ∧ (1 < n' ∧ c1 / 64 = 2) ∧ (2 < n' ∧ c2 / 64 = 2) := ⟨h3.1, ⟨by omega, h3.2.1.2⟩, by omega, h3.2.2.2⟩
        rw [if_pos h3, if_neg (by omega), if_pos k]
      · rw [if_neg h3] at hv ⊢
        by_cases h4 : b0 / 8 = 30 ∧ (1 < n ∧ b1 / 64 = 2) ∧ (2 < n ∧ b2 / 64 = 2) ∧ (3 < n ∧ b3 / 64 = 2)
        · have := e1 h4.2.1.1; subst this
          have := e2 h4.2.2.1.1; subst this
          have := e3 h4.2.2.2.1; subst this
          have k : b0 / 8 = 30 ∧ (1 < n' ∧ c1 / 64 = 2) ∧ (2 < n' ∧ c2 / 64 = 2) ∧ (3 < n' ∧ c3 / 64 = 2) := ⟨h4.1, ⟨by omega, h4.2.1.2⟩, ⟨by omega, h4.2.2.1.2⟩, by omega, h4.2.2.2.2⟩
          rw [if_pos h4, if_neg (by omega), if_neg (by omega), if_pos k]
        · rw [if_neg h4] at hv
          exact absurd ⟨rfl, rfl⟩ hv

theorem dec_more (l r : Bytes) (hl : l ≠ []) (hv : ¬ ((Lib.decodeL l).1 = 65533 ∧ (Lib.decodeL l).2 = 1)) : Lib.decodeL (l ++ r) = Lib.decodeL l := by
  have hp := List.length_pos_iff.2 hl
  have hg : ∀ i, i < l.length → (l ++ r).getD i 0 = l.getD i 0 := fun i hi => by simp [List.getD, List.getElem?_append_left hi]
  rw [Lib.decodeL_N] at hv ⊢
  rw [Lib.decodeL_N l, hg 0 hp]
  exact decodeN_ext _ _ _ _ _ _ _ _ _ (by simp) (fun h => by rw [hg 1 h]) (fun h => by rw [hg 2 h]) (fun h => by rw [hg 3 h]) hv

theorem validD_append : ∀ (n : Nat) (l r : Bytes), l.length ≤ n → Lib.validD l = true → Lib.validD (l ++ r) = Lib.validD r
  | 0, l, r, h, _ => by
    have : l = [] := List.eq_nil_of_length_eq_zero (by omega)
    subst this; rfl
  | n + 1, l, r, h, hv => by
    by_cases hl : l = []
    · subst hl; rfl
    · have hw := Lib.decodeL_width l
      have hle := Lib.decodeL_le l hl
      rw [Lib.validD_step l hl] at hv
      split at hv
      · cases hv
      · rename_i hb
        rw [Lib.validD_step (l ++ r) (by simp [hl]), dec_more l r hl hb, if_neg hb, List.drop_append_of_le_length hle]
        exact validD_append n _ r (by simp; omega) hv

/-- All characters go on in names. -/
theorem word_more (c : Bool) : ∀ (n : Nat) (l r : Bytes), l.length ≤ n → Lib.validD l = true → wordN false l = l.length → wordN c (l ++ r) = l.length + wordN c r
  | 0, l, r, h, _, _ => by
    have : l = [] := List.eq_nil_of_length_eq_zero (by omega)
    subst this; simp
  | n + 1, l, r, h, hv, hw => by
    by_cases hl : l = []
    · subst hl; simp
    · have hwd := Lib.decodeL_width l
      have hle := Lib.decodeL_le l hl
      rw [Lib.validD_step l hl] at hv
      split at hv
      · cases hv
      · rename_i hb
        rw [wordN_step false l hl] at hw
        split at hw
        · rename_i hg
          have hg : goesOn (Lib.decodeL l).1 = true := by simpa using hg
          have hw' : wordN false (l.drop (Lib.decodeL l).2) = (l.drop (Lib.decodeL l).2).length := by simp; omega
          have ih := word_more c n (l.drop (Lib.decodeL l).2) r (by simp; omega) hv hw'
          rw [wordN_step c (l ++ r) (by simp [hl]), dec_more l r hl hb, if_pos (by simp [hg]), List.drop_append_of_le_length hle, ih]
          simp; omega
        · have := List.length_pos_iff.2 hl; omega

/-- A text's first part that goes on in names. -/
theorem word_part : ∀ (n : Nat) (l r : Bytes), l.length ≤ n → Lib.validD l = true → Lib.validD (l ++ r) = true → wordN false (l ++ r) = (l ++ r).length → wordN false l = l.length
  | 0, l, r, h, _, _, _ => by
    have : l = [] := List.eq_nil_of_length_eq_zero (by omega)
    subst this; rfl
  | n + 1, l, r, h, hv, hv2, hw => by
    by_cases hl : l = []
    · subst hl; rfl
    · have hwd := Lib.decodeL_width l
      have hle := Lib.decodeL_le l hl
      have hlr : l ++ r ≠ [] := by simp [hl]
      rw [Lib.validD_step l hl] at hv
      split at hv
      · cases hv
      · rename_i hb
        have hd := dec_more l r hl hb
        rw [Lib.validD_step (l ++ r) hlr, hd, if_neg hb, List.drop_append_of_le_length hle] at hv2
        rw [wordN_step false (l ++ r) hlr, hd, List.drop_append_of_le_length hle] at hw
        split at hw
        · rename_i hg
          have ih := word_part n (l.drop (Lib.decodeL l).2) r (by simp; omega) hv hv2 (by simp at hw ⊢; omega)
          rw [wordN_step false l hl, if_pos hg, ih]
          simp; omega
        · have := List.length_pos_iff.2 hlr; omega

/-- A sign that ends a name. -/
def stops (a : UInt8) : Bool := decide (a.toNat < 128) && !goesOn (a.toNat : Int) && !(a == 58)

theorem word_stop (c : Bool) (a : UInt8) (r : Bytes) (h : stops a = true) : wordN c (a :: r) = 0 := by
  unfold stops at h
  simp only [Bool.and_eq_true, decide_eq_true_eq, Bool.not_eq_true', beq_eq_false_iff_ne, ne_eq] at h
  have h58 : ¬ (a.toNat : Int) = 58 := by
    intro he
    exact h.2 (UInt8.toNat_inj.1 (by simpa using (show a.toNat = 58 by omega)))
  rw [wordN_step c _ (by simp), Lib.decodeL_ascii a r h.1.1, h.1.2]
  simp [h58]

theorem name_parts {l : Bytes} (h : isName l = true) : Lib.validD l = true ∧ l ≠ [] ∧ begins (Lib.decodeL l).1 = true ∧ wordN false l = l.length := by
  unfold isName at h
  simp only [Bool.and_eq_true, decide_eq_true_eq, Bool.not_eq_true', List.isEmpty_eq_false_iff] at h
  exact ⟨h.1.1.1, h.1.1.2, h.1.2, h.2⟩

theorem name_word {l : Bytes} (h : isName l = true) (c : Bool) (a : UInt8) (r : Bytes) (ha : stops a = true) : wordN c (l ++ a :: r) = l.length := by
  obtain ⟨h1, _, _, h4⟩ := name_parts h
  rw [word_more c _ l _ (Nat.le_refl _) h1 h4, word_stop c a r ha]; rfl

/-- How a name's first byte may be. -/
def headOk (a : UInt8) : Bool := decide (128 ≤ a.toNat) || begins (a.toNat : Int)

theorem name_head {l : Bytes} (h : isName l = true) : ∃ a t, l = a :: t ∧ headOk a = true := by
  obtain ⟨_, h2, h3, _⟩ := name_parts h
  cases l with
  | nil => exact absurd rfl h2
  | cons a t =>
    refine ⟨a, t, rfl, ?_⟩
    unfold headOk
    by_cases h8 : a.toNat < 128
    · rw [Lib.decodeL_ascii a t h8] at h3
      simp [h3]
    · simp; left; omega

theorem index_split {l t : Bytes} (h : 0 ≤ Lib.index l t) : ∃ i : Nat, Lib.index l t = i ∧ i ≤ l.length ∧ Lib.occAt l t i = true := by
  induction l with
  | nil =>
    refine ⟨0, ?_⟩
    unfold Lib.index at h ⊢
    by_cases ht : t = []
    · subst ht; simp [Lib.occAt]
    · split at h <;> rename_i hh <;> simp_all
  | cons c l ih =>
    by_cases hp : t.isPrefixOf (c :: l) = true
    · refine ⟨0, ?_, by simp, by simpa [Lib.occAt] using hp⟩
      unfold Lib.index; rw [if_pos hp]; rfl
    · have he : Lib.index (c :: l) t = if (Lib.index l t == -1) = true then -1 else Lib.index l t + 1 := by
        conv => lhs; unfold Lib.index
        rw [if_neg hp]
      rw [he] at h ⊢
      split at h
      · omega
      · rename_i hne
        have hge := Lib.index_ge l t
        have hne' : ¬ Lib.index l t = -1 := by simpa using hne
        obtain ⟨i, h1, h2, h3⟩ := ih (by omega)
        refine ⟨i + 1, ?_, by simp; omega, by simpa [Lib.occAt] using h3⟩
        rw [if_neg hne, h1]; rfl

theorem cut_join {l t : Bytes} (h : (Lib.cut l t).2.2 = true) : l = (Lib.cut l t).1 ++ (t ++ (Lib.cut l t).2.1) := by
  unfold Lib.cut at h ⊢
  split
  · rename_i hi
    obtain ⟨i, h1, h2, h3⟩ := index_split hi
    rw [h1]
    simp only [Int.toNat_natCast]
    unfold Lib.occAt at h3
    rw [List.isPrefixOf_iff_prefix] at h3
    obtain ⟨u, hu⟩ := h3
    have : l.drop (i + t.length) = u := by rw [← List.drop_drop, ← hu, List.drop_left]
    rw [this, hu, List.take_append_drop]
  · rename_i hi
    rw [if_neg hi] at h; cases h

theorem split_parts {l : Bytes} (h : (split l).isSome = true) : isName l = true ∨ ∃ a b, l = a ++ 58 :: b ∧ isName a = true ∧ isName b = true := by
  unfold split at h
  by_cases hc : (Lib.cut l [58]).2.2 = true
  · have hj := cut_join hc
    simp only [hc, if_true] at h
    split at h
    · rename_i hn
      simp only [Bool.and_eq_true] at hn
      exact .inr ⟨_, _, hj, hn.2, hn.1⟩
    · cases h
  · simp only [hc, if_false, Bool.false_eq_true] at h
    split at h
    · rename_i hn; exact .inl hn
    · cases h

theorem wordN_colon (r : Bytes) : wordN true (58 :: r) = 1 + wordN true r := by
  rw [wordN_step true _ (by simp), Lib.decodeL_ascii 58 r (by decide)]
  simp

theorem qname_word {l : Bytes} (h : (split l).isSome = true) (r : Bytes) : wordN true (l ++ r) = l.length + wordN true r := by
  rcases split_parts h with h | ⟨a, b, rfl, ha, hb⟩
  · obtain ⟨h1, _, _, h4⟩ := name_parts h
    exact word_more true _ l _ (Nat.le_refl _) h1 h4
  · obtain ⟨a1, _, _, a4⟩ := name_parts ha
    obtain ⟨b1, _, _, b4⟩ := name_parts hb
    rw [List.append_assoc, word_more true _ a _ (Nat.le_refl _) a1 a4, List.cons_append, wordN_colon, word_more true _ b _ (Nat.le_refl _) b1 b4]
    simp; omega

theorem qname_head {l : Bytes} (h : (split l).isSome = true) : ∃ a t, l = a :: t ∧ headOk a = true := by
  rcases split_parts h with h | ⟨a, b, rfl, ha, hb⟩
  · exact name_head h
  · obtain ⟨x, t, rfl, hx⟩ := name_head ha
    exact ⟨x, t ++ 58 :: b, rfl, hx⟩

theorem qname_valid {l : Bytes} (h : (split l).isSome = true) : Lib.validD l = true := by
  rcases split_parts h with h | ⟨a, b, rfl, ha, hb⟩
  · exact (name_parts h).1
  · rw [validD_append _ a _ (Nat.le_refl _) (name_parts ha).1, Lib.validD_cons 58 b (by decide)]
    exact (name_parts hb).1

/-- The beginning of a QName. -/
theorem qname_part {l r : Bytes} (h : (split (l ++ r)).isSome = true) (hv : Lib.validD l = true) : wordN true l = l.length := by
  have key : ∀ {a l r : Bytes}, isName (l ++ r) = true → Lib.validD l = true → wordN true l = l.length := fun {a l r} hn hv => by
    obtain ⟨h1, _, _, h4⟩ := name_parts hn
    have := word_more true _ l [] (Nat.le_refl _) hv (word_part _ l r (Nat.le_refl _) hv h1 h4)
    simpa [wordN_nil] using this
  rcases split_parts h with h | ⟨a, b, he, ha, hb⟩
  · exact key (a := l) h hv
  · rw [List.append_eq_append_iff] at he
    rcases he with ⟨u, rfl, hu⟩ | ⟨u, rfl, hu⟩
    · exact key (a := l) ha hv
    · obtain ⟨a1, _, _, a4⟩ := name_parts ha
      rw [word_more true _ a _ (Nat.le_refl _) a1 a4]
      cases u with
      | nil => simp [wordN_nil]
      | cons x u =>
        simp only [List.cons_append, List.cons.injEq] at hu
        obtain ⟨rfl, rfl⟩ := hu
        rw [validD_append _ a _ (Nat.le_refl _) a1, Lib.validD_cons 58 u (by decide)] at hv
        rw [wordN_colon, key (a := u) hb hv]
        simp; omega

theorem headOk_ne {a b : UInt8} (h : headOk a = true) (hb : headOk b = false) : a ≠ b := by
  rintro rfl; rw [h] at hb; cases hb
end Go.Proofs.YtahfcgjlcdbnjaaGreatDoor

