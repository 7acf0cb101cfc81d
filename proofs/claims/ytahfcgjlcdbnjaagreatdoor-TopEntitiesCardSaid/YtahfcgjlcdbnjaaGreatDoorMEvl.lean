/- What XmlscanEntities asks of Scan. -/
import Derived.Test.YtahfcgjlcdbnjaaGreatDoorMRdd
namespace Go.Proofs.YtahfcgjlcdbnjaaGreatDoor
open Go.RowKit

/-- A letter that the law lets in. -/
def fine (c : UInt8) : Bool := decide (32 ≤ c.toNat) && decide (c.toNat ≤ 126) && !(c == 60) && !(c == 38) && !(c == 37) && !(c == 34) && !(c == 39)

def eName (b : Bool) : Bytes := if b then [108, 116, 45, 101] else [101]
def docA (n s : Bytes) : Bytes := [60, 33, 68, 79, 67, 84, 89, 80, 69, 32, 97, 32, 91, 60, 33, 69, 78, 84, 73, 84, 89, 32] ++ n ++ [32, 34] ++ s ++ [34, 62, 93, 62, 60, 97, 32, 98, 61, 39, 38] ++ n ++ [59, 39, 62, 120, 38] ++ n ++ [59, 121, 38] ++ n ++ [59, 60, 47, 97, 62]
def docB (n s : Bytes) : Bytes := [60, 33, 68, 79, 67, 84, 89, 80, 69, 32, 97, 32, 91, 60, 33, 69, 78, 84, 73, 84, 89, 32] ++ n ++ [32, 34] ++ s ++ [38] ++ n ++ [59, 34, 62, 93, 62, 60, 97, 62, 38] ++ n ++ [59, 60, 47, 97, 62]
def toksA (s : Bytes) : List Tok := [⟨2, [97], [([98], s)], []⟩, ⟨4, [], [], [120] ++ s ++ [121] ++ s⟩, ⟨7, [97], [], []⟩]

/-- What the law says of Scan. -/
structure EntLaw (s : Bytes) : Prop where
  a : ∀ b, scan (docA (eName b) s) = .ok (toksA s)
  b : ∀ b, ∃ p, scan (docB (eName b) s) = .error (6, p)

theorem fine_of {c : UInt8} (h1 : ¬ (c.toNat : Int) < 32) (h2 : ¬ (126 : Int) < c.toNat) (h3 : ¬ (c.toNat : Int) = 60) (h4 : ¬ (c.toNat : Int) = 38) (h5 : ¬ (c.toNat : Int) = 37) (h6 : ¬ (c.toNat : Int) = 34) (h7 : ¬ (c.toNat : Int) = 39) : fine c = true := by
  have e : ∀ k : UInt8, ¬ (c.toNat : Int) = (k.toNat : Int) → (c == k) = false := fun k hk => by
    rw [beq_eq_false_iff_ne]; rintro rfl; exact hk rfl
  unfold fine
  rw [e 60 h3, e 38 h4, e 37 h5, e 34 h6, e 39 h7]
  simp
  omega

theorem catA (n s : Bytes) : ((⟨#[60, 33, 68, 79, 67, 84, 89, 80, 69, 32, 97, 32, 91, 60, 33, 69, 78, 84, 73, 84, 89, 32]⟩ : ByteArray) ++ ⟨n.toArray⟩ ++ ⟨#[32, 34]⟩ ++ ⟨s.toArray⟩ ++ ⟨#[34, 62, 93, 62, 60, 97, 32, 98, 61, 39, 38]⟩ ++ ⟨n.toArray⟩ ++ ⟨#[59, 39, 62, 120, 38]⟩ ++ ⟨n.toArray⟩ ++ ⟨#[59, 121, 38]⟩ ++ ⟨n.toArray⟩ ++ ⟨#[59, 60, 47, 97, 62]⟩) = ⟨(docA n s).toArray⟩ :=
  bytes_ext (by simp [docA, ByteArray.data_append])
theorem catB (n s : Bytes) : ((⟨#[60, 33, 68, 79, 67, 84, 89, 80, 69, 32, 97, 32, 91, 60, 33, 69, 78, 84, 73, 84, 89, 32]⟩ : ByteArray) ++ ⟨n.toArray⟩ ++ ⟨#[32, 34]⟩ ++ ⟨s.toArray⟩ ++ ⟨#[38]⟩ ++ ⟨n.toArray⟩ ++ ⟨#[59, 34, 62, 93, 62, 60, 97, 62, 38]⟩ ++ ⟨n.toArray⟩ ++ ⟨#[59, 60, 47, 97, 62]⟩) = ⟨(docB n s).toArray⟩ :=
  bytes_ext (by simp [docB, ByteArray.data_append])
theorem catT (s : Bytes) : ((⟨#[120]⟩ : ByteArray) ++ ⟨s.toArray⟩ ++ ⟨#[121]⟩ ++ ⟨s.toArray⟩) = ⟨([120] ++ s ++ [121] ++ s).toArray⟩ :=
  bytes_ext (by simp [ByteArray.data_append])
end Go.Proofs.YtahfcgjlcdbnjaaGreatDoor
/- The scanner's models, worked out on texts of known make. -/
namespace Go.Proofs.YtahfcgjlcdbnjaaGreatDoor
open Go.RowKit

theorem cut_at {a r : Bytes} {c : UInt8} (h : c ∉ a) : Lib.cut (a ++ c :: r) [c] = (a, r, true) := by
  have hi : Lib.index (a ++ c :: r) [c] = a.length := by
    refine Lib.index_first (i := a.length) (by simp) (by simp [Lib.occAt]) ?_
    intro j hj
    simp only [Lib.occAt]
    rw [List.drop_append_of_le_length (by omega)]
    have hlt : j < a.length := hj
    rw [List.drop_eq_getElem_cons hlt]
    simp only [List.cons_append, List.isPrefixOf, Bool.and_true]
    rw [beq_eq_false_iff_ne]
    intro he
    exact h (he ▸ List.getElem_mem hlt)
  unfold Lib.cut
  rw [hi, if_pos (by omega)]
  simp

theorem cut_gone {a : Bytes} {c : UInt8} (h : c ∉ a) : Lib.cut a [c] = (a, [], false) := by
  have hi : Lib.index a [c] = -1 := by
    refine Lib.index_none ?_
    intro j hj
    simp only [Lib.occAt]
    by_cases hlt : j < a.length
    · rw [List.drop_eq_getElem_cons hlt]
      simp only [List.isPrefixOf, Bool.and_true]
      rw [beq_eq_false_iff_ne]
      intro he
      exact h (he ▸ List.getElem_mem hlt)
    · rw [List.drop_eq_nil_of_le (by omega)]; rfl
  unfold Lib.cut
  rw [hi, if_neg (by omega)]

/-- How many blanks a text begins with. -/
def nb : Bytes → Nat
  | [] => 0
  | c :: l => if c = 9 ∨ c = 10 ∨ c = 13 ∨ c = 32 then nb l + 1 else 0

theorem nb_le : ∀ l : Bytes, nb l ≤ l.length
  | [] => Nat.le_refl _
  | c :: l => by have := nb_le l; unfold nb; split <;> simp <;> omega

theorem trimB_nb : ∀ l : Bytes, trimB l = l.drop (nb l)
  | [] => rfl
  | c :: l => by
    have ih := trimB_nb l
    unfold trimB Lib.trimLeftS at ih ⊢
    unfold nb
    rw [List.dropWhile_cons]
    by_cases h : c = 9 ∨ c = 10 ∨ c = 13 ∨ c = 32
    · rw [if_pos (by simpa [blankSet] using h), if_pos h, ih]; rfl
    · rw [if_neg (by simpa [blankSet] using h), if_neg h]; rfl

section
variable {D : Bytes} {σ : St}
theorem rest_ev : rest ⟨D.toArray⟩ σ = D.drop σ.pos := rfl
theorem size_ev : (⟨D.toArray⟩ : ByteArray).size = D.length := rfl
theorem has_ev (t : Bytes) : has ⟨D.toArray⟩ σ t = t.isPrefixOf (D.drop σ.pos) := rfl
theorem blanks_ev (h : σ.pos ≤ D.length) : blanks ⟨D.toArray⟩ σ = (decide (0 < nb (D.drop σ.pos)), σ.to (σ.pos + nb (D.drop σ.pos))) := by
  have hl := nb_le (D.drop σ.pos)
  simp at hl
  have : (⟨D.toArray⟩ : ByteArray).size - (trimB (rest ⟨D.toArray⟩ σ)).length = σ.pos + nb (D.drop σ.pos) := by
    rw [trimB_nb, rest_ev, size_ev]
    simp
    omega
  unfold blanks
  rw [this]
  simp
theorem upto_ev {a r : Bytes} {c : UInt8} (h : D.drop σ.pos = a ++ c :: r) (hc : c ∉ a) : upto ⟨D.toArray⟩ σ [c] = ((a, true), σ.to (σ.pos + a.length + 1)) := by
  unfold upto
  rw [rest_ev, h, cut_at hc]
  rfl
end

theorem wordN_cons (c : Bool) (a : UInt8) (l : Bytes) (h : a.toNat < 128) : wordN c (a :: l) = if goesOn (a.toNat : Int) || (c && ((a.toNat : Int) == 58)) then 1 + wordN c l else 0 := by
  rw [wordN_step c _ (by simp), Lib.decodeL_ascii a l h]
  simp only [List.drop_succ_cons, List.drop_zero]

theorem word_ev {D : Bytes} {σ : St} (c : Bool) : word ⟨D.toArray⟩ σ c = ((D.drop σ.pos).take (wordN c (D.drop σ.pos)), σ.to (σ.pos + wordN c (D.drop σ.pos))) := rfl

/-- A reference by name. -/
theorem ref_ev {n r : Bytes} (h : isName n = true) (h1 : (59 : UInt8) ∉ n) (h2 : n.head? ≠ some 35) : reference (38 :: (n ++ 59 :: r)) = some (n.length + 2, [], n) ∧ refWild (38 :: (n ++ 59 :: r)) = false := by
  have hc : Lib.cut (38 :: (n ++ 59 :: r)) [59] = (38 :: n, r, true) := by
    have := cut_at (a := 38 :: n) (r := r) (c := 59) (by simp [h1])
    simpa using this
  have hp : Lib.hasPrefix n [35] = false ∧ Lib.hasPrefix n [35, 120] = false := by
    cases n with
    | nil => exact ⟨rfl, rfl⟩
    | cons a l =>
      have : ¬ a = 35 := by simpa using h2
      constructor <;> simp [Lib.hasPrefix, List.isPrefixOf] <;> intro he <;> exact absurd he.symm this
  unfold reference refWild
  simp only [hc, List.tail_cons, hp.1, hp.2, h, if_true]
  exact ⟨rfl, by simp⟩

/-- An entity's text without references. -/
theorem expandL_fine (rec : Bytes → Bytes → Nat → Except (Int × Int) (Bytes × Nat)) (attr : Bool) (p : Nat) : ∀ (s r : Bytes) (m : Nat) (o : Bytes) (k : Nat), s.all fine = true → k + s.length ≤ 32768 →
    expandL rec attr p (s.length + m) (s ++ r) o k = expandL rec attr p m r (o ++ s) (k + s.length)
  | [], r, m, o, k, _, _ => by simp
  | c :: l, r, m, o, k, h, hk => by
    simp only [List.all_cons, Bool.and_eq_true, List.length_cons] at h hk
    have hc : c ≠ 38 := by rintro rfl; exact absurd h.1 (by decide)
    have hb : isBlank (c.toNat : Int) = true → c = 32 := by
      intro hb
      have h32 : 32 ≤ c.toNat := by have := h.1; unfold fine at this; simp at this; omega
      unfold isBlank at hb
      simp at hb
      exact UInt8.toNat_inj.1 (by rcases hb with ((hb | hb) | hb) | hb <;> simp <;> omega)
    have e : (if attr && isBlank (c.toNat : Int) then (32 : UInt8) else c) = c := by
      split
      · rename_i hx; simp at hx; exact (hb hx.2).symm
      · rfl
    rw [List.length_cons, Nat.add_right_comm, List.cons_append]
    show (if c ≠ 38 then _ else _) = _
    rw [if_pos hc, if_pos (by omega), e, expandL_fine rec attr p l r m _ _ h.2 (by omega)]
    rw [List.append_assoc, show k + 1 + l.length = k + (l.length + 1) by omega]
    rfl

theorem fine_not {s : Bytes} (h : s.all fine = true) {c : UInt8} (hc : fine c = false) : c ∉ s := by
  intro hm
  have := List.all_eq_true.1 h c hm
  rw [this] at hc; cases hc

theorem badAt_print : ∀ (n : Nat) (l : Bytes) (p : Nat), (∀ c ∈ l, 32 ≤ c.toNat ∧ c.toNat ≤ 126) → badAt n l p = none
  | 0, _, _, _ => rfl
  | n + 1, [], _, _ => rfl
  | n + 1, c :: l, p, h => by
    have hc := h c (by simp)
    have hch : isChar (c.toNat : Int) = true := by
      unfold isChar within chars
      simp
      omega
    unfold badAt
    rw [if_neg (by simp), Lib.decodeL_ascii c l (by omega)]
    have h5 : ¬ c.toNat = 65533 := by omega
    simp only [hch, Bool.not_true, Bool.false_or]
    rw [if_neg (by simp [h5])]
    exact badAt_print n l _ fun c' h' => h c' (by simp [h'])

theorem refsN_fine : ∀ (s r : Bytes), s.all fine = true → refsN (s ++ r) = refsN r
  | [], _, _ => rfl
  | c :: l, r, h => by
    simp only [List.all_cons, Bool.and_eq_true] at h
    have hc : c ≠ 38 := by rintro rfl; exact absurd h.1 (by decide)
    show (if c = 38 then _ else _) = _
    rw [if_neg hc]
    exact refsN_fine l r h.2

theorem fine_ascii {s : Bytes} (h : s.all fine = true) : ascii s = true := by
  unfold ascii
  rw [List.all_eq_true] at h ⊢
  intro c hc
  have := h c hc
  unfold fine at this
  simp at this ⊢
  omega
theorem fine_any {s : Bytes} (h : s.all fine = true) : hasAny s [60, 37] = false := by
  unfold hasAny
  rw [List.any_eq_false]
  rw [List.all_eq_true] at h
  intro c hc
  have := h c hc
  unfold fine at this
  simp at this ⊢
  exact ⟨this.1.1.1.1.2, this.1.1.2⟩
theorem fine_print {s : Bytes} (h : s.all fine = true) : ∀ c ∈ s, 32 ≤ c.toNat ∧ c.toNat ≤ 126 := by
  rw [List.all_eq_true] at h
  intro c hc
  have := h c hc
  unfold fine at this
  simp at this
  omega
end Go.Proofs.YtahfcgjlcdbnjaaGreatDoor
