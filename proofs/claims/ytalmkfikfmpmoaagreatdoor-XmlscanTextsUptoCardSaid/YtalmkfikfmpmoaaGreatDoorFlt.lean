/- Whole numbers of at most 53 bits as float64: they are met exactly, and compared as they are. -/
import Derived.WalkKit
namespace Go.Proofs.YtalmkfikfmpmoaaGreatDoor
open Ieee

theorem shl_eq (a b : Nat) : a <<< b = a * 2 ^ b := Nat.shiftLeft_eq a b

theorem cut_zero (neg : Bool) (n : Nat) : Toward.even.cut neg n 0 = n := by
  simp [Toward.cut, Nat.mod_one]

theorem log_lt {m : Nat} (h0 : 0 < m) (h : m < 2 ^ 53) : m.log2 < 53 := by
  rw [Nat.log2_lt (by omega)]; exact h

theorem keptBounds {m : Nat} (h0 : 0 < m) (h : m < 2 ^ 53) : 2 ^ 52 ≤ m * 2 ^ (52 - m.log2) ∧ m * 2 ^ (52 - m.log2) < 2 ^ 53 := by
  have hl := log_lt h0 h
  have h1 : 2 ^ m.log2 ≤ m := Nat.log2_self_le (by omega)
  have h2 : m < 2 ^ (m.log2 + 1) := Nat.lt_log2_self
  have hp : 0 < 2 ^ (52 - m.log2) := Nat.two_pow_pos _
  constructor
  · calc 2 ^ 52 = 2 ^ m.log2 * 2 ^ (52 - m.log2) := by rw [← Nat.pow_add]; congr 1; omega
      _ ≤ m * 2 ^ (52 - m.log2) := Nat.mul_le_mul_right _ h1
  · calc m * 2 ^ (52 - m.log2) < 2 ^ (m.log2 + 1) * 2 ^ (52 - m.log2) := Nat.mul_lt_mul_of_pos_right h2 hp
      _ = 2 ^ 53 := by rw [← Nat.pow_add]; congr 1; omega

theorem nearest_eq (neg : Bool) {m : Nat} (h0 : 0 < m) (h : m < 2 ^ 53) :
    double.nearest neg m 0 = double.word neg ((m.log2 + 1022) * 4503599627370496 + m * 2 ^ (52 - m.log2)) := by
  have hl := log_lt h0 h
  obtain ⟨k1, k2⟩ := keptBounds h0 h
  have hlast : max ((0 : Int) + (m.log2 : Int) - (double.fractionBits : Int)) double.leastPlace = (m.log2 : Int) - 52 := by
    have e1 : double.leastPlace = -1074 := by decide
    have e2 : double.fractionBits = 52 := rfl
    rw [e1, e2]; omega
  unfold Format.nearest
  rw [if_neg (by omega)]
  simp only [hlast]
  have e1 : double.leastPlace = -1074 := by decide
  have e3 : double.binade = 4503599627370496 := by decide
  have e4 : double.infRung = 9218868437227405312 := by decide
  rw [e1, e3, e4]
  have a1 : ((0 : Int) - ((m.log2 : Int) - 52)).toNat = 52 - m.log2 := by omega
  have a2 : ((m.log2 : Int) - 52 - 0).toNat = 0 := by omega
  have a3 : ((m.log2 : Int) - 52 - (-1074)).toNat = m.log2 + 1022 := by omega
  rw [a1, a2, a3, cut_zero, shl_eq, Nat.min_eq_left (by omega)]

theorem read_word (neg : Bool) {e k : Nat} (he : e ≤ 52) (h1 : 4503599627370496 ≤ k) (h2 : k < 9007199254740992) :
    double.read (double.word neg ((e + 1022) * 4503599627370496 + k)) = .number neg k ((e : Int) - 52) := by
  have e1 : double.leastPlace = -1074 := by decide
  have e3 : double.binade = 4503599627370496 := by decide
  have e4 : double.infRung = 9218868437227405312 := by decide
  have e5 : double.signWeight = 9223372036854775808 := by decide
  generalize hR : (e + 1022) * 4503599627370496 + k = R
  have hr : R < 9223372036854775808 := by omega
  have hq : R / 4503599627370496 = e + 1023 := by omega
  have hm : R % 4503599627370496 = k - 4503599627370496 := by omega
  have hw : double.word neg R % 9223372036854775808 = R := by
    unfold Format.word; rw [e5]; cases neg <;> simp only [Bool.false_eq_true, if_false, if_true] <;> omega
  have hn : (double.word neg R / 9223372036854775808 % 2 == 1) = neg := by
    unfold Format.word; rw [e5]
    cases neg
    · have : R / 9223372036854775808 = 0 := by omega
      simp only [Bool.false_eq_true, if_false, this]; rfl
    · have : (9223372036854775808 + R) / 9223372036854775808 = 1 := by omega
      simp only [if_true, this]; rfl
  unfold Format.read
  simp only [e5, e3, e4, e1, hw, hn]
  have b1 : ¬ R < 4503599627370496 := by omega
  have b2 : R < 9218868437227405312 := by omega
  rw [if_neg b1, if_pos b2, hq, hm]
  have c1 : 4503599627370496 + (k - 4503599627370496) = k := Nat.add_sub_of_le h1
  have c2 : (-1074 : Int) + ((e + 1023 - 1 : Nat) : Int) = (e : Int) - 52 := by rw [Nat.add_sub_assoc (by decide)]; omega
  rw [c1, c2]

theorem read_nearest (neg : Bool) {m : Nat} (h0 : 0 < m) (h : m < 2 ^ 53) :
    double.read (double.nearest neg m 0) = .number neg (m * 2 ^ (52 - m.log2)) ((m.log2 : Int) - 52) := by
  have hl := log_lt h0 h
  obtain ⟨k1, k2⟩ := keptBounds h0 h
  have := read_word (k := m * 2 ^ (52 - m.log2)) neg (show m.log2 ≤ 52 by omega) (by omega) (by omega)
  rw [nearest_eq neg h0 h]
  exact this

theorem read_zero : double.read (double.nearest false 0 0) = .number false 0 (-1074) := by decide

/-- What is read back of a whole number n: its sign, a magnitude m and a place -p that say n. -/
theorem read_int (n : Int) (h : n.natAbs < 2 ^ 53) : ∃ (m : Nat) (p : Nat),
    double.read (FloatKind.nearest .f64 n) = .number (decide (n < 0)) m (-(p : Int)) ∧ m = n.natAbs * 2 ^ p := by
  by_cases h0 : n = 0
  · subst h0
    obtain ⟨p, hp⟩ : ∃ p : Nat, (-1074 : Int) = -(p : Int) := ⟨1074, rfl⟩
    exact ⟨0, p, hp ▸ read_zero, (Nat.zero_mul _).symm⟩
  · have hp : 0 < n.natAbs := by omega
    have hl := log_lt hp h
    refine ⟨n.natAbs * 2 ^ (52 - n.natAbs.log2), 52 - n.natAbs.log2, ?_, rfl⟩
    have e := read_nearest (decide (n < 0)) hp h
    rw [show ((n.natAbs.log2 : Int) - 52) = -((52 - n.natAbs.log2 : Nat) : Int) by omega] at e
    exact e

theorem compare_scale (a b : Int) (k : Nat) : compare (a * 2 ^ k) (b * 2 ^ k) = compare a b := by
  have hp : (0 : Int) < 2 ^ k := Int.pow_pos (by decide)
  show compareOfLessAndEq _ _ = compareOfLessAndEq _ _
  unfold compareOfLessAndEq
  rcases Int.lt_trichotomy a b with h | h | h
  · rw [if_pos h, if_pos (Int.mul_lt_mul_of_pos_right h hp)]
  · subst h; simp
  · have h' : b * 2 ^ k < a * 2 ^ k := Int.mul_lt_mul_of_pos_right h hp
    generalize a * 2 ^ k = x at *
    generalize b * 2 ^ k = y at *
    rw [if_neg (by omega), if_neg (by omega), if_neg (by omega), if_neg (by omega)]

theorem signed_int (n : Int) (m p q : Nat) (hm : m = n.natAbs * 2 ^ p) : signed (decide (n < 0)) m q = n * 2 ^ (p + q) := by
  unfold signed
  rw [shl_eq, hm, Nat.mul_assoc, ← Nat.pow_add]
  by_cases h : n < 0
  · simp only [h, decide_true, if_true]
    rw [Int.natCast_mul, ← Int.neg_mul, show -(n.natAbs : Int) = n by omega]
    simp
  · simp only [h, decide_false, Bool.false_eq_true, if_false]
    rw [Int.natCast_mul, show (n.natAbs : Int) = n by omega]
    simp

theorem order_int (a b : Int) (ha : a.natAbs < 2 ^ 53) (hb : b.natAbs < 2 ^ 53) :
    double.order (FloatKind.nearest .f64 a) (FloatKind.nearest .f64 b) = some (compare a b) := by
  obtain ⟨m, p, hr, hm⟩ := read_int a ha
  obtain ⟨n, q, hs, hn⟩ := read_int b hb
  unfold Format.order
  rw [hr, hs]
  unfold Datum.order
  simp only
  rw [signed_int a m p _ hm, signed_int b n q _ hn]
  rw [show p + ((-(p : Int)) - min (-(p : Int)) (-(q : Int))).toNat = max p q by omega, show q + ((-(q : Int)) - min (-(p : Int)) (-(q : Int))).toNat = max p q by omega]
  rw [compare_scale a b _]

end Go.Proofs.YtalmkfikfmpmoaaGreatDoor
