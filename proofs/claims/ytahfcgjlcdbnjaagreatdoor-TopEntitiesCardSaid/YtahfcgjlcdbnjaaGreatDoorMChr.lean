/- xchar: which characters may be, which begin names and which go on in them; their spans are compared as floats. -/
import Derived.Test.YtahfcgjlcdbnjaaGreatDoorProg
import Derived.Test.YtahfcgjlcdbnjaaGreatDoorMRow
import Derived.Test.YtahfcgjlcdbnjaaGreatDoorMFlt
import Derived.WalkSpells
import Derived.WalkLawsBesides
import Derived.Handy
import Derived.Lib.Hide
namespace Go.Proofs.YtahfcgjlcdbnjaaGreatDoor
open Go.RowKit

/-- A span as the program lays it. -/
def spanV (p : Int × Int) : Value := .complex .f64 (FloatKind.nearest .f64 p.1) (FloatKind.nearest .f64 p.2)

/-- Is r in one of the spans? -/
def within (r : Int) (l : List (Int × Int)) : Bool := l.any fun p => decide (p.1 ≤ r) && decide (r ≤ p.2)

theorem order_walk (a b : Int) (ha : a.natAbs < 2 ^ 53) (hb : b.natAbs < 2 ^ 53) :
    FloatKind.f64.format.order (floatOfInt .f64 a) (FloatKind.nearest .f64 b) = some (compare a b) := order_int a b ha hb

theorem cmp_gt {a b : Int} (h : b < a) : compare a b = .gt := by
  show compareOfLessAndEq _ _ = _
  unfold compareOfLessAndEq; rw [if_neg (by omega), if_neg (by omega)]
theorem cmp_lt {a b : Int} (h : a < b) : compare a b = .lt := by
  show compareOfLessAndEq _ _ = _
  unfold compareOfLessAndEq; rw [if_pos h]
theorem cmp_eq {a b : Int} (h : a = b) : compare a b = .eq := by
  show compareOfLessAndEq _ _ = _
  unfold compareOfLessAndEq; rw [if_neg (by omega), if_pos h]

theorem any_snoc {α : Type} (l : List α) (f : α → Bool) (k : Nat) (h : k < l.length) : (l.take (k + 1)).any f = ((l.take k).any f || f l[k]) := by
  rw [List.take_succ_eq_append_getElem h, List.any_append]; simp

set_option maxHeartbeats 400000 in
theorem in_any (r : Int) (l : List (Int × Int)) (b n : Nat) (w : World) (hr : r.natAbs < 2 ^ 53) (hl : ∀ p ∈ l, p.1.natAbs < 2 ^ 53 ∧ p.2.natAbs < 2 ^ 53) (hn : n = l.length) (hb : n ≤ 1000)
    (hc : ∀ k (h : k < l.length), w.cell? ⟨b, k, none⟩ = some (spanV l[k])) :
    Calls Tryz.prog 94 #[.int .i32 r, .slice (some ⟨b, 0, none⟩) n n] w fun e w' => e = .returned (.bool (within r l)) ∧ w = w' := by
  have HL := Lib.hid hl
  have HC := Lib.hid hc
  have HN := Lib.hid hn
  clear hl hc hn
  go_enter Tryz.func94, Tryz.ntmps94
  go_wp2
  go_loop [10] (fun i => ∃ k : Nat, k ≤ n ∧ i = .int .i64 k ∧ (l.take k).any (fun p => decide (p.1 ≤ r) && decide (r ≤ p.2)) = false) (fun i => n - (intOf i).toNat)
  case atStart => exact ⟨0, Nat.zero_le _, rfl, rfl⟩
  case round =>
    obtain ⟨k, hk, rfl, ht⟩ := hrel
    have HT := Lib.hid ht
    clear ht
    by_cases hlt : k < n
    · have hkl : k < l.length := by have := HN.out; omega
      have hcell := HC.out k hkl
      unfold spanV at hcell
      obtain ⟨b1, b2⟩ := HL.out l[k] (List.getElem_mem hkl)
      have o1 := order_walk r l[k].1 hr b1
      have o2 := order_walk r l[k].2 hr b2
      have HS := Lib.hid (any_snoc l (fun p => decide (p.1 ≤ r) && decide (r ≤ p.2)) k hkl)
      clear b1 b2
      have yes : l[k].1 ≤ r → r ≤ l[k].2 → Ending.returned (.bool true) = Ending.returned (.bool (within r l)) := fun h1 h2 => by
        have : within r l = true := List.any_eq_true.2 ⟨l[k], List.getElem_mem hkl, by simp [h1, h2]⟩
        rw [this]
      have no : ¬ (l[k].1 ≤ r ∧ r ≤ l[k].2) → (l.take (k + 1)).any (fun p => decide (p.1 ≤ r) && decide (r ≤ p.2)) = false := fun h => by
        rw [HS.out, HT.out]; simp; omega
      have YES := Lib.hid yes
      have NO := Lib.hid no
      clear yes no
      generalize hA : l[k].1 = A at *
      generalize hB : l[k].2 = B at *
      clear hA hB
      rcases Int.lt_trichotomy A r with h | h | h
      · rw [cmp_gt h] at o1
        rcases Int.lt_trichotomy r B with g | g | g
        · rw [cmp_lt g] at o2
          go_wp2
          go_ret
          exact ⟨YES.out (by omega) (by omega), rfl⟩
        · rw [cmp_eq g] at o2
          have hg := Lib.hid g
          clear g
          go_wp2
          go_ret
          exact ⟨YES.out (by omega) (by have := hg.out; omega), rfl⟩
        · rw [cmp_gt g] at o2
          go_wp2
          exact ⟨⟨k + 1, by omega, by go_num, NO.out (by omega)⟩, by simp [intOf]; omega⟩
      · rw [cmp_eq h.symm] at o1
        have hh := Lib.hid h
        clear h
        rcases Int.lt_trichotomy r B with g | g | g
        · rw [cmp_lt g] at o2
          go_wp2
          go_ret
          exact ⟨YES.out (by have := hh.out; omega) (by omega), rfl⟩
        · rw [cmp_eq g] at o2
          have hg := Lib.hid g
          clear g
          go_wp2
          go_ret
          exact ⟨YES.out (by have := hh.out; omega) (by have := hg.out; omega), rfl⟩
        · rw [cmp_gt g] at o2
          go_wp2
          exact ⟨⟨k + 1, by omega, by go_num, NO.out (by omega)⟩, by simp [intOf]; omega⟩
      · rw [cmp_lt h] at o1
        go_wp2
        exact ⟨⟨k + 1, by omega, by go_num, NO.out (by omega)⟩, by simp [intOf]; omega⟩
    · obtain rfl : k = n := by omega
      go_wp2
      go_ret
      refine ⟨?_, rfl⟩
      have : within r l = false := by
        have h := HT.out
        rw [List.take_of_length_le (by have := HN.out; omega)] at h
        exact h
      rw [this]; rfl

/-- Characters that may be. -/
def chars : List (Int × Int) := [(9, 10), (13, 13), (32, 0xd7ff), (0xe000, 0xfffd), (0x10000, 0x10ffff)]
def isChar (r : Int) : Bool := within r chars

theorem cell_lit (l : List (Int × Int)) (cs : Array Value) (T : TypeId) (w : World) (h : cs = (l.map spanV).toArray) :
    ∀ k (h : k < l.length), (w.alloc (.cells cs T)).cell? ⟨w.heap.size, k, none⟩ = some (spanV l[k]) := by
  intro k hk; subst h
  rw [World.cell?_alloc_new]; simp [hk]

set_option maxHeartbeats 400000 in
theorem isChar_any (r : Int) (w : World) (hr : r.natAbs < 2 ^ 53) :
    Calls Tryz.prog 59 #[.int .i32 r] w fun e w' => e = .returned (.bool (isChar r)) ∧ Below w.heap.size w w' := by
  go_enter Tryz.func59, Tryz.ntmps59
  go_wp2_with fail
  refine (in_any r chars _ _ _ hr (by decide) rfl (by decide) (cell_lit chars _ _ w (by kernel_rfl))).mono ?_
  rintro e w1 ⟨rfl, rfl⟩
  go_wp2_with fail
  go_ret
  exact ⟨rfl, (Below.refl _ _).alloc (Nat.le_refl _) _⟩

def isBlank (r : Int) : Bool := r == 32 || r == 9 || r == 10 || r == 13

set_option maxHeartbeats 400000 in
theorem isBlank_any (r : Int) (w : World) :
    Calls Tryz.prog 120 #[.int .i32 r] w fun e w' => e = .returned (.bool (isBlank r)) ∧ w = w' := by
  go_enter Tryz.func120, Tryz.ntmps120
  go_wp2
  all_goals (go_ret; refine ⟨?_, rfl⟩; simp [isBlank, *])

/-- Characters that may begin names, beyond ASCII. -/
def beginsHigh : List (Int × Int) := [(0xc0, 0xd6), (0xd8, 0xf6), (0xf8, 0x2ff), (0x370, 0x37d), (0x37f, 0x1fff), (0x200c, 0x200d), (0x2070, 0x218f), (0x2c00, 0x2fef), (0x3001, 0xd7ff), (0xf900, 0xfdcf), (0xfdf0, 0xfffd), (0x10000, 0xeffff)]
def begins (r : Int) : Bool :=
  if r < 128 then decide (97 ≤ r ∧ r ≤ 122) || decide (65 ≤ r ∧ r ≤ 90) || r == 95 else within r beginsHigh
def goesHigh : List (Int × Int) := [(0x300, 0x36f), (0x203f, 0x2040)]
def goesOn (r : Int) : Bool :=
  begins r || r == 45 || r == 46 || decide (48 ≤ r ∧ r ≤ 57) || r == 183 || within r goesHigh

set_option maxHeartbeats 400000 in
theorem begins_any (r : Int) (w : World) (hr : r.natAbs < 2 ^ 53) :
    Calls Tryz.prog 181 #[.int .i32 r] w fun e w' => e = .returned (.bool (begins r)) ∧ Below w.heap.size w w' := by
  by_cases h : r < 128
  · have HB := Lib.hid (show begins r = (decide (97 ≤ r ∧ r ≤ 122) || decide (65 ≤ r ∧ r ≤ 90) || r == 95) by unfold begins; rw [if_pos h])
    go_enter Tryz.func181, Tryz.ntmps181
    go_wp2_with fail
    all_goals (go_ret; refine ⟨congrArg (fun b => Ending.returned (.bool b)) ?_, Below.refl _ _⟩; rw [HB.out, Bool.eq_iff_iff]; simp; try omega)
  · go_enter Tryz.func181, Tryz.ntmps181
    go_wp2_with fail
    refine (in_any r beginsHigh _ _ _ hr (by decide) rfl (by decide) (cell_lit beginsHigh _ _ w (by kernel_rfl))).mono ?_
    rintro e w1 ⟨rfl, rfl⟩
    go_wp2_with fail
    go_ret
    exact ⟨by simp only [begins]; rw [if_neg (by omega)]; rfl, (Below.refl _ _).alloc (Nat.le_refl _) _⟩

set_option maxHeartbeats 1000000 in
theorem goesOn_any (r : Int) (w : World) (hr : r.natAbs < 2 ^ 53) :
    Calls Tryz.prog 182 #[.int .i32 r] w fun e w' => e = .returned (.bool (goesOn r)) ∧ Below w.heap.size w w' := by
  have hg : goesOn r = (begins r || r == 45 || r == 46 || decide (48 ≤ r ∧ r ≤ 57) || r == 183 || within r goesHigh) := rfl
  have HG := Lib.hid hg
  clear hg
  go_enter Tryz.func182, Tryz.ntmps182
  go_wp2_with fail
  refine (begins_any r w hr).mono ?_
  rintro e w1 ⟨rfl, hb⟩
  generalize begins r = bg at *
  cases bg
  · have hb2 : ∀ o, Below w.heap.size w (w1.alloc o) := fun o => hb.trans (((Below.refl _ _).alloc (Nat.le_refl _) _).mono hb.size)
    go_wp2_with fail
    all_goals first
      | (refine (in_any r goesHigh _ _ _ hr (by decide) rfl (by decide) (cell_lit goesHigh _ _ w1 (by kernel_rfl))).mono ?_
         rintro e w2 ⟨rfl, rfl⟩
         go_wp2_with fail
         go_ret
         refine ⟨congrArg (fun b => Ending.returned (.bool b)) ?_, hb2 _⟩
         rw [HG.out, Bool.eq_iff_iff]; generalize within r goesHigh = bb; cases bb <;> simp <;> try omega)
      | (go_ret
         refine ⟨congrArg (fun b => Ending.returned (.bool b)) ?_, by first | exact hb2 _ | exact hb⟩
         rw [HG.out, Bool.eq_iff_iff]; generalize within r goesHigh = bb; cases bb <;> simp <;> try omega)
  · go_wp2_with fail
    go_ret
    refine ⟨?_, by first | exact hb.trans (((Below.refl _ _).alloc (Nat.le_refl _) _).mono hb.size) | exact hb⟩
    rw [HG.out]; simp

end Go.Proofs.YtahfcgjlcdbnjaaGreatDoor

