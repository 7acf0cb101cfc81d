/- The law's own tables of names' characters and its search. -/
import Derived.Test.YtalmkfikfmpmoaaGreatDoorMRtx
namespace Go.Proofs.YtalmkfikfmpmoaaGreatDoor
open Go.RowKit

section
variable {W w : World} {L : List Asn}

def pairI (p : Int × Int) : List Value := [.int .i32 p.1, .int .i32 p.2]

set_option maxHeartbeats 1000000 in
theorem refIn_any (r : Int) (ps : List (Int × Int)) (b N : Nat) (w : World) (hN : N = 2 * ps.length) (hb : N ≤ 1000)
    (hc : ∀ k (h : k < ps.length), w.cell? ⟨b, k * 2, none⟩ = some (.int .i32 ps[k].1) ∧ w.cell? ⟨b, k * 2 + 1, none⟩ = some (.int .i32 ps[k].2)) :
    Calls Tryz.prog 158 #[.int .i32 r, .slice (some ⟨b, 0, none⟩) N N] w fun e w' => e = .returned (.bool (within r ps)) ∧ w = w' := by
  have HC := Lib.hid hc
  have HN := Lib.hid hN
  clear hc hN
  go_enter Tryz.func158, Tryz.ntmps158
  go_wp2_with fail
  go_loopg [5] N (fun gk v5 wr => ∃ k : Nat, v5 = .int .i64 ((k * 2 : Nat) : Int) ∧ wr = w ∧ gk + 2 * k = N ∧ Hid ((ps.take k).any (fun p => decide (p.1 ≤ r) && decide (r ≤ p.2)) = false))
  case atStart => exact ⟨0, rfl, rfl, by omega, rfl⟩
  case round =>
    obtain ⟨k, rfl, rfl, hig, HT⟩ := hrel
    by_cases hlt : k < ps.length
    · have hlt' : ((k * 2 : Nat) : Int) + 1 < (N : Int) := by have := HN.out; omega
      obtain ⟨c1, c2⟩ := HC.out k hlt
      have HS := Lib.hid (any_snoc ps (fun p => decide (p.1 ≤ r) && decide (r ≤ p.2)) k hlt)
      have YES : Hid (ps[k].1 ≤ r → r ≤ ps[k].2 → within r ps = true) := fun h1 h2 => List.any_eq_true.2 ⟨ps[k], List.getElem_mem hlt, by simp [h1, h2]⟩
      have NO : Hid (¬ (ps[k].1 ≤ r ∧ r ≤ ps[k].2) → (ps.take (k + 1)).any (fun p => decide (p.1 ≤ r) && decide (r ≤ p.2)) = false) := fun h => by
        rw [HS.out, HT.out]; simp; omega
      generalize hA : ps[k].1 = A at *
      generalize hB : ps[k].2 = B at *
      clear hA hB HS
      obtain ⟨j, hj⟩ : ∃ j, j = k * 2 := ⟨_, rfl⟩
      have HJ := Lib.hid hj
      have hjN : j + 1 < N := by omega
      rw [← hj] at c1 c2 hlt' ⊢
      clear hj
      by_cases h1 : A ≤ r
      · by_cases h2 : r ≤ B
        · go_wp2_with fail
          go_ret
          exact ⟨by rw [YES.out h1 h2]; rfl, rfl⟩
        · go_wp2_with fail
          go_roundg (gk - 2)
          case measure => have := HN.out; omega
          case rel => exact ⟨k + 1, by have := HJ.out; go_num, rfl, by have := HJ.out; have := HN.out; omega, NO.out (by omega)⟩
      · go_wp2_with fail
        go_roundg (gk - 2)
        case measure => have := HN.out; omega
        case rel => exact ⟨k + 1, by have := HJ.out; go_num, rfl, by have := HJ.out; have := HN.out; omega, NO.out (by omega)⟩
    · have hge : ¬ ((k * 2 : Nat) : Int) + 1 < (N : Int) := by have := HN.out; omega
      have HR : Hid (within r ps = false) := by
        show _ = _
        have h := HT.out
        rw [List.take_of_length_le (by omega)] at h
        exact h
      go_wp2_with fail
      go_ret
      exact ⟨by rw [HR.out]; rfl, rfl⟩

theorem cell_pairs (ps : List (Int × Int)) (cs : Array Value) (T : TypeId) (w : World) (h : cs = (ps.flatMap pairI).toArray) :
    ∀ k (h : k < ps.length), (w.alloc (.cells cs T)).cell? ⟨w.heap.size, k * 2, none⟩ = some (.int .i32 ps[k].1) ∧ (w.alloc (.cells cs T)).cell? ⟨w.heap.size, k * 2 + 1, none⟩ = some (.int .i32 ps[k].2) := by
  intro k hk
  subst h
  have h0 := flatMap_at pairI 2 (fun _ => rfl) ps k 0 (by decide)
  have h1 := flatMap_at pairI 2 (fun _ => rfl) ps k 1 (by decide)
  rw [List.getElem?_eq_getElem hk] at h0 h1
  constructor
  · rw [World.cell?_alloc_new]; simpa [pairI] using h0
  · rw [World.cell?_alloc_new]; simpa [pairI] using h1

def refBeg : List (Int × Int) := [(65, 90), (97, 122), (95, 95), (192, 214), (216, 246), (248, 767), (880, 893), (895, 8191), (8204, 8205), (8304, 8591), (11264, 12271), (12289, 55295), (63744, 64975), (65008, 65533), (65536, 983039)]
def refGo : List (Int × Int) := [(45, 45), (46, 46), (48, 57), (183, 183), (768, 879), (8255, 8256)]

theorem refBeg_eq (r : Int) (_h : 0 ≤ r) : within r refBeg = begins r := by
  rw [Bool.eq_iff_iff]
  unfold begins
  split
  · simp [within, refBeg]; omega
  · simp [within, refBeg, beginsHigh]; omega
theorem refGo_eq (r : Int) : (begins r || within r refGo) = goesOn r := by
  unfold goesOn
  cases begins r
  · rw [Bool.eq_iff_iff]; simp [within, refGo, goesHigh]; omega
  · simp

set_option maxHeartbeats 400000 in
theorem refBegins_any (r : Int) (h : 0 ≤ r) (w : World) :
    Calls Tryz.prog 144 #[.int .i32 r] w fun e w' => e = .returned (.bool (begins r)) ∧ Below w.heap.size w w' := by
  go_enter Tryz.func144, Tryz.ntmps144
  go_wp2_with fail
  refine (refIn_any r refBeg _ 30 _ rfl (by decide) (cell_pairs refBeg _ _ w (by kernel_rfl))).mono ?_
  rintro e w1 ⟨rfl, rfl⟩
  go_wp2_with fail
  go_ret
  exact ⟨by rw [refBeg_eq r h]; rfl, (Below.refl _ _).alloc (Nat.le_refl _) _⟩

set_option maxHeartbeats 400000 in
theorem refGoesOn_any (r : Int) (h : 0 ≤ r) (w : World) :
    Calls Tryz.prog 123 #[.int .i32 r] w fun e w' => e = .returned (.bool (goesOn r)) ∧ Below w.heap.size w w' := by
  have HG := Lib.hid (refGo_eq r)
  go_enter Tryz.func123, Tryz.ntmps123
  go_wp2_with fail
  refine (refBegins_any r h w).mono ?_
  rintro e w1 ⟨rfl, hb⟩
  generalize begins r = bg at *
  have HB := Lib.hid hb
  clear hb
  cases bg
  · go_wp2_with fail
    refine (refIn_any r refGo _ 12 _ rfl (by decide) (cell_pairs refGo _ _ w1 (by kernel_rfl))).mono ?_
    rintro e w2 ⟨rfl, rfl⟩
    go_wp2_with fail
    go_ret
    exact ⟨by rw [← HG.out]; rfl, HB.out.trans (((Below.refl _ _).alloc (Nat.le_refl _) _).mono HB.out.size)⟩
  · go_wp2_with fail
    go_ret
    exact ⟨by rw [← HG.out]; rfl, HB.out⟩

set_option maxHeartbeats 1000000 in
theorem find_any (s t : Bytes) (w : World) (hs : s.length ≤ 1099511627776) (ht0 : t ≠ []) (ht : t.length ≤ 1000) :
    Calls Tryz.prog 54 #[str s, str t, .int .i64 0] w fun e w' => e = .returned (.int .i64 (Lib.index s t)) ∧ w = w' := by
  have HT0 := Lib.hid ht0
  have htp : 1 ≤ t.length := List.length_pos_iff.2 ht0
  clear ht0
  go_enter Tryz.func54, Tryz.ntmps54
  go_wp2_with fail
  go_loopg [7] (s.length + 1) (fun gk v7 wr => ∃ i : Nat, v7 = .int .i64 i ∧ wr = w ∧ gk + i = s.length + 1 ∧ Hid (∀ j, j < i → Lib.occAt s t j = false))
  case atStart => exact ⟨0, rfl, rfl, by omega, fun j hj => absurd hj (Nat.not_lt_zero _)⟩
  case round =>
    obtain ⟨i, rfl, rfl, hig, HNO⟩ := hrel
    by_cases hle : i + t.length ≤ s.length
    · have hle' : (i : Int) + (t.length : Int) ≤ (s.length : Int) := by omega
      have hocc := Lib.occAt_iff_take s t i hle
      have hex : (⟨s.toArray⟩ : ByteArray).extract i (i + t.length) = ⟨((s.drop i).take t.length).toArray⟩ := by rw [extract_part]; simp
      generalize (s.drop i).take t.length = u at *
      have HOCC := Lib.hid hocc
      clear hocc
      cases hq : (u == t)
      · have HNO2 : Hid (∀ j, j < i + 1 → Lib.occAt s t j = false) := fun j hj => by
          by_cases h : j < i
          · exact HNO.out j h
          · obtain rfl : j = i := by omega
            rw [HOCC.out]; exact hq
        go_wp2_with fail
        go_roundg (gk - 1)
        case measure => omega
        case rel => exact ⟨i + 1, by go_num, rfl, by omega, HNO2⟩
      · have HR : Hid (Lib.index s t = i) := Lib.index_first (by omega) (by rw [HOCC.out]; exact hq) HNO.out
        go_wp2_with fail
        go_ret
        exact ⟨by rw [HR.out]; rfl, rfl⟩
    · have hgt : ¬ (i : Int) + (t.length : Int) ≤ (s.length : Int) := by omega
      have HR : Hid (Lib.index s t = -1) := Lib.index_none fun j hj => by
        by_cases h : j < i
        · exact HNO.out j h
        · rw [Bool.eq_false_iff]
          intro hh
          rcases Lib.occAt_room hh with h2 | h2
          · omega
          · exact HT0.out h2
      go_wp2_with fail
      go_ret
      exact ⟨by rw [HR.out]; rfl, rfl⟩
end
end Go.Proofs.YtalmkfikfmpmoaaGreatDoor

