/- The plain law of TopEntities (printed by gen/law2.py). -/
import Derived.Test.YtahfcgjlcdbnjaaGreatDoorMLaw
import Derived.Test.YtahfcgjlcdbnjaaGreatDoorMWr3
namespace Go.Proofs.YtahfcgjlcdbnjaaGreatDoor
open Go.RowKit

theorem nF : isName [102] = true := by kernel_rfl
theorem qF : (split [102]).isSome = true := by kernel_rfl
theorem plainF : plain [102] = none := by kernel_rfl
theorem snF_32 (r : Bytes) : wordN false (102 :: 32 :: r) = 1 := by
  simp [wordN_cons, goesOn, begins, within, goesHigh]
theorem snF_47 (r : Bytes) : wordN false (102 :: 47 :: r) = 1 := by
  simp [wordN_cons, goesOn, begins, within, goesHigh]
theorem snF_59 (r : Bytes) : wordN false (102 :: 59 :: r) = 1 := by
  simp [wordN_cons, goesOn, begins, within, goesHigh]
theorem snF_61 (r : Bytes) : wordN false (102 :: 61 :: r) = 1 := by
  simp [wordN_cons, goesOn, begins, within, goesHigh]
theorem snF_62 (r : Bytes) : wordN false (102 :: 62 :: r) = 1 := by
  simp [wordN_cons, goesOn, begins, within, goesHigh]
theorem scF_32 (r : Bytes) : wordN true (102 :: 32 :: r) = 1 := by
  simp [wordN_cons, goesOn, begins, within, goesHigh]
theorem scF_47 (r : Bytes) : wordN true (102 :: 47 :: r) = 1 := by
  simp [wordN_cons, goesOn, begins, within, goesHigh]
theorem scF_59 (r : Bytes) : wordN true (102 :: 59 :: r) = 1 := by
  simp [wordN_cons, goesOn, begins, within, goesHigh]
theorem scF_61 (r : Bytes) : wordN true (102 :: 61 :: r) = 1 := by
  simp [wordN_cons, goesOn, begins, within, goesHigh]
theorem scF_62 (r : Bytes) : wordN true (102 :: 62 :: r) = 1 := by
  simp [wordN_cons, goesOn, begins, within, goesHigh]
def docE (s : Bytes) (attr : Bool) : Bytes := [60, 33, 68, 79, 67, 84, 89, 80, 69, 32, 97, 32, 91, 60, 33, 69, 78, 84, 73, 84, 89, 32, 102, 32, 39] ++ (s ++ (if attr then [39, 62, 60, 33, 69, 78, 84, 73, 84, 89, 32, 101, 32, 39, 38, 102, 59, 39, 62, 93, 62, 60, 97, 32, 98, 61, 39, 38, 101, 59, 38, 101, 59, 39, 47, 62] else [39, 62, 60, 33, 69, 78, 84, 73, 84, 89, 32, 101, 32, 39, 38, 102, 59, 39, 62, 93, 62, 60, 97, 62, 120, 38, 101, 59, 121, 60, 47, 97, 62]))
def docV (s : Bytes) : Bytes := [60, 97, 32, 98, 61, 39] ++ (s ++ [39, 47, 62])
def toksE (s : Bytes) (attr : Bool) : List Tok := if attr then [⟨2, [97], [([98], s ++ s)], []⟩, ⟨7, [97], [], []⟩] else [⟨2, [97], [], []⟩, ⟨4, [], [], 120 :: (s ++ [121])⟩, ⟨7, [97], [], []⟩]

set_option maxHeartbeats 4000000 in
set_option maxRecDepth 100000 in
theorem scanET (s : Bytes) (h0 : s.all fine = true) (h3 : s.length ≤ 2000) : scan (docE s false) = .ok (toksE s false) := by
  obtain ⟨D, hD⟩ : ∃ D, D = docE s false := ⟨_, rfl⟩
  rw [← hD]
  have h : DocIs D [60, 33, 68, 79, 67, 84, 89, 80, 69, 32, 97, 32, 91, 60, 33, 69, 78, 84, 73, 84, 89, 32, 102, 32, 39] s [39, 62, 60, 33, 69, 78, 84, 73, 84, 89, 32, 101, 32, 39, 38, 102, 59, 39, 62, 93, 62, 60, 97, 62, 120, 38, 101, 59, 121, 60, 47, 97, 62] := ⟨h0, by omega, by rw [hD]; rfl⟩
  have hlo : ∀ k, k ≤ 25 → D.drop k = ([60, 33, 68, 79, 67, 84, 89, 80, 69, 32, 97, 32, 91, 60, 33, 69, 78, 84, 73, 84, 89, 32, 102, 32, 39] : Bytes).drop k ++ (s ++ [39, 62, 60, 33, 69, 78, 84, 73, 84, 89, 32, 101, 32, 39, 38, 102, 59, 39, 62, 93, 62, 60, 97, 62, 120, 38, 101, 59, 121, 60, 47, 97, 62]) := fun k hk => h.lo hk
  have hhi : ∀ k, D.drop (s.length + (25 + k)) = ([39, 62, 60, 33, 69, 78, 84, 73, 84, 89, 32, 101, 32, 39, 38, 102, 59, 39, 62, 93, 62, 60, 97, 62, 120, 38, 101, 59, 121, 60, 47, 97, 62] : Bytes).drop k := fun k => h.hi rfl
  have hz : D.length = 25 + s.length + 33 := h.size
  have hb : badAt D.length D 0 = none := badAt_print _ _ _ (by
    rw [h.all]
    have hp := fine_print h0
    intro c hc
    simp only [List.mem_append] at hc
    have lits : ∀ l : Bytes, l.all (fun c => decide (32 ≤ c.toNat) && decide (c.toNat ≤ 126)) = true → c ∈ l → 32 ≤ c.toNat ∧ c.toNat ≤ 126 := fun l hl hm => by
      have := List.all_eq_true.1 hl c hm
      simpa using this
    rcases hc with hc | hc | hc
    · exact lits _ (by decide) hc
    · exact hp c hc
    · exact lits _ (by decide) hc)
  have f0 : ∀ t o x b e g d, has ⟨D.toArray⟩ ⟨0, t, o, x, b, e, g, d⟩ [60, 63, 120, 109, 108] = false := fun t o x b e g d => by
    rw [has_ev, show D.drop (St.pos ⟨0, t, o, x, b, e, g, d⟩) = _ from hlo 0 (by decide)]
    rfl
  have f1 : 0 < D.length := by omega
  have f2 : 0 ≤ D.length := by omega
  have f3 : ∀ t o x b e g d, blanks ⟨D.toArray⟩ ⟨0, t, o, x, b, e, g, d⟩ = (false, ⟨0, t, o, x, b, e, g, d⟩) := fun t o x b e g d => (blanks_ev (D := D) (σ := ⟨0, t, o, x, b, e, g, d⟩) f2).trans (by
    rw [show D.drop (St.pos ⟨0, t, o, x, b, e, g, d⟩) = _ from hlo 0 (by decide)]
    rfl)
  have f4 : ∀ t o x b e g d, has ⟨D.toArray⟩ ⟨0, t, o, x, b, e, g, d⟩ [60, 33, 45, 45] = false := fun t o x b e g d => by
    rw [has_ev, show D.drop (St.pos ⟨0, t, o, x, b, e, g, d⟩) = _ from hlo 0 (by decide)]
    rfl
  have f5 : ∀ t o x b e g d, has ⟨D.toArray⟩ ⟨0, t, o, x, b, e, g, d⟩ [60, 63] = false := fun t o x b e g d => by
    rw [has_ev, show D.drop (St.pos ⟨0, t, o, x, b, e, g, d⟩) = _ from hlo 0 (by decide)]
    rfl
  have f6 : ∀ t o x b e g d, has ⟨D.toArray⟩ ⟨0, t, o, x, b, e, g, d⟩ [60, 33, 68, 79, 67, 84, 89, 80, 69] = true := fun t o x b e g d => by
    rw [has_ev, show D.drop (St.pos ⟨0, t, o, x, b, e, g, d⟩) = _ from hlo 0 (by decide)]
    rfl
  have f7 : 9 ≤ D.length := by omega
  have f8 : ∀ t o x b e g d, blanks ⟨D.toArray⟩ ⟨9, t, o, x, b, e, g, d⟩ = (true, ⟨10, t, o, x, b, e, g, d⟩) := fun t o x b e g d => (blanks_ev (D := D) (σ := ⟨9, t, o, x, b, e, g, d⟩) f7).trans (by
    rw [show D.drop (St.pos ⟨9, t, o, x, b, e, g, d⟩) = _ from hlo 9 (by decide)]
    rfl)
  have f9 : ∀ t o x b e g d, qname ⟨D.toArray⟩ ⟨10, t, o, x, b, e, g, d⟩ = (([97], true), ⟨11, t, o, x, b, e, g, d⟩) := fun t o x b e g d => by
    have hw : wordN true (D.drop (St.pos ⟨10, t, o, x, b, e, g, d⟩)) = 1 := by
      rw [show D.drop (St.pos ⟨10, t, o, x, b, e, g, d⟩) = _ from hlo 10 (by decide)]
      exact scA_32 _
    have ht : (D.drop (St.pos ⟨10, t, o, x, b, e, g, d⟩)).take 1 = [97] := by
      rw [show D.drop (St.pos ⟨10, t, o, x, b, e, g, d⟩) = _ from hlo 10 (by decide)]
      rfl
    unfold qname
    simp only [word_ev, hw, ht]
    rw [show (split [97]).isSome = true from qA]
    rfl
  have f10 : 11 ≤ D.length := by omega
  have f11 : ∀ t o x b e g d, blanks ⟨D.toArray⟩ ⟨11, t, o, x, b, e, g, d⟩ = (true, ⟨12, t, o, x, b, e, g, d⟩) := fun t o x b e g d => (blanks_ev (D := D) (σ := ⟨11, t, o, x, b, e, g, d⟩) f10).trans (by
    rw [show D.drop (St.pos ⟨11, t, o, x, b, e, g, d⟩) = _ from hlo 11 (by decide)]
    rfl)
  have f12 : ∀ t o x b e g d, has ⟨D.toArray⟩ ⟨12, t, o, x, b, e, g, d⟩ [91] = true := fun t o x b e g d => by
    rw [has_ev, show D.drop (St.pos ⟨12, t, o, x, b, e, g, d⟩) = _ from hlo 12 (by decide)]
    rfl
  have f13 : ∀ t o x b e g d, eat ⟨D.toArray⟩ ⟨12, t, o, x, b, e, g, d⟩ [91] = (true, ⟨13, t, o, x, b, e, g, d⟩) := fun t o x b e g d => by
    unfold eat
    rw [f12]
    rfl
  have f14 : 13 ≤ D.length := by omega
  have f15 : ∀ t o x b e g d, blanks ⟨D.toArray⟩ ⟨13, t, o, x, b, e, g, d⟩ = (false, ⟨13, t, o, x, b, e, g, d⟩) := fun t o x b e g d => (blanks_ev (D := D) (σ := ⟨13, t, o, x, b, e, g, d⟩) f14).trans (by
    rw [show D.drop (St.pos ⟨13, t, o, x, b, e, g, d⟩) = _ from hlo 13 (by decide)]
    rfl)
  have f16 : ∀ t o x b e g d, has ⟨D.toArray⟩ ⟨13, t, o, x, b, e, g, d⟩ [60, 33, 45, 45] = false := fun t o x b e g d => by
    rw [has_ev, show D.drop (St.pos ⟨13, t, o, x, b, e, g, d⟩) = _ from hlo 13 (by decide)]
    rfl
  have f17 : ∀ t o x b e g d, has ⟨D.toArray⟩ ⟨13, t, o, x, b, e, g, d⟩ [60, 63] = false := fun t o x b e g d => by
    rw [has_ev, show D.drop (St.pos ⟨13, t, o, x, b, e, g, d⟩) = _ from hlo 13 (by decide)]
    rfl
  have f18 : ∀ t o x b e g d, has ⟨D.toArray⟩ ⟨13, t, o, x, b, e, g, d⟩ [60, 33, 69, 78, 84, 73, 84, 89] = true := fun t o x b e g d => by
    rw [has_ev, show D.drop (St.pos ⟨13, t, o, x, b, e, g, d⟩) = _ from hlo 13 (by decide)]
    rfl
  have f19 : 21 ≤ D.length := by omega
  have f20 : ∀ t o x b e g d, blanks ⟨D.toArray⟩ ⟨21, t, o, x, b, e, g, d⟩ = (true, ⟨22, t, o, x, b, e, g, d⟩) := fun t o x b e g d => (blanks_ev (D := D) (σ := ⟨21, t, o, x, b, e, g, d⟩) f19).trans (by
    rw [show D.drop (St.pos ⟨21, t, o, x, b, e, g, d⟩) = _ from hlo 21 (by decide)]
    rfl)
  have f21 : ∀ t o x b e g d, name ⟨D.toArray⟩ ⟨22, t, o, x, b, e, g, d⟩ = (([102], true), ⟨23, t, o, x, b, e, g, d⟩) := fun t o x b e g d => by
    have hw : wordN false (D.drop (St.pos ⟨22, t, o, x, b, e, g, d⟩)) = 1 := by
      rw [show D.drop (St.pos ⟨22, t, o, x, b, e, g, d⟩) = _ from hlo 22 (by decide)]
      exact snF_32 _
    have ht : (D.drop (St.pos ⟨22, t, o, x, b, e, g, d⟩)).take 1 = [102] := by
      rw [show D.drop (St.pos ⟨22, t, o, x, b, e, g, d⟩) = _ from hlo 22 (by decide)]
      rfl
    unfold name
    simp only [word_ev, hw, ht]
    rw [show isName [102] = true from nF]
    rfl
  have f22 : 23 ≤ D.length := by omega
  have f23 : ∀ t o x b e g d, blanks ⟨D.toArray⟩ ⟨23, t, o, x, b, e, g, d⟩ = (true, ⟨24, t, o, x, b, e, g, d⟩) := fun t o x b e g d => (blanks_ev (D := D) (σ := ⟨23, t, o, x, b, e, g, d⟩) f22).trans (by
    rw [show D.drop (St.pos ⟨23, t, o, x, b, e, g, d⟩) = _ from hlo 23 (by decide)]
    rfl)
  have f24 : ∀ t o x b e g d, has ⟨D.toArray⟩ ⟨24, t, o, x, b, e, g, d⟩ [39] = true := fun t o x b e g d => by
    rw [has_ev, show D.drop (St.pos ⟨24, t, o, x, b, e, g, d⟩) = _ from hlo 24 (by decide)]
    rfl
  have f25 : ∀ t o x b e g d, quoted ⟨D.toArray⟩ ⟨24, t, o, x, b, e, g, d⟩ = ((s, true), ⟨s.length + 26, t, o, x, b, e, g, d⟩) := fun t o x b e g d => by
    unfold quoted sign
    rw [f24]
    have hu := upto_ev (D := D) (σ := ⟨25, t, o, x, b, e, g, d⟩) (a := s) (c := 39) (r := D.drop (s.length + 26)) (by
      rw [show D.drop (St.pos _) = _ from hlo 25 (by decide), show D.drop (s.length + 26) = _ from hhi 1]
      rfl) (by exact fine_not h.fine (by decide))
    simp only [if_true, St.to]
    refine (show upto _ _ _ = _ from hu).trans ?_
    simp only [St.to]
    rw [show 25 + s.length + 1 = s.length + 26 by omega]
  have f26 : s.length + 26 ≤ D.length := by omega
  have f27 : ∀ t o x b e g d, blanks ⟨D.toArray⟩ ⟨s.length + 26, t, o, x, b, e, g, d⟩ = (false, ⟨s.length + 26, t, o, x, b, e, g, d⟩) := fun t o x b e g d => (blanks_ev (D := D) (σ := ⟨s.length + 26, t, o, x, b, e, g, d⟩) f26).trans (by
    rw [show D.drop (St.pos ⟨s.length + 26, t, o, x, b, e, g, d⟩) = _ from hhi 1]
    rfl)
  have f28 : ∀ t o x b e g d, has ⟨D.toArray⟩ ⟨s.length + 26, t, o, x, b, e, g, d⟩ [62] = true := fun t o x b e g d => by
    rw [has_ev, show D.drop (St.pos ⟨s.length + 26, t, o, x, b, e, g, d⟩) = _ from hhi 1]
    rfl
  have f29 : ∀ t o x b e g d, eat ⟨D.toArray⟩ ⟨s.length + 26, t, o, x, b, e, g, d⟩ [62] = (true, ⟨s.length + 27, t, o, x, b, e, g, d⟩) := fun t o x b e g d => by
    unfold eat
    rw [f28]
    rfl
  have f30 : s.length + 27 ≤ D.length := by omega
  have f31 : ∀ t o x b e g d, blanks ⟨D.toArray⟩ ⟨s.length + 27, t, o, x, b, e, g, d⟩ = (false, ⟨s.length + 27, t, o, x, b, e, g, d⟩) := fun t o x b e g d => (blanks_ev (D := D) (σ := ⟨s.length + 27, t, o, x, b, e, g, d⟩) f30).trans (by
    rw [show D.drop (St.pos ⟨s.length + 27, t, o, x, b, e, g, d⟩) = _ from hhi 2]
    rfl)
  have f32 : ∀ t o x b e g d, has ⟨D.toArray⟩ ⟨s.length + 27, t, o, x, b, e, g, d⟩ [60, 33, 45, 45] = false := fun t o x b e g d => by
    rw [has_ev, show D.drop (St.pos ⟨s.length + 27, t, o, x, b, e, g, d⟩) = _ from hhi 2]
    rfl
  have f33 : ∀ t o x b e g d, has ⟨D.toArray⟩ ⟨s.length + 27, t, o, x, b, e, g, d⟩ [60, 63] = false := fun t o x b e g d => by
    rw [has_ev, show D.drop (St.pos ⟨s.length + 27, t, o, x, b, e, g, d⟩) = _ from hhi 2]
    rfl
  have f34 : ∀ t o x b e g d, has ⟨D.toArray⟩ ⟨s.length + 27, t, o, x, b, e, g, d⟩ [60, 33, 69, 78, 84, 73, 84, 89] = true := fun t o x b e g d => by
    rw [has_ev, show D.drop (St.pos ⟨s.length + 27, t, o, x, b, e, g, d⟩) = _ from hhi 2]
    rfl
  have f35 : s.length + 35 ≤ D.length := by omega
  have f36 : ∀ t o x b e g d, blanks ⟨D.toArray⟩ ⟨s.length + 35, t, o, x, b, e, g, d⟩ = (true, ⟨s.length + 36, t, o, x, b, e, g, d⟩) := fun t o x b e g d => (blanks_ev (D := D) (σ := ⟨s.length + 35, t, o, x, b, e, g, d⟩) f35).trans (by
    rw [show D.drop (St.pos ⟨s.length + 35, t, o, x, b, e, g, d⟩) = _ from hhi 10]
    rfl)
  have f37 : ∀ t o x b e g d, name ⟨D.toArray⟩ ⟨s.length + 36, t, o, x, b, e, g, d⟩ = (([101], true), ⟨s.length + 37, t, o, x, b, e, g, d⟩) := fun t o x b e g d => by
    have hw : wordN false (D.drop (St.pos ⟨s.length + 36, t, o, x, b, e, g, d⟩)) = 1 := by
      rw [show D.drop (St.pos ⟨s.length + 36, t, o, x, b, e, g, d⟩) = _ from hhi 11]
      exact snE_32 _
    have ht : (D.drop (St.pos ⟨s.length + 36, t, o, x, b, e, g, d⟩)).take 1 = [101] := by
      rw [show D.drop (St.pos ⟨s.length + 36, t, o, x, b, e, g, d⟩) = _ from hhi 11]
      rfl
    unfold name
    simp only [word_ev, hw, ht]
    rw [show isName [101] = true from nE]
    rfl
  have f38 : s.length + 37 ≤ D.length := by omega
  have f39 : ∀ t o x b e g d, blanks ⟨D.toArray⟩ ⟨s.length + 37, t, o, x, b, e, g, d⟩ = (true, ⟨s.length + 38, t, o, x, b, e, g, d⟩) := fun t o x b e g d => (blanks_ev (D := D) (σ := ⟨s.length + 37, t, o, x, b, e, g, d⟩) f38).trans (by
    rw [show D.drop (St.pos ⟨s.length + 37, t, o, x, b, e, g, d⟩) = _ from hhi 12]
    rfl)
  have f40 : ∀ t o x b e g d, has ⟨D.toArray⟩ ⟨s.length + 38, t, o, x, b, e, g, d⟩ [39] = true := fun t o x b e g d => by
    rw [has_ev, show D.drop (St.pos ⟨s.length + 38, t, o, x, b, e, g, d⟩) = _ from hhi 13]
    rfl
  have f41 : ∀ t o x b e g d, quoted ⟨D.toArray⟩ ⟨s.length + 38, t, o, x, b, e, g, d⟩ = (([38, 102, 59], true), ⟨s.length + 43, t, o, x, b, e, g, d⟩) := fun t o x b e g d => by
    unfold quoted sign
    rw [f40]
    have hu := upto_ev (D := D) (σ := ⟨s.length + 39, t, o, x, b, e, g, d⟩) (a := [38, 102, 59]) (c := 39) (r := D.drop (s.length + 43)) (by
      rw [show D.drop (St.pos _) = _ from hhi 14, show D.drop (s.length + 43) = _ from hhi 18]
      rfl) (by decide)
    simp only [if_true, St.to]
    refine (show upto _ _ _ = _ from hu).trans ?_
    simp only [St.to, List.length_cons, List.length_nil]
  have f42 : s.length + 43 ≤ D.length := by omega
  have f43 : ∀ t o x b e g d, blanks ⟨D.toArray⟩ ⟨s.length + 43, t, o, x, b, e, g, d⟩ = (false, ⟨s.length + 43, t, o, x, b, e, g, d⟩) := fun t o x b e g d => (blanks_ev (D := D) (σ := ⟨s.length + 43, t, o, x, b, e, g, d⟩) f42).trans (by
    rw [show D.drop (St.pos ⟨s.length + 43, t, o, x, b, e, g, d⟩) = _ from hhi 18]
    rfl)
  have f44 : ∀ t o x b e g d, has ⟨D.toArray⟩ ⟨s.length + 43, t, o, x, b, e, g, d⟩ [62] = true := fun t o x b e g d => by
    rw [has_ev, show D.drop (St.pos ⟨s.length + 43, t, o, x, b, e, g, d⟩) = _ from hhi 18]
    rfl
  have f45 : ∀ t o x b e g d, eat ⟨D.toArray⟩ ⟨s.length + 43, t, o, x, b, e, g, d⟩ [62] = (true, ⟨s.length + 44, t, o, x, b, e, g, d⟩) := fun t o x b e g d => by
    unfold eat
    rw [f44]
    rfl
  have f46 : s.length + 44 ≤ D.length := by omega
  have f47 : ∀ t o x b e g d, blanks ⟨D.toArray⟩ ⟨s.length + 44, t, o, x, b, e, g, d⟩ = (false, ⟨s.length + 44, t, o, x, b, e, g, d⟩) := fun t o x b e g d => (blanks_ev (D := D) (σ := ⟨s.length + 44, t, o, x, b, e, g, d⟩) f46).trans (by
    rw [show D.drop (St.pos ⟨s.length + 44, t, o, x, b, e, g, d⟩) = _ from hhi 19]
    rfl)
  have f48 : ∀ t o x b e g d, has ⟨D.toArray⟩ ⟨s.length + 44, t, o, x, b, e, g, d⟩ [60, 33, 45, 45] = false := fun t o x b e g d => by
    rw [has_ev, show D.drop (St.pos ⟨s.length + 44, t, o, x, b, e, g, d⟩) = _ from hhi 19]
    rfl
  have f49 : ∀ t o x b e g d, has ⟨D.toArray⟩ ⟨s.length + 44, t, o, x, b, e, g, d⟩ [60, 63] = false := fun t o x b e g d => by
    rw [has_ev, show D.drop (St.pos ⟨s.length + 44, t, o, x, b, e, g, d⟩) = _ from hhi 19]
    rfl
  have f50 : ∀ t o x b e g d, has ⟨D.toArray⟩ ⟨s.length + 44, t, o, x, b, e, g, d⟩ [60, 33, 69, 78, 84, 73, 84, 89] = false := fun t o x b e g d => by
    rw [has_ev, show D.drop (St.pos ⟨s.length + 44, t, o, x, b, e, g, d⟩) = _ from hhi 19]
    rfl
  have f51 : ∀ t o x b e g d, has ⟨D.toArray⟩ ⟨s.length + 44, t, o, x, b, e, g, d⟩ [93] = true := fun t o x b e g d => by
    rw [has_ev, show D.drop (St.pos ⟨s.length + 44, t, o, x, b, e, g, d⟩) = _ from hhi 19]
    rfl
  have f52 : ∀ t o x b e g d, eat ⟨D.toArray⟩ ⟨s.length + 44, t, o, x, b, e, g, d⟩ [93] = (true, ⟨s.length + 45, t, o, x, b, e, g, d⟩) := fun t o x b e g d => by
    unfold eat
    rw [f51]
    rfl
  have f53 : s.length + 45 ≤ D.length := by omega
  have f54 : ∀ t o x b e g d, blanks ⟨D.toArray⟩ ⟨s.length + 45, t, o, x, b, e, g, d⟩ = (false, ⟨s.length + 45, t, o, x, b, e, g, d⟩) := fun t o x b e g d => (blanks_ev (D := D) (σ := ⟨s.length + 45, t, o, x, b, e, g, d⟩) f53).trans (by
    rw [show D.drop (St.pos ⟨s.length + 45, t, o, x, b, e, g, d⟩) = _ from hhi 20]
    rfl)
  have f55 : ∀ t o x b e g d, has ⟨D.toArray⟩ ⟨s.length + 45, t, o, x, b, e, g, d⟩ [62] = true := fun t o x b e g d => by
    rw [has_ev, show D.drop (St.pos ⟨s.length + 45, t, o, x, b, e, g, d⟩) = _ from hhi 20]
    rfl
  have f56 : ∀ t o x b e g d, eat ⟨D.toArray⟩ ⟨s.length + 45, t, o, x, b, e, g, d⟩ [62] = (true, ⟨s.length + 46, t, o, x, b, e, g, d⟩) := fun t o x b e g d => by
    unfold eat
    rw [f55]
    rfl
  have f57 : s.length + 46 < D.length := by omega
  have f58 : s.length + 46 ≤ D.length := by omega
  have f59 : ∀ t o x b e g d, blanks ⟨D.toArray⟩ ⟨s.length + 46, t, o, x, b, e, g, d⟩ = (false, ⟨s.length + 46, t, o, x, b, e, g, d⟩) := fun t o x b e g d => (blanks_ev (D := D) (σ := ⟨s.length + 46, t, o, x, b, e, g, d⟩) f58).trans (by
    rw [show D.drop (St.pos ⟨s.length + 46, t, o, x, b, e, g, d⟩) = _ from hhi 21]
    rfl)
  have f60 : ∀ t o x b e g d, has ⟨D.toArray⟩ ⟨s.length + 46, t, o, x, b, e, g, d⟩ [60, 33, 45, 45] = false := fun t o x b e g d => by
    rw [has_ev, show D.drop (St.pos ⟨s.length + 46, t, o, x, b, e, g, d⟩) = _ from hhi 21]
    rfl
  have f61 : ∀ t o x b e g d, has ⟨D.toArray⟩ ⟨s.length + 46, t, o, x, b, e, g, d⟩ [60, 63] = false := fun t o x b e g d => by
    rw [has_ev, show D.drop (St.pos ⟨s.length + 46, t, o, x, b, e, g, d⟩) = _ from hhi 21]
    rfl
  have f62 : ∀ t o x b e g d, has ⟨D.toArray⟩ ⟨s.length + 46, t, o, x, b, e, g, d⟩ [60, 33, 68, 79, 67, 84, 89, 80, 69] = false := fun t o x b e g d => by
    rw [has_ev, show D.drop (St.pos ⟨s.length + 46, t, o, x, b, e, g, d⟩) = _ from hhi 21]
    rfl
  have f63 : ∀ t o x b e g d, has ⟨D.toArray⟩ ⟨s.length + 46, t, o, x, b, e, g, d⟩ [60] = true := fun t o x b e g d => by
    rw [has_ev, show D.drop (St.pos ⟨s.length + 46, t, o, x, b, e, g, d⟩) = _ from hhi 21]
    rfl
  have f64 : ∀ t o x b e g d, has ⟨D.toArray⟩ ⟨s.length + 46, t, o, x, b, e, g, d⟩ [60, 47] = false := fun t o x b e g d => by
    rw [has_ev, show D.drop (St.pos ⟨s.length + 46, t, o, x, b, e, g, d⟩) = _ from hhi 21]
    rfl
  have f65 : ∀ t o x b e g d, has ⟨D.toArray⟩ ⟨s.length + 46, t, o, x, b, e, g, d⟩ [60, 33] = false := fun t o x b e g d => by
    rw [has_ev, show D.drop (St.pos ⟨s.length + 46, t, o, x, b, e, g, d⟩) = _ from hhi 21]
    rfl
  have f66 : ∀ t o x b e g d, qname ⟨D.toArray⟩ ⟨s.length + 47, t, o, x, b, e, g, d⟩ = (([97], true), ⟨s.length + 48, t, o, x, b, e, g, d⟩) := fun t o x b e g d => by
    have hw : wordN true (D.drop (St.pos ⟨s.length + 47, t, o, x, b, e, g, d⟩)) = 1 := by
      rw [show D.drop (St.pos ⟨s.length + 47, t, o, x, b, e, g, d⟩) = _ from hhi 22]
      exact scA_62 _
    have ht : (D.drop (St.pos ⟨s.length + 47, t, o, x, b, e, g, d⟩)).take 1 = [97] := by
      rw [show D.drop (St.pos ⟨s.length + 47, t, o, x, b, e, g, d⟩) = _ from hhi 22]
      rfl
    unfold qname
    simp only [word_ev, hw, ht]
    rw [show (split [97]).isSome = true from qA]
    rfl
  have f67 : s.length + 48 ≤ D.length := by omega
  have f68 : ∀ t o x b e g d, blanks ⟨D.toArray⟩ ⟨s.length + 48, t, o, x, b, e, g, d⟩ = (false, ⟨s.length + 48, t, o, x, b, e, g, d⟩) := fun t o x b e g d => (blanks_ev (D := D) (σ := ⟨s.length + 48, t, o, x, b, e, g, d⟩) f67).trans (by
    rw [show D.drop (St.pos ⟨s.length + 48, t, o, x, b, e, g, d⟩) = _ from hhi 23]
    rfl)
  have f69 : s.length + 48 < D.length := by omega
  have f70 : ∀ t o x b e g d, has ⟨D.toArray⟩ ⟨s.length + 48, t, o, x, b, e, g, d⟩ [62] = true := fun t o x b e g d => by
    rw [has_ev, show D.drop (St.pos ⟨s.length + 48, t, o, x, b, e, g, d⟩) = _ from hhi 23]
    rfl
  have f71 : ∀ t o x b e g d, has ⟨D.toArray⟩ ⟨s.length + 48, t, o, x, b, e, g, d⟩ [47, 62] = false := fun t o x b e g d => by
    rw [has_ev, show D.drop (St.pos ⟨s.length + 48, t, o, x, b, e, g, d⟩) = _ from hhi 23]
    rfl
  have f72 : s.length + 49 < D.length := by omega
  have f73 : ∀ t o x b e g d, has ⟨D.toArray⟩ ⟨s.length + 49, t, o, x, b, e, g, d⟩ [60, 47] = false := fun t o x b e g d => by
    rw [has_ev, show D.drop (St.pos ⟨s.length + 49, t, o, x, b, e, g, d⟩) = _ from hhi 24]
    rfl
  have f74 : ∀ t o x b e g d, has ⟨D.toArray⟩ ⟨s.length + 49, t, o, x, b, e, g, d⟩ [60, 33, 45, 45] = false := fun t o x b e g d => by
    rw [has_ev, show D.drop (St.pos ⟨s.length + 49, t, o, x, b, e, g, d⟩) = _ from hhi 24]
    rfl
  have f75 : ∀ t o x b e g d, has ⟨D.toArray⟩ ⟨s.length + 49, t, o, x, b, e, g, d⟩ [60, 63] = false := fun t o x b e g d => by
    rw [has_ev, show D.drop (St.pos ⟨s.length + 49, t, o, x, b, e, g, d⟩) = _ from hhi 24]
    rfl
  have f76 : ∀ t o x b e g d, has ⟨D.toArray⟩ ⟨s.length + 49, t, o, x, b, e, g, d⟩ [60, 33, 91, 67, 68, 65, 84, 65, 91] = false := fun t o x b e g d => by
    rw [has_ev, show D.drop (St.pos ⟨s.length + 49, t, o, x, b, e, g, d⟩) = _ from hhi 24]
    rfl
  have f77 : ∀ t o x b e g d, eat ⟨D.toArray⟩ ⟨s.length + 49, t, o, x, b, e, g, d⟩ [60, 33, 91, 67, 68, 65, 84, 65, 91] = (false, ⟨s.length + 49, t, o, x, b, e, g, d⟩) := fun t o x b e g d => by
    unfold eat
    rw [f76]
    rfl
  have f78 : ∀ t o x b e g d, has ⟨D.toArray⟩ ⟨s.length + 49, t, o, x, b, e, g, d⟩ [60] = false := fun t o x b e g d => by
    rw [has_ev, show D.drop (St.pos ⟨s.length + 49, t, o, x, b, e, g, d⟩) = _ from hhi 24]
    rfl
  have f79 : ∀ t o x b e g d, has ⟨D.toArray⟩ ⟨s.length + 49, t, o, x, b, e, g, d⟩ [38] = false := fun t o x b e g d => by
    rw [has_ev, show D.drop (St.pos ⟨s.length + 49, t, o, x, b, e, g, d⟩) = _ from hhi 24]
    rfl
  have f80 : ∀ t o x b e g d, has ⟨D.toArray⟩ ⟨s.length + 49, t, o, x, b, e, g, d⟩ [93, 93, 62] = false := fun t o x b e g d => by
    rw [has_ev, show D.drop (St.pos ⟨s.length + 49, t, o, x, b, e, g, d⟩) = _ from hhi 24]
    rfl
  have f81 : ∀ t o x b e g d, rest ⟨D.toArray⟩ ⟨s.length + 49, t, o, x, b, e, g, d⟩ = 120 :: D.drop (s.length + 50) := fun t o x b e g d => by
    rw [rest_ev, show D.drop (St.pos ⟨s.length + 49, t, o, x, b, e, g, d⟩) = _ from hhi 24, show D.drop (s.length + 50) = _ from hhi 25]
    rfl
  have f82 : s.length + 50 < D.length := by omega
  have f83 : ∀ t o x b e g d, has ⟨D.toArray⟩ ⟨s.length + 50, t, o, x, b, e, g, d⟩ [60, 47] = false := fun t o x b e g d => by
    rw [has_ev, show D.drop (St.pos ⟨s.length + 50, t, o, x, b, e, g, d⟩) = _ from hhi 25]
    rfl
  have f84 : ∀ t o x b e g d, has ⟨D.toArray⟩ ⟨s.length + 50, t, o, x, b, e, g, d⟩ [60, 33, 45, 45] = false := fun t o x b e g d => by
    rw [has_ev, show D.drop (St.pos ⟨s.length + 50, t, o, x, b, e, g, d⟩) = _ from hhi 25]
    rfl
  have f85 : ∀ t o x b e g d, has ⟨D.toArray⟩ ⟨s.length + 50, t, o, x, b, e, g, d⟩ [60, 63] = false := fun t o x b e g d => by
    rw [has_ev, show D.drop (St.pos ⟨s.length + 50, t, o, x, b, e, g, d⟩) = _ from hhi 25]
    rfl
  have f86 : ∀ t o x b e g d, has ⟨D.toArray⟩ ⟨s.length + 50, t, o, x, b, e, g, d⟩ [60, 33, 91, 67, 68, 65, 84, 65, 91] = false := fun t o x b e g d => by
    rw [has_ev, show D.drop (St.pos ⟨s.length + 50, t, o, x, b, e, g, d⟩) = _ from hhi 25]
    rfl
  have f87 : ∀ t o x b e g d, eat ⟨D.toArray⟩ ⟨s.length + 50, t, o, x, b, e, g, d⟩ [60, 33, 91, 67, 68, 65, 84, 65, 91] = (false, ⟨s.length + 50, t, o, x, b, e, g, d⟩) := fun t o x b e g d => by
    unfold eat
    rw [f86]
    rfl
  have f88 : ∀ t o x b e g d, has ⟨D.toArray⟩ ⟨s.length + 50, t, o, x, b, e, g, d⟩ [60] = false := fun t o x b e g d => by
    rw [has_ev, show D.drop (St.pos ⟨s.length + 50, t, o, x, b, e, g, d⟩) = _ from hhi 25]
    rfl
  have f89 : ∀ t o x b e g d, has ⟨D.toArray⟩ ⟨s.length + 50, t, o, x, b, e, g, d⟩ [38] = true := fun t o x b e g d => by
    rw [has_ev, show D.drop (St.pos ⟨s.length + 50, t, o, x, b, e, g, d⟩) = _ from hhi 25]
    rfl
  have f90 : ∀ t o x b e g d at_, refM ⟨D.toArray⟩ ⟨s.length + 50, t, o, x, b, e, g, d⟩ at_ = match expandN e at_ (s.length + 50 : Nat) 8 [] [101] [] g with | .error x => .error x | .ok (o', k) => .ok (o', ⟨s.length + 53, t, o, x, b, e, k, d⟩) := fun t o x b e g d at_ => by
    have hr := ref_ev (n := [101]) (r := D.drop (s.length + 53)) nE (by decide) (by decide)
    have hd : rest ⟨D.toArray⟩ ⟨s.length + 50, t, o, x, b, e, g, d⟩ = 38 :: ([101] ++ 59 :: D.drop (s.length + 53)) := by
      rw [rest_ev, show D.drop (St.pos ⟨s.length + 50, t, o, x, b, e, g, d⟩) = _ from hhi 25, show D.drop (s.length + 53) = _ from hhi 28]
      rfl
    unfold refM
    rw [hd, hr.1, hr.2]
    simp only [St.to]
    rfl
  have f91 : s.length + 53 < D.length := by omega
  have f92 : ∀ t o x b e g d, has ⟨D.toArray⟩ ⟨s.length + 53, t, o, x, b, e, g, d⟩ [60, 47] = false := fun t o x b e g d => by
    rw [has_ev, show D.drop (St.pos ⟨s.length + 53, t, o, x, b, e, g, d⟩) = _ from hhi 28]
    rfl
  have f93 : ∀ t o x b e g d, has ⟨D.toArray⟩ ⟨s.length + 53, t, o, x, b, e, g, d⟩ [60, 33, 45, 45] = false := fun t o x b e g d => by
    rw [has_ev, show D.drop (St.pos ⟨s.length + 53, t, o, x, b, e, g, d⟩) = _ from hhi 28]
    rfl
  have f94 : ∀ t o x b e g d, has ⟨D.toArray⟩ ⟨s.length + 53, t, o, x, b, e, g, d⟩ [60, 63] = false := fun t o x b e g d => by
    rw [has_ev, show D.drop (St.pos ⟨s.length + 53, t, o, x, b, e, g, d⟩) = _ from hhi 28]
    rfl
  have f95 : ∀ t o x b e g d, has ⟨D.toArray⟩ ⟨s.length + 53, t, o, x, b, e, g, d⟩ [60, 33, 91, 67, 68, 65, 84, 65, 91] = false := fun t o x b e g d => by
    rw [has_ev, show D.drop (St.pos ⟨s.length + 53, t, o, x, b, e, g, d⟩) = _ from hhi 28]
    rfl
  have f96 : ∀ t o x b e g d, eat ⟨D.toArray⟩ ⟨s.length + 53, t, o, x, b, e, g, d⟩ [60, 33, 91, 67, 68, 65, 84, 65, 91] = (false, ⟨s.length + 53, t, o, x, b, e, g, d⟩) := fun t o x b e g d => by
    unfold eat
    rw [f95]
    rfl
  have f97 : ∀ t o x b e g d, has ⟨D.toArray⟩ ⟨s.length + 53, t, o, x, b, e, g, d⟩ [60] = false := fun t o x b e g d => by
    rw [has_ev, show D.drop (St.pos ⟨s.length + 53, t, o, x, b, e, g, d⟩) = _ from hhi 28]
    rfl
  have f98 : ∀ t o x b e g d, has ⟨D.toArray⟩ ⟨s.length + 53, t, o, x, b, e, g, d⟩ [38] = false := fun t o x b e g d => by
    rw [has_ev, show D.drop (St.pos ⟨s.length + 53, t, o, x, b, e, g, d⟩) = _ from hhi 28]
    rfl
  have f99 : ∀ t o x b e g d, has ⟨D.toArray⟩ ⟨s.length + 53, t, o, x, b, e, g, d⟩ [93, 93, 62] = false := fun t o x b e g d => by
    rw [has_ev, show D.drop (St.pos ⟨s.length + 53, t, o, x, b, e, g, d⟩) = _ from hhi 28]
    rfl
  have f100 : ∀ t o x b e g d, rest ⟨D.toArray⟩ ⟨s.length + 53, t, o, x, b, e, g, d⟩ = 121 :: D.drop (s.length + 54) := fun t o x b e g d => by
    rw [rest_ev, show D.drop (St.pos ⟨s.length + 53, t, o, x, b, e, g, d⟩) = _ from hhi 28, show D.drop (s.length + 54) = _ from hhi 29]
    rfl
  have f101 : s.length + 54 < D.length := by omega
  have f102 : ∀ t o x b e g d, has ⟨D.toArray⟩ ⟨s.length + 54, t, o, x, b, e, g, d⟩ [60, 47] = true := fun t o x b e g d => by
    rw [has_ev, show D.drop (St.pos ⟨s.length + 54, t, o, x, b, e, g, d⟩) = _ from hhi 29]
    rfl
  have f103 : ∀ t o x b e g d, qname ⟨D.toArray⟩ ⟨s.length + 56, t, o, x, b, e, g, d⟩ = (([97], true), ⟨s.length + 57, t, o, x, b, e, g, d⟩) := fun t o x b e g d => by
    have hw : wordN true (D.drop (St.pos ⟨s.length + 56, t, o, x, b, e, g, d⟩)) = 1 := by
      rw [show D.drop (St.pos ⟨s.length + 56, t, o, x, b, e, g, d⟩) = _ from hhi 31]
      exact scA_62 _
    have ht : (D.drop (St.pos ⟨s.length + 56, t, o, x, b, e, g, d⟩)).take 1 = [97] := by
      rw [show D.drop (St.pos ⟨s.length + 56, t, o, x, b, e, g, d⟩) = _ from hhi 31]
      rfl
    unfold qname
    simp only [word_ev, hw, ht]
    rw [show (split [97]).isSome = true from qA]
    rfl
  have f104 : s.length + 57 ≤ D.length := by omega
  have f105 : ∀ t o x b e g d, blanks ⟨D.toArray⟩ ⟨s.length + 57, t, o, x, b, e, g, d⟩ = (false, ⟨s.length + 57, t, o, x, b, e, g, d⟩) := fun t o x b e g d => (blanks_ev (D := D) (σ := ⟨s.length + 57, t, o, x, b, e, g, d⟩) f104).trans (by
    rw [show D.drop (St.pos ⟨s.length + 57, t, o, x, b, e, g, d⟩) = _ from hhi 32]
    rfl)
  have f106 : ∀ t o x b e g d, has ⟨D.toArray⟩ ⟨s.length + 57, t, o, x, b, e, g, d⟩ [62] = true := fun t o x b e g d => by
    rw [has_ev, show D.drop (St.pos ⟨s.length + 57, t, o, x, b, e, g, d⟩) = _ from hhi 32]
    rfl
  have f107 : ∀ t o x b e g d, eat ⟨D.toArray⟩ ⟨s.length + 57, t, o, x, b, e, g, d⟩ [62] = (true, ⟨s.length + 58, t, o, x, b, e, g, d⟩) := fun t o x b e g d => by
    unfold eat
    rw [f106]
    rfl
  have f108 : ¬ s.length + 58 < D.length := by omega
  have hq : refsN s = 0 := by have := refsN_fine s [] h0; simpa [refsN] using this
  have ha : ascii s = true := fine_ascii h0
  have hy : hasAny s [60, 37] = false := fine_any h0
  have hrf := ref_ev (n := [102]) (r := []) nF (by decide) (by decide)
  have e1 : refWild [38, 102, 59] = false := hrf.2
  have e2 : reference [38, 102, 59] = some (3, [], [102]) := hrf.1
  have hq2 : refsN [38, 102, 59] = 0 := by simp [refsN, e1, e2]
  have ha2 : ascii [38, 102, 59] = true := rfl
  have hy2 : hasAny [38, 102, 59] [60, 37] = false := rfl
  have fe1 : ∀ t o x b g d, entity ⟨D.toArray⟩ ⟨13, t, o, x, b, [], g, d⟩ = .ok ((), ⟨s.length + 27, t, o, x, b, [([102], s)], g, d⟩) := fun t o x b g d => by
    unfold entity
    simp only [St.to, Nat.reduceAdd, f20, f21, f23, f25, f27, f29]
    simp only [ha, hy, hq, Bool.and_self, Bool.false_eq_true, if_true, if_false, List.lookup, Option.isSome_none, List.nil_append]
  have fe2 : ∀ t o x b g d, entity ⟨D.toArray⟩ ⟨s.length + 27, t, o, x, b, [([102], s)], g, d⟩ = .ok ((), ⟨s.length + 44, t, o, x, b, [([102], s), ([101], [38, 102, 59])], g, d⟩) := fun t o x b g d => by
    unfold entity
    simp only [St.to, Nat.add_assoc, Nat.reduceAdd, f36, f37, f39, f41, f43, f45]
    simp only [ha2, hy2, hq2, Bool.and_self, Bool.false_eq_true, if_true, if_false, show List.lookup ([101] : Bytes) [([102], s)] = none from rfl, Option.isSome_none, List.cons_append, List.nil_append]
  have fd : ∀ m t o x b g d, decls ⟨D.toArray⟩ (m + 1 + 1 + 1) ⟨13, t, o, x, b, [], g, d⟩ = .ok ((), ⟨s.length + 44, t, o, x, b, [([102], s), ([101], [38, 102, 59])], g, d⟩) := fun m t o x b g d => by
    unfold decls
    simp only [f15, f16, f17, f18, fe1, Bool.false_eq_true, if_true, if_false]
    unfold decls
    simp only [f31, f32, f33, f34, fe2, Bool.false_eq_true, if_true, if_false]
    unfold decls
    simp only [f47, f48, f49, f50, Bool.false_eq_true, if_false]
  obtain ⟨m, hm⟩ : ∃ m, D.length = m + 12 := ⟨D.length - 12, by omega⟩
  have ft : ∀ t o x b g d, doctype ⟨D.toArray⟩ ⟨0, t, o, x, b, [], g, d⟩ = .ok ((), ⟨s.length + 46, t, o, x, b, [([102], s), ([101], [38, 102, 59])], g, d⟩) := fun t o x b g d => by
    unfold doctype
    simp only [St.to, Nat.reduceAdd, f8, f9, f11, f13]
    rw [show (⟨D.toArray⟩ : ByteArray).size + 1 = (m + 10) + 1 + 1 + 1 by rw [size_ev, hm], fd]
    simp only [Bool.and_self, if_true, f52, f54, f56]
  have s1 : beside ⟨D.toArray⟩ ⟨0, [], [], [], 0, [], 0, false⟩ false = .ok (true, ⟨s.length + 46, [], [], [], 0, [([102], s), ([101], [38, 102, 59])], 0, false⟩) := by
    unfold beside
    simp only [f3, f4, f5, f6, ft, Bool.false_eq_true, Bool.or_self, if_true, if_false]
  have hxf : ∀ (at_ : Bool) (p : Nat) (o : Bytes) (g : Nat), g + s.length ≤ 32768 → expandN [([102], s), ([101], [38, 102, 59])] at_ p 7 ([] ++ [[101]]) [102] o g = .ok (o ++ s, g + s.length) := fun at_ p o g hg => by
    unfold expandN
    rw [plainF]
    simp only [List.lookup, beq_self_eq_true]
    have := expandL_fine (fun e o' k' => expandN [([102], s), ([101], [38, 102, 59])] at_ p 6 ([] ++ [[101]] ++ [[102]]) e o' k') at_ p s [] 0 o g h0 hg
    simp only [List.append_nil, Nat.add_zero] at this
    rw [if_neg (by decide), this]
    rfl
  have hx : ∀ (at_ : Bool) (p : Nat) (g : Nat), g + 1 + s.length ≤ 32768 → expandN [([102], s), ([101], [38, 102, 59])] at_ p 8 [] [101] [] g = .ok (s, g + 1 + s.length) := fun at_ p g hg => by
    unfold expandN
    rw [plainE]
    simp only [show List.lookup ([101] : Bytes) [([102], s), ([101], [38, 102, 59])] = some [38, 102, 59] from rfl]
    rw [if_neg (by decide)]
    show (if (38 : UInt8) ≠ 38 then _ else _) = _
    rw [if_neg (by decide), e2]
    simp only
    rw [if_pos (by omega), if_pos (by simp), hxf at_ p [] (g + 1) hg]
    rfl
  have fa : ∀ p t o x b d, tagL ⟨D.toArray⟩ p (m + 11 + 1 + 1) ⟨s.length + 48, t, o, x, b, [([102], s), ([101], [38, 102, 59])], 0, d⟩ [] = .ok ([], ⟨s.length + 48, t, o, x, b, [([102], s), ([101], [38, 102, 59])], 0, d⟩) := fun p t o x b d => by
    unfold tagL
    simp only [f68, f69, f70, f71, size_ev, Bool.true_or, if_true]
  have s2 : beside ⟨D.toArray⟩ ⟨s.length + 46, [], [], [], 0, [([102], s), ([101], [38, 102, 59])], 0, false⟩ true = .ok (true, ⟨s.length + 49, [⟨2, [97], [], []⟩], [[97]], [], 0, [([102], s), ([101], [38, 102, 59])], 0, false⟩) := by
    have fg : tag ⟨D.toArray⟩ ⟨s.length + 46, [], [], [], 0, [([102], s), ([101], [38, 102, 59])], 0, false⟩ = .ok ((), ⟨s.length + 49, [⟨2, [97], [], []⟩], [[97]], [], 0, [([102], s), ([101], [38, 102, 59])], 0, false⟩) := by
      unfold tag
      simp only [f66, St.to, Nat.add_assoc, Nat.reduceAdd, if_true]
      rw [show (⟨D.toArray⟩ : ByteArray).size + 1 = m + 11 + 1 + 1 by rw [size_ev, hm], fa]
      simp [f71, flushAdd, flush, add, Nat.add_assoc]
    unfold beside
    simp only [f59, f60, f61, f62, f63, f64, f65, fg, Bool.not_true, Bool.or_self, Bool.false_eq_true, if_false]
  have s3 : content ⟨D.toArray⟩ ⟨s.length + 49, [⟨2, [97], [], []⟩], [[97]], [], 0, [([102], s), ([101], [38, 102, 59])], 0, false⟩ = .ok ((), ⟨s.length + 50, [⟨2, [97], [], []⟩], [[97]], [120], s.length + 49, [([102], s), ([101], [38, 102, 59])], 0, false⟩) := by
    unfold content
    simp [f73, f74, f75, f77, f78, f79, f80, f81, put, St.to, Nat.add_assoc]
  have s4 : content ⟨D.toArray⟩ ⟨s.length + 50, [⟨2, [97], [], []⟩], [[97]], [120], s.length + 49, [([102], s), ([101], [38, 102, 59])], 0, false⟩ = .ok ((), ⟨s.length + 53, [⟨2, [97], [], []⟩], [[97]], ([120] ++ s), s.length + 49, [([102], s), ([101], [38, 102, 59])], (0 + 1 + s.length), false⟩) := by
    unfold content
    simp [f83, f84, f85, f87, f88, f89, f90, put, hx false _ 0 (by omega)]
  have s5 : content ⟨D.toArray⟩ ⟨s.length + 53, [⟨2, [97], [], []⟩], [[97]], ([120] ++ s), s.length + 49, [([102], s), ([101], [38, 102, 59])], (0 + 1 + s.length), false⟩ = .ok ((), ⟨s.length + 54, [⟨2, [97], [], []⟩], [[97]], ([120] ++ s ++ [121]), s.length + 49, [([102], s), ([101], [38, 102, 59])], (0 + 1 + s.length), false⟩) := by
    unfold content
    simp [f92, f93, f94, f96, f97, f98, f99, f100, put, St.to, Nat.add_assoc]
  have s7 : content ⟨D.toArray⟩ ⟨s.length + 54, [⟨2, [97], [], []⟩], [[97]], ([120] ++ s ++ [121]), s.length + 49, [([102], s), ([101], [38, 102, 59])], (0 + 1 + s.length), false⟩ = .ok ((), ⟨s.length + 58, toksE s false, [], [], s.length + 49, [([102], s), ([101], [38, 102, 59])], 0 + 1 + s.length, true⟩) := by
    unfold content endTag
    simp [f102, f103, f105, f107, flushAdd, flush, add, St.to, Nat.add_assoc, toksE]
  have hw : whole ⟨D.toArray⟩ St.start = .ok ((), ⟨s.length + 58, toksE s false, [], [], s.length + 49, [([102], s), ([101], [38, 102, 59])], 0 + 1 + s.length, true⟩) := by
    unfold whole
    rw [show has _ St.start _ = _ from f0 _ _ _ _ _ _ _]
    simp only [Bool.false_and, Bool.false_eq_true, if_false]
    rw [show (⟨D.toArray⟩ : ByteArray).size + 1 = (m + 7) + 1 + 1 + 1 + 1 + 1 + 1 by rw [size_ev, hm]]
    rw [show parts ⟨D.toArray⟩ ((m + 7) + 1 + 1 + 1 + 1 + 1 + 1) St.start false = _ from parts_out (by rw [size_ev]; show 0 < _; omega) rfl s1, parts_out (by rw [size_ev]; simp only; omega) rfl s2]
    rw [parts_in (by rw [size_ev]; simp only; omega) (by simp) s3, parts_in (by rw [size_ev]; simp only; omega) (by simp) s4, parts_in (by rw [size_ev]; simp only; omega) (by simp) s5, parts_in (by rw [size_ev]; simp only; omega) (by simp) s7, parts_end (by rw [size_ev]; simp only; omega)]
    rfl
  unfold scan
  rw [if_neg (by omega), hb]
  simp only
  rw [hw]

set_option maxHeartbeats 4000000 in
set_option maxRecDepth 100000 in
theorem scanEA (s : Bytes) (h0 : s.all fine = true) (h3 : s.length ≤ 2000) : scan (docE s true) = .ok (toksE s true) := by
  obtain ⟨D, hD⟩ : ∃ D, D = docE s true := ⟨_, rfl⟩
  rw [← hD]
  have h : DocIs D [60, 33, 68, 79, 67, 84, 89, 80, 69, 32, 97, 32, 91, 60, 33, 69, 78, 84, 73, 84, 89, 32, 102, 32, 39] s [39, 62, 60, 33, 69, 78, 84, 73, 84, 89, 32, 101, 32, 39, 38, 102, 59, 39, 62, 93, 62, 60, 97, 32, 98, 61, 39, 38, 101, 59, 38, 101, 59, 39, 47, 62] := ⟨h0, by omega, by rw [hD]; rfl⟩
  have hlo : ∀ k, k ≤ 25 → D.drop k = ([60, 33, 68, 79, 67, 84, 89, 80, 69, 32, 97, 32, 91, 60, 33, 69, 78, 84, 73, 84, 89, 32, 102, 32, 39] : Bytes).drop k ++ (s ++ [39, 62, 60, 33, 69, 78, 84, 73, 84, 89, 32, 101, 32, 39, 38, 102, 59, 39, 62, 93, 62, 60, 97, 32, 98, 61, 39, 38, 101, 59, 38, 101, 59, 39, 47, 62]) := fun k hk => h.lo hk
  have hhi : ∀ k, D.drop (s.length + (25 + k)) = ([39, 62, 60, 33, 69, 78, 84, 73, 84, 89, 32, 101, 32, 39, 38, 102, 59, 39, 62, 93, 62, 60, 97, 32, 98, 61, 39, 38, 101, 59, 38, 101, 59, 39, 47, 62] : Bytes).drop k := fun k => h.hi rfl
  have hz : D.length = 25 + s.length + 36 := h.size
  have hb : badAt D.length D 0 = none := badAt_print _ _ _ (by
    rw [h.all]
    have hp := fine_print h0
    intro c hc
    simp only [List.mem_append] at hc
    have lits : ∀ l : Bytes, l.all (fun c => decide (32 ≤ c.toNat) && decide (c.toNat ≤ 126)) = true → c ∈ l → 32 ≤ c.toNat ∧ c.toNat ≤ 126 := fun l hl hm => by
      have := List.all_eq_true.1 hl c hm
      simpa using this
    rcases hc with hc | hc | hc
    · exact lits _ (by decide) hc
    · exact hp c hc
    · exact lits _ (by decide) hc)
  have f0 : ∀ t o x b e g d, has ⟨D.toArray⟩ ⟨0, t, o, x, b, e, g, d⟩ [60, 63, 120, 109, 108] = false := fun t o x b e g d => by
    rw [has_ev, show D.drop (St.pos ⟨0, t, o, x, b, e, g, d⟩) = _ from hlo 0 (by decide)]
    rfl
  have f1 : 0 < D.length := by omega
  have f2 : 0 ≤ D.length := by omega
  have f3 : ∀ t o x b e g d, blanks ⟨D.toArray⟩ ⟨0, t, o, x, b, e, g, d⟩ = (false, ⟨0, t, o, x, b, e, g, d⟩) := fun t o x b e g d => (blanks_ev (D := D) (σ := ⟨0, t, o, x, b, e, g, d⟩) f2).trans (by
    rw [show D.drop (St.pos ⟨0, t, o, x, b, e, g, d⟩) = _ from hlo 0 (by decide)]
    rfl)
  have f4 : ∀ t o x b e g d, has ⟨D.toArray⟩ ⟨0, t, o, x, b, e, g, d⟩ [60, 33, 45, 45] = false := fun t o x b e g d => by
    rw [has_ev, show D.drop (St.pos ⟨0, t, o, x, b, e, g, d⟩) = _ from hlo 0 (by decide)]
    rfl
  have f5 : ∀ t o x b e g d, has ⟨D.toArray⟩ ⟨0, t, o, x, b, e, g, d⟩ [60, 63] = false := fun t o x b e g d => by
    rw [has_ev, show D.drop (St.pos ⟨0, t, o, x, b, e, g, d⟩) = _ from hlo 0 (by decide)]
    rfl
  have f6 : ∀ t o x b e g d, has ⟨D.toArray⟩ ⟨0, t, o, x, b, e, g, d⟩ [60, 33, 68, 79, 67, 84, 89, 80, 69] = true := fun t o x b e g d => by
    rw [has_ev, show D.drop (St.pos ⟨0, t, o, x, b, e, g, d⟩) = _ from hlo 0 (by decide)]
    rfl
  have f7 : 9 ≤ D.length := by omega
  have f8 : ∀ t o x b e g d, blanks ⟨D.toArray⟩ ⟨9, t, o, x, b, e, g, d⟩ = (true, ⟨10, t, o, x, b, e, g, d⟩) := fun t o x b e g d => (blanks_ev (D := D) (σ := ⟨9, t, o, x, b, e, g, d⟩) f7).trans (by
    rw [show D.drop (St.pos ⟨9, t, o, x, b, e, g, d⟩) = _ from hlo 9 (by decide)]
    rfl)
  have f9 : ∀ t o x b e g d, qname ⟨D.toArray⟩ ⟨10, t, o, x, b, e, g, d⟩ = (([97], true), ⟨11, t, o, x, b, e, g, d⟩) := fun t o x b e g d => by
    have hw : wordN true (D.drop (St.pos ⟨10, t, o, x, b, e, g, d⟩)) = 1 := by
      rw [show D.drop (St.pos ⟨10, t, o, x, b, e, g, d⟩) = _ from hlo 10 (by decide)]
      exact scA_32 _
    have ht : (D.drop (St.pos ⟨10, t, o, x, b, e, g, d⟩)).take 1 = [97] := by
      rw [show D.drop (St.pos ⟨10, t, o, x, b, e, g, d⟩) = _ from hlo 10 (by decide)]
      rfl
    unfold qname
    simp only [word_ev, hw, ht]
    rw [show (split [97]).isSome = true from qA]
    rfl
  have f10 : 11 ≤ D.length := by omega
  have f11 : ∀ t o x b e g d, blanks ⟨D.toArray⟩ ⟨11, t, o, x, b, e, g, d⟩ = (true, ⟨12, t, o, x, b, e, g, d⟩) := fun t o x b e g d => (blanks_ev (D := D) (σ := ⟨11, t, o, x, b, e, g, d⟩) f10).trans (by
    rw [show D.drop (St.pos ⟨11, t, o, x, b, e, g, d⟩) = _ from hlo 11 (by decide)]
    rfl)
  have f12 : ∀ t o x b e g d, has ⟨D.toArray⟩ ⟨12, t, o, x, b, e, g, d⟩ [91] = true := fun t o x b e g d => by
    rw [has_ev, show D.drop (St.pos ⟨12, t, o, x, b, e, g, d⟩) = _ from hlo 12 (by decide)]
    rfl
  have f13 : ∀ t o x b e g d, eat ⟨D.toArray⟩ ⟨12, t, o, x, b, e, g, d⟩ [91] = (true, ⟨13, t, o, x, b, e, g, d⟩) := fun t o x b e g d => by
    unfold eat
    rw [f12]
    rfl
  have f14 : 13 ≤ D.length := by omega
  have f15 : ∀ t o x b e g d, blanks ⟨D.toArray⟩ ⟨13, t, o, x, b, e, g, d⟩ = (false, ⟨13, t, o, x, b, e, g, d⟩) := fun t o x b e g d => (blanks_ev (D := D) (σ := ⟨13, t, o, x, b, e, g, d⟩) f14).trans (by
    rw [show D.drop (St.pos ⟨13, t, o, x, b, e, g, d⟩) = _ from hlo 13 (by decide)]
    rfl)
  have f16 : ∀ t o x b e g d, has ⟨D.toArray⟩ ⟨13, t, o, x, b, e, g, d⟩ [60, 33, 45, 45] = false := fun t o x b e g d => by
    rw [has_ev, show D.drop (St.pos ⟨13, t, o, x, b, e, g, d⟩) = _ from hlo 13 (by decide)]
    rfl
  have f17 : ∀ t o x b e g d, has ⟨D.toArray⟩ ⟨13, t, o, x, b, e, g, d⟩ [60, 63] = false := fun t o x b e g d => by
    rw [has_ev, show D.drop (St.pos ⟨13, t, o, x, b, e, g, d⟩) = _ from hlo 13 (by decide)]
    rfl
  have f18 : ∀ t o x b e g d, has ⟨D.toArray⟩ ⟨13, t, o, x, b, e, g, d⟩ [60, 33, 69, 78, 84, 73, 84, 89] = true := fun t o x b e g d => by
    rw [has_ev, show D.drop (St.pos ⟨13, t, o, x, b, e, g, d⟩) = _ from hlo 13 (by decide)]
    rfl
  have f19 : 21 ≤ D.length := by omega
  have f20 : ∀ t o x b e g d, blanks ⟨D.toArray⟩ ⟨21, t, o, x, b, e, g, d⟩ = (true, ⟨22, t, o, x, b, e, g, d⟩) := fun t o x b e g d => (blanks_ev (D := D) (σ := ⟨21, t, o, x, b, e, g, d⟩) f19).trans (by
    rw [show D.drop (St.pos ⟨21, t, o, x, b, e, g, d⟩) = _ from hlo 21 (by decide)]
    rfl)
  have f21 : ∀ t o x b e g d, name ⟨D.toArray⟩ ⟨22, t, o, x, b, e, g, d⟩ = (([102], true), ⟨23, t, o, x, b, e, g, d⟩) := fun t o x b e g d => by
    have hw : wordN false (D.drop (St.pos ⟨22, t, o, x, b, e, g, d⟩)) = 1 := by
      rw [show D.drop (St.pos ⟨22, t, o, x, b, e, g, d⟩) = _ from hlo 22 (by decide)]
      exact snF_32 _
    have ht : (D.drop (St.pos ⟨22, t, o, x, b, e, g, d⟩)).take 1 = [102] := by
      rw [show D.drop (St.pos ⟨22, t, o, x, b, e, g, d⟩) = _ from hlo 22 (by decide)]
      rfl
    unfold name
    simp only [word_ev, hw, ht]
    rw [show isName [102] = true from nF]
    rfl
  have f22 : 23 ≤ D.length := by omega
  have f23 : ∀ t o x b e g d, blanks ⟨D.toArray⟩ ⟨23, t, o, x, b, e, g, d⟩ = (true, ⟨24, t, o, x, b, e, g, d⟩) := fun t o x b e g d => (blanks_ev (D := D) (σ := ⟨23, t, o, x, b, e, g, d⟩) f22).trans (by
    rw [show D.drop (St.pos ⟨23, t, o, x, b, e, g, d⟩) = _ from hlo 23 (by decide)]
    rfl)
  have f24 : ∀ t o x b e g d, has ⟨D.toArray⟩ ⟨24, t, o, x, b, e, g, d⟩ [39] = true := fun t o x b e g d => by
    rw [has_ev, show D.drop (St.pos ⟨24, t, o, x, b, e, g, d⟩) = _ from hlo 24 (by decide)]
    rfl
  have f25 : ∀ t o x b e g d, quoted ⟨D.toArray⟩ ⟨24, t, o, x, b, e, g, d⟩ = ((s, true), ⟨s.length + 26, t, o, x, b, e, g, d⟩) := fun t o x b e g d => by
    unfold quoted sign
    rw [f24]
    have hu := upto_ev (D := D) (σ := ⟨25, t, o, x, b, e, g, d⟩) (a := s) (c := 39) (r := D.drop (s.length + 26)) (by
      rw [show D.drop (St.pos _) = _ from hlo 25 (by decide), show D.drop (s.length + 26) = _ from hhi 1]
      rfl) (by exact fine_not h.fine (by decide))
    simp only [if_true, St.to]
    refine (show upto _ _ _ = _ from hu).trans ?_
    simp only [St.to]
    rw [show 25 + s.length + 1 = s.length + 26 by omega]
  have f26 : s.length + 26 ≤ D.length := by omega
  have f27 : ∀ t o x b e g d, blanks ⟨D.toArray⟩ ⟨s.length + 26, t, o, x, b, e, g, d⟩ = (false, ⟨s.length + 26, t, o, x, b, e, g, d⟩) := fun t o x b e g d => (blanks_ev (D := D) (σ := ⟨s.length + 26, t, o, x, b, e, g, d⟩) f26).trans (by
    rw [show D.drop (St.pos ⟨s.length + 26, t, o, x, b, e, g, d⟩) = _ from hhi 1]
    rfl)
  have f28 : ∀ t o x b e g d, has ⟨D.toArray⟩ ⟨s.length + 26, t, o, x, b, e, g, d⟩ [62] = true := fun t o x b e g d => by
    rw [has_ev, show D.drop (St.pos ⟨s.length + 26, t, o, x, b, e, g, d⟩) = _ from hhi 1]
    rfl
  have f29 : ∀ t o x b e g d, eat ⟨D.toArray⟩ ⟨s.length + 26, t, o, x, b, e, g, d⟩ [62] = (true, ⟨s.length + 27, t, o, x, b, e, g, d⟩) := fun t o x b e g d => by
    unfold eat
    rw [f28]
    rfl
  have f30 : s.length + 27 ≤ D.length := by omega
  have f31 : ∀ t o x b e g d, blanks ⟨D.toArray⟩ ⟨s.length + 27, t, o, x, b, e, g, d⟩ = (false, ⟨s.length + 27, t, o, x, b, e, g, d⟩) := fun t o x b e g d => (blanks_ev (D := D) (σ := ⟨s.length + 27, t, o, x, b, e, g, d⟩) f30).trans (by
    rw [show D.drop (St.pos ⟨s.length + 27, t, o, x, b, e, g, d⟩) = _ from hhi 2]
    rfl)
  have f32 : ∀ t o x b e g d, has ⟨D.toArray⟩ ⟨s.length + 27, t, o, x, b, e, g, d⟩ [60, 33, 45, 45] = false := fun t o x b e g d => by
    rw [has_ev, show D.drop (St.pos ⟨s.length + 27, t, o, x, b, e, g, d⟩) = _ from hhi 2]
    rfl
  have f33 : ∀ t o x b e g d, has ⟨D.toArray⟩ ⟨s.length + 27, t, o, x, b, e, g, d⟩ [60, 63] = false := fun t o x b e g d => by
    rw [has_ev, show D.drop (St.pos ⟨s.length + 27, t, o, x, b, e, g, d⟩) = _ from hhi 2]
    rfl
  have f34 : ∀ t o x b e g d, has ⟨D.toArray⟩ ⟨s.length + 27, t, o, x, b, e, g, d⟩ [60, 33, 69, 78, 84, 73, 84, 89] = true := fun t o x b e g d => by
    rw [has_ev, show D.drop (St.pos ⟨s.length + 27, t, o, x, b, e, g, d⟩) = _ from hhi 2]
    rfl
  have f35 : s.length + 35 ≤ D.length := by omega
  have f36 : ∀ t o x b e g d, blanks ⟨D.toArray⟩ ⟨s.length + 35, t, o, x, b, e, g, d⟩ = (true, ⟨s.length + 36, t, o, x, b, e, g, d⟩) := fun t o x b e g d => (blanks_ev (D := D) (σ := ⟨s.length + 35, t, o, x, b, e, g, d⟩) f35).trans (by
    rw [show D.drop (St.pos ⟨s.length + 35, t, o, x, b, e, g, d⟩) = _ from hhi 10]
    rfl)
  have f37 : ∀ t o x b e g d, name ⟨D.toArray⟩ ⟨s.length + 36, t, o, x, b, e, g, d⟩ = (([101], true), ⟨s.length + 37, t, o, x, b, e, g, d⟩) := fun t o x b e g d => by
    have hw : wordN false (D.drop (St.pos ⟨s.length + 36, t, o, x, b, e, g, d⟩)) = 1 := by
      rw [show D.drop (St.pos ⟨s.length + 36, t, o, x, b, e, g, d⟩) = _ from hhi 11]
      exact snE_32 _
    have ht : (D.drop (St.pos ⟨s.length + 36, t, o, x, b, e, g, d⟩)).take 1 = [101] := by
      rw [show D.drop (St.pos ⟨s.length + 36, t, o, x, b, e, g, d⟩) = _ from hhi 11]
      rfl
    unfold name
    simp only [word_ev, hw, ht]
    rw [show isName [101] = true from nE]
    rfl
  have f38 : s.length + 37 ≤ D.length := by omega
  have f39 : ∀ t o x b e g d, blanks ⟨D.toArray⟩ ⟨s.length + 37, t, o, x, b, e, g, d⟩ = (true, ⟨s.length + 38, t, o, x, b, e, g, d⟩) := fun t o x b e g d => (blanks_ev (D := D) (σ := ⟨s.length + 37, t, o, x, b, e, g, d⟩) f38).trans (by
    rw [show D.drop (St.pos ⟨s.length + 37, t, o, x, b, e, g, d⟩) = _ from hhi 12]
    rfl)
  have f40 : ∀ t o x b e g d, has ⟨D.toArray⟩ ⟨s.length + 38, t, o, x, b, e, g, d⟩ [39] = true := fun t o x b e g d => by
    rw [has_ev, show D.drop (St.pos ⟨s.length + 38, t, o, x, b, e, g, d⟩) = _ from hhi 13]
    rfl
  have f41 : ∀ t o x b e g d, quoted ⟨D.toArray⟩ ⟨s.length + 38, t, o, x, b, e, g, d⟩ = (([38, 102, 59], true), ⟨s.length + 43, t, o, x, b, e, g, d⟩) := fun t o x b e g d => by
    unfold quoted sign
    rw [f40]
    have hu := upto_ev (D := D) (σ := ⟨s.length + 39, t, o, x, b, e, g, d⟩) (a := [38, 102, 59]) (c := 39) (r := D.drop (s.length + 43)) (by
      rw [show D.drop (St.pos _) = _ from hhi 14, show D.drop (s.length + 43) = _ from hhi 18]
      rfl) (by decide)
    simp only [if_true, St.to]
    refine (show upto _ _ _ = _ from hu).trans ?_
    simp only [St.to, List.length_cons, List.length_nil]
  have f42 : s.length + 43 ≤ D.length := by omega
  have f43 : ∀ t o x b e g d, blanks ⟨D.toArray⟩ ⟨s.length + 43, t, o, x, b, e, g, d⟩ = (false, ⟨s.length + 43, t, o, x, b, e, g, d⟩) := fun t o x b e g d => (blanks_ev (D := D) (σ := ⟨s.length + 43, t, o, x, b, e, g, d⟩) f42).trans (by
    rw [show D.drop (St.pos ⟨s.length + 43, t, o, x, b, e, g, d⟩) = _ from hhi 18]
    rfl)
  have f44 : ∀ t o x b e g d, has ⟨D.toArray⟩ ⟨s.length + 43, t, o, x, b, e, g, d⟩ [62] = true := fun t o x b e g d => by
    rw [has_ev, show D.drop (St.pos ⟨s.length + 43, t, o, x, b, e, g, d⟩) = _ from hhi 18]
    rfl
  have f45 : ∀ t o x b e g d, eat ⟨D.toArray⟩ ⟨s.length + 43, t, o, x, b, e, g, d⟩ [62] = (true, ⟨s.length + 44, t, o, x, b, e, g, d⟩) := fun t o x b e g d => by
    unfold eat
    rw [f44]
    rfl
  have f46 : s.length + 44 ≤ D.length := by omega
  have f47 : ∀ t o x b e g d, blanks ⟨D.toArray⟩ ⟨s.length + 44, t, o, x, b, e, g, d⟩ = (false, ⟨s.length + 44, t, o, x, b, e, g, d⟩) := fun t o x b e g d => (blanks_ev (D := D) (σ := ⟨s.length + 44, t, o, x, b, e, g, d⟩) f46).trans (by
    rw [show D.drop (St.pos ⟨s.length + 44, t, o, x, b, e, g, d⟩) = _ from hhi 19]
    rfl)
  have f48 : ∀ t o x b e g d, has ⟨D.toArray⟩ ⟨s.length + 44, t, o, x, b, e, g, d⟩ [60, 33, 45, 45] = false := fun t o x b e g d => by
    rw [has_ev, show D.drop (St.pos ⟨s.length + 44, t, o, x, b, e, g, d⟩) = _ from hhi 19]
    rfl
  have f49 : ∀ t o x b e g d, has ⟨D.toArray⟩ ⟨s.length + 44, t, o, x, b, e, g, d⟩ [60, 63] = false := fun t o x b e g d => by
    rw [has_ev, show D.drop (St.pos ⟨s.length + 44, t, o, x, b, e, g, d⟩) = _ from hhi 19]
    rfl
  have f50 : ∀ t o x b e g d, has ⟨D.toArray⟩ ⟨s.length + 44, t, o, x, b, e, g, d⟩ [60, 33, 69, 78, 84, 73, 84, 89] = false := fun t o x b e g d => by
    rw [has_ev, show D.drop (St.pos ⟨s.length + 44, t, o, x, b, e, g, d⟩) = _ from hhi 19]
    rfl
  have f51 : ∀ t o x b e g d, has ⟨D.toArray⟩ ⟨s.length + 44, t, o, x, b, e, g, d⟩ [93] = true := fun t o x b e g d => by
    rw [has_ev, show D.drop (St.pos ⟨s.length + 44, t, o, x, b, e, g, d⟩) = _ from hhi 19]
    rfl
  have f52 : ∀ t o x b e g d, eat ⟨D.toArray⟩ ⟨s.length + 44, t, o, x, b, e, g, d⟩ [93] = (true, ⟨s.length + 45, t, o, x, b, e, g, d⟩) := fun t o x b e g d => by
    unfold eat
    rw [f51]
    rfl
  have f53 : s.length + 45 ≤ D.length := by omega
  have f54 : ∀ t o x b e g d, blanks ⟨D.toArray⟩ ⟨s.length + 45, t, o, x, b, e, g, d⟩ = (false, ⟨s.length + 45, t, o, x, b, e, g, d⟩) := fun t o x b e g d => (blanks_ev (D := D) (σ := ⟨s.length + 45, t, o, x, b, e, g, d⟩) f53).trans (by
    rw [show D.drop (St.pos ⟨s.length + 45, t, o, x, b, e, g, d⟩) = _ from hhi 20]
    rfl)
  have f55 : ∀ t o x b e g d, has ⟨D.toArray⟩ ⟨s.length + 45, t, o, x, b, e, g, d⟩ [62] = true := fun t o x b e g d => by
    rw [has_ev, show D.drop (St.pos ⟨s.length + 45, t, o, x, b, e, g, d⟩) = _ from hhi 20]
    rfl
  have f56 : ∀ t o x b e g d, eat ⟨D.toArray⟩ ⟨s.length + 45, t, o, x, b, e, g, d⟩ [62] = (true, ⟨s.length + 46, t, o, x, b, e, g, d⟩) := fun t o x b e g d => by
    unfold eat
    rw [f55]
    rfl
  have f57 : s.length + 46 < D.length := by omega
  have f58 : s.length + 46 ≤ D.length := by omega
  have f59 : ∀ t o x b e g d, blanks ⟨D.toArray⟩ ⟨s.length + 46, t, o, x, b, e, g, d⟩ = (false, ⟨s.length + 46, t, o, x, b, e, g, d⟩) := fun t o x b e g d => (blanks_ev (D := D) (σ := ⟨s.length + 46, t, o, x, b, e, g, d⟩) f58).trans (by
    rw [show D.drop (St.pos ⟨s.length + 46, t, o, x, b, e, g, d⟩) = _ from hhi 21]
    rfl)
  have f60 : ∀ t o x b e g d, has ⟨D.toArray⟩ ⟨s.length + 46, t, o, x, b, e, g, d⟩ [60, 33, 45, 45] = false := fun t o x b e g d => by
    rw [has_ev, show D.drop (St.pos ⟨s.length + 46, t, o, x, b, e, g, d⟩) = _ from hhi 21]
    rfl
  have f61 : ∀ t o x b e g d, has ⟨D.toArray⟩ ⟨s.length + 46, t, o, x, b, e, g, d⟩ [60, 63] = false := fun t o x b e g d => by
    rw [has_ev, show D.drop (St.pos ⟨s.length + 46, t, o, x, b, e, g, d⟩) = _ from hhi 21]
    rfl
  have f62 : ∀ t o x b e g d, has ⟨D.toArray⟩ ⟨s.length + 46, t, o, x, b, e, g, d⟩ [60, 33, 68, 79, 67, 84, 89, 80, 69] = false := fun t o x b e g d => by
    rw [has_ev, show D.drop (St.pos ⟨s.length + 46, t, o, x, b, e, g, d⟩) = _ from hhi 21]
    rfl
  have f63 : ∀ t o x b e g d, has ⟨D.toArray⟩ ⟨s.length + 46, t, o, x, b, e, g, d⟩ [60] = true := fun t o x b e g d => by
    rw [has_ev, show D.drop (St.pos ⟨s.length + 46, t, o, x, b, e, g, d⟩) = _ from hhi 21]
    rfl
  have f64 : ∀ t o x b e g d, has ⟨D.toArray⟩ ⟨s.length + 46, t, o, x, b, e, g, d⟩ [60, 47] = false := fun t o x b e g d => by
    rw [has_ev, show D.drop (St.pos ⟨s.length + 46, t, o, x, b, e, g, d⟩) = _ from hhi 21]
    rfl
  have f65 : ∀ t o x b e g d, has ⟨D.toArray⟩ ⟨s.length + 46, t, o, x, b, e, g, d⟩ [60, 33] = false := fun t o x b e g d => by
    rw [has_ev, show D.drop (St.pos ⟨s.length + 46, t, o, x, b, e, g, d⟩) = _ from hhi 21]
    rfl
  have f66 : ∀ t o x b e g d, qname ⟨D.toArray⟩ ⟨s.length + 47, t, o, x, b, e, g, d⟩ = (([97], true), ⟨s.length + 48, t, o, x, b, e, g, d⟩) := fun t o x b e g d => by
    have hw : wordN true (D.drop (St.pos ⟨s.length + 47, t, o, x, b, e, g, d⟩)) = 1 := by
      rw [show D.drop (St.pos ⟨s.length + 47, t, o, x, b, e, g, d⟩) = _ from hhi 22]
      exact scA_32 _
    have ht : (D.drop (St.pos ⟨s.length + 47, t, o, x, b, e, g, d⟩)).take 1 = [97] := by
      rw [show D.drop (St.pos ⟨s.length + 47, t, o, x, b, e, g, d⟩) = _ from hhi 22]
      rfl
    unfold qname
    simp only [word_ev, hw, ht]
    rw [show (split [97]).isSome = true from qA]
    rfl
  have f67 : s.length + 48 ≤ D.length := by omega
  have f68 : ∀ t o x b e g d, blanks ⟨D.toArray⟩ ⟨s.length + 48, t, o, x, b, e, g, d⟩ = (true, ⟨s.length + 49, t, o, x, b, e, g, d⟩) := fun t o x b e g d => (blanks_ev (D := D) (σ := ⟨s.length + 48, t, o, x, b, e, g, d⟩) f67).trans (by
    rw [show D.drop (St.pos ⟨s.length + 48, t, o, x, b, e, g, d⟩) = _ from hhi 23]
    rfl)
  have f69 : s.length + 49 < D.length := by omega
  have f70 : ∀ t o x b e g d, has ⟨D.toArray⟩ ⟨s.length + 49, t, o, x, b, e, g, d⟩ [62] = false := fun t o x b e g d => by
    rw [has_ev, show D.drop (St.pos ⟨s.length + 49, t, o, x, b, e, g, d⟩) = _ from hhi 24]
    rfl
  have f71 : ∀ t o x b e g d, has ⟨D.toArray⟩ ⟨s.length + 49, t, o, x, b, e, g, d⟩ [47, 62] = false := fun t o x b e g d => by
    rw [has_ev, show D.drop (St.pos ⟨s.length + 49, t, o, x, b, e, g, d⟩) = _ from hhi 24]
    rfl
  have f72 : ∀ t o x b e g d, qname ⟨D.toArray⟩ ⟨s.length + 49, t, o, x, b, e, g, d⟩ = (([98], true), ⟨s.length + 50, t, o, x, b, e, g, d⟩) := fun t o x b e g d => by
    have hw : wordN true (D.drop (St.pos ⟨s.length + 49, t, o, x, b, e, g, d⟩)) = 1 := by
      rw [show D.drop (St.pos ⟨s.length + 49, t, o, x, b, e, g, d⟩) = _ from hhi 24]
      exact scB_61 _
    have ht : (D.drop (St.pos ⟨s.length + 49, t, o, x, b, e, g, d⟩)).take 1 = [98] := by
      rw [show D.drop (St.pos ⟨s.length + 49, t, o, x, b, e, g, d⟩) = _ from hhi 24]
      rfl
    unfold qname
    simp only [word_ev, hw, ht]
    rw [show (split [98]).isSome = true from qB]
    rfl
  have f73 : s.length + 50 ≤ D.length := by omega
  have f74 : ∀ t o x b e g d, blanks ⟨D.toArray⟩ ⟨s.length + 50, t, o, x, b, e, g, d⟩ = (false, ⟨s.length + 50, t, o, x, b, e, g, d⟩) := fun t o x b e g d => (blanks_ev (D := D) (σ := ⟨s.length + 50, t, o, x, b, e, g, d⟩) f73).trans (by
    rw [show D.drop (St.pos ⟨s.length + 50, t, o, x, b, e, g, d⟩) = _ from hhi 25]
    rfl)
  have f75 : ∀ t o x b e g d, has ⟨D.toArray⟩ ⟨s.length + 50, t, o, x, b, e, g, d⟩ [61] = true := fun t o x b e g d => by
    rw [has_ev, show D.drop (St.pos ⟨s.length + 50, t, o, x, b, e, g, d⟩) = _ from hhi 25]
    rfl
  have f76 : ∀ t o x b e g d, eat ⟨D.toArray⟩ ⟨s.length + 50, t, o, x, b, e, g, d⟩ [61] = (true, ⟨s.length + 51, t, o, x, b, e, g, d⟩) := fun t o x b e g d => by
    unfold eat
    rw [f75]
    rfl
  have f77 : s.length + 51 ≤ D.length := by omega
  have f78 : ∀ t o x b e g d, blanks ⟨D.toArray⟩ ⟨s.length + 51, t, o, x, b, e, g, d⟩ = (false, ⟨s.length + 51, t, o, x, b, e, g, d⟩) := fun t o x b e g d => (blanks_ev (D := D) (σ := ⟨s.length + 51, t, o, x, b, e, g, d⟩) f77).trans (by
    rw [show D.drop (St.pos ⟨s.length + 51, t, o, x, b, e, g, d⟩) = _ from hhi 26]
    rfl)
  have f79 : ∀ t o x b e g d, has ⟨D.toArray⟩ ⟨s.length + 51, t, o, x, b, e, g, d⟩ [39] = true := fun t o x b e g d => by
    rw [has_ev, show D.drop (St.pos ⟨s.length + 51, t, o, x, b, e, g, d⟩) = _ from hhi 26]
    rfl
  have f80 : ∀ t o x b e g d, has ⟨D.toArray⟩ ⟨s.length + 51, t, o, x, b, e, g, d⟩ [34] = false := fun t o x b e g d => by
    rw [has_ev, show D.drop (St.pos ⟨s.length + 51, t, o, x, b, e, g, d⟩) = _ from hhi 26]
    rfl
  have f81 : s.length + 52 < D.length := by omega
  have f82 : ∀ t o x b e g d, has ⟨D.toArray⟩ ⟨s.length + 52, t, o, x, b, e, g, d⟩ [39] = false := fun t o x b e g d => by
    rw [has_ev, show D.drop (St.pos ⟨s.length + 52, t, o, x, b, e, g, d⟩) = _ from hhi 27]
    rfl
  have f83 : ∀ t o x b e g d, rest ⟨D.toArray⟩ ⟨s.length + 52, t, o, x, b, e, g, d⟩ = 38 :: D.drop (s.length + 53) := fun t o x b e g d => by
    rw [rest_ev, show D.drop (St.pos ⟨s.length + 52, t, o, x, b, e, g, d⟩) = _ from hhi 27, show D.drop (s.length + 53) = _ from hhi 28]
    rfl
  have f84 : ∀ t o x b e g d at_, refM ⟨D.toArray⟩ ⟨s.length + 52, t, o, x, b, e, g, d⟩ at_ = match expandN e at_ (s.length + 52 : Nat) 8 [] [101] [] g with | .error x => .error x | .ok (o', k) => .ok (o', ⟨s.length + 55, t, o, x, b, e, k, d⟩) := fun t o x b e g d at_ => by
    have hr := ref_ev (n := [101]) (r := D.drop (s.length + 55)) nE (by decide) (by decide)
    have hd : rest ⟨D.toArray⟩ ⟨s.length + 52, t, o, x, b, e, g, d⟩ = 38 :: ([101] ++ 59 :: D.drop (s.length + 55)) := by
      rw [rest_ev, show D.drop (St.pos ⟨s.length + 52, t, o, x, b, e, g, d⟩) = _ from hhi 27, show D.drop (s.length + 55) = _ from hhi 30]
      rfl
    unfold refM
    rw [hd, hr.1, hr.2]
    simp only [St.to]
    rfl
  have f85 : s.length + 55 < D.length := by omega
  have f86 : ∀ t o x b e g d, has ⟨D.toArray⟩ ⟨s.length + 55, t, o, x, b, e, g, d⟩ [39] = false := fun t o x b e g d => by
    rw [has_ev, show D.drop (St.pos ⟨s.length + 55, t, o, x, b, e, g, d⟩) = _ from hhi 30]
    rfl
  have f87 : ∀ t o x b e g d, rest ⟨D.toArray⟩ ⟨s.length + 55, t, o, x, b, e, g, d⟩ = 38 :: D.drop (s.length + 56) := fun t o x b e g d => by
    rw [rest_ev, show D.drop (St.pos ⟨s.length + 55, t, o, x, b, e, g, d⟩) = _ from hhi 30, show D.drop (s.length + 56) = _ from hhi 31]
    rfl
  have f88 : ∀ t o x b e g d at_, refM ⟨D.toArray⟩ ⟨s.length + 55, t, o, x, b, e, g, d⟩ at_ = match expandN e at_ (s.length + 55 : Nat) 8 [] [101] [] g with | .error x => .error x | .ok (o', k) => .ok (o', ⟨s.length + 58, t, o, x, b, e, k, d⟩) := fun t o x b e g d at_ => by
    have hr := ref_ev (n := [101]) (r := D.drop (s.length + 58)) nE (by decide) (by decide)
    have hd : rest ⟨D.toArray⟩ ⟨s.length + 55, t, o, x, b, e, g, d⟩ = 38 :: ([101] ++ 59 :: D.drop (s.length + 58)) := by
      rw [rest_ev, show D.drop (St.pos ⟨s.length + 55, t, o, x, b, e, g, d⟩) = _ from hhi 30, show D.drop (s.length + 58) = _ from hhi 33]
      rfl
    unfold refM
    rw [hd, hr.1, hr.2]
    simp only [St.to]
    rfl
  have f89 : s.length + 58 < D.length := by omega
  have f90 : ∀ t o x b e g d, has ⟨D.toArray⟩ ⟨s.length + 58, t, o, x, b, e, g, d⟩ [39] = true := fun t o x b e g d => by
    rw [has_ev, show D.drop (St.pos ⟨s.length + 58, t, o, x, b, e, g, d⟩) = _ from hhi 33]
    rfl
  have f91 : s.length + 59 ≤ D.length := by omega
  have f92 : ∀ t o x b e g d, blanks ⟨D.toArray⟩ ⟨s.length + 59, t, o, x, b, e, g, d⟩ = (false, ⟨s.length + 59, t, o, x, b, e, g, d⟩) := fun t o x b e g d => (blanks_ev (D := D) (σ := ⟨s.length + 59, t, o, x, b, e, g, d⟩) f91).trans (by
    rw [show D.drop (St.pos ⟨s.length + 59, t, o, x, b, e, g, d⟩) = _ from hhi 34]
    rfl)
  have f93 : s.length + 59 < D.length := by omega
  have f94 : ∀ t o x b e g d, has ⟨D.toArray⟩ ⟨s.length + 59, t, o, x, b, e, g, d⟩ [62] = false := fun t o x b e g d => by
    rw [has_ev, show D.drop (St.pos ⟨s.length + 59, t, o, x, b, e, g, d⟩) = _ from hhi 34]
    rfl
  have f95 : ∀ t o x b e g d, has ⟨D.toArray⟩ ⟨s.length + 59, t, o, x, b, e, g, d⟩ [47, 62] = true := fun t o x b e g d => by
    rw [has_ev, show D.drop (St.pos ⟨s.length + 59, t, o, x, b, e, g, d⟩) = _ from hhi 34]
    rfl
  have f96 : ¬ s.length + 61 < D.length := by omega
  have hq : refsN s = 0 := by have := refsN_fine s [] h0; simpa [refsN] using this
  have ha : ascii s = true := fine_ascii h0
  have hy : hasAny s [60, 37] = false := fine_any h0
  have hrf := ref_ev (n := [102]) (r := []) nF (by decide) (by decide)
  have e1 : refWild [38, 102, 59] = false := hrf.2
  have e2 : reference [38, 102, 59] = some (3, [], [102]) := hrf.1
  have hq2 : refsN [38, 102, 59] = 0 := by simp [refsN, e1, e2]
  have ha2 : ascii [38, 102, 59] = true := rfl
  have hy2 : hasAny [38, 102, 59] [60, 37] = false := rfl
  have fe1 : ∀ t o x b g d, entity ⟨D.toArray⟩ ⟨13, t, o, x, b, [], g, d⟩ = .ok ((), ⟨s.length + 27, t, o, x, b, [([102], s)], g, d⟩) := fun t o x b g d => by
    unfold entity
    simp only [St.to, Nat.reduceAdd, f20, f21, f23, f25, f27, f29]
    simp only [ha, hy, hq, Bool.and_self, Bool.false_eq_true, if_true, if_false, List.lookup, Option.isSome_none, List.nil_append]
  have fe2 : ∀ t o x b g d, entity ⟨D.toArray⟩ ⟨s.length + 27, t, o, x, b, [([102], s)], g, d⟩ = .ok ((), ⟨s.length + 44, t, o, x, b, [([102], s), ([101], [38, 102, 59])], g, d⟩) := fun t o x b g d => by
    unfold entity
    simp only [St.to, Nat.add_assoc, Nat.reduceAdd, f36, f37, f39, f41, f43, f45]
    simp only [ha2, hy2, hq2, Bool.and_self, Bool.false_eq_true, if_true, if_false, show List.lookup ([101] : Bytes) [([102], s)] = none from rfl, Option.isSome_none, List.cons_append, List.nil_append]
  have fd : ∀ m t o x b g d, decls ⟨D.toArray⟩ (m + 1 + 1 + 1) ⟨13, t, o, x, b, [], g, d⟩ = .ok ((), ⟨s.length + 44, t, o, x, b, [([102], s), ([101], [38, 102, 59])], g, d⟩) := fun m t o x b g d => by
    unfold decls
    simp only [f15, f16, f17, f18, fe1, Bool.false_eq_true, if_true, if_false]
    unfold decls
    simp only [f31, f32, f33, f34, fe2, Bool.false_eq_true, if_true, if_false]
    unfold decls
    simp only [f47, f48, f49, f50, Bool.false_eq_true, if_false]
  obtain ⟨m, hm⟩ : ∃ m, D.length = m + 12 := ⟨D.length - 12, by omega⟩
  have ft : ∀ t o x b g d, doctype ⟨D.toArray⟩ ⟨0, t, o, x, b, [], g, d⟩ = .ok ((), ⟨s.length + 46, t, o, x, b, [([102], s), ([101], [38, 102, 59])], g, d⟩) := fun t o x b g d => by
    unfold doctype
    simp only [St.to, Nat.reduceAdd, f8, f9, f11, f13]
    rw [show (⟨D.toArray⟩ : ByteArray).size + 1 = (m + 10) + 1 + 1 + 1 by rw [size_ev, hm], fd]
    simp only [Bool.and_self, if_true, f52, f54, f56]
  have s1 : beside ⟨D.toArray⟩ ⟨0, [], [], [], 0, [], 0, false⟩ false = .ok (true, ⟨s.length + 46, [], [], [], 0, [([102], s), ([101], [38, 102, 59])], 0, false⟩) := by
    unfold beside
    simp only [f3, f4, f5, f6, ft, Bool.false_eq_true, Bool.or_self, if_true, if_false]
  have hxf : ∀ (at_ : Bool) (p : Nat) (o : Bytes) (g : Nat), g + s.length ≤ 32768 → expandN [([102], s), ([101], [38, 102, 59])] at_ p 7 ([] ++ [[101]]) [102] o g = .ok (o ++ s, g + s.length) := fun at_ p o g hg => by
    unfold expandN
    rw [plainF]
    simp only [List.lookup, beq_self_eq_true]
    have := expandL_fine (fun e o' k' => expandN [([102], s), ([101], [38, 102, 59])] at_ p 6 ([] ++ [[101]] ++ [[102]]) e o' k') at_ p s [] 0 o g h0 hg
    simp only [List.append_nil, Nat.add_zero] at this
    rw [if_neg (by decide), this]
    rfl
  have hx : ∀ (at_ : Bool) (p : Nat) (g : Nat), g + 1 + s.length ≤ 32768 → expandN [([102], s), ([101], [38, 102, 59])] at_ p 8 [] [101] [] g = .ok (s, g + 1 + s.length) := fun at_ p g hg => by
    unfold expandN
    rw [plainE]
    simp only [show List.lookup ([101] : Bytes) [([102], s), ([101], [38, 102, 59])] = some [38, 102, 59] from rfl]
    rw [if_neg (by decide)]
    show (if (38 : UInt8) ≠ 38 then _ else _) = _
    rw [if_neg (by decide), e2]
    simp only
    rw [if_pos (by omega), if_pos (by simp), hxf at_ p [] (g + 1) hg]
    rfl
  have fv : ∀ t o x b d, value ⟨D.toArray⟩ ⟨s.length + 51, t, o, x, b, [([102], s), ([101], [38, 102, 59])], 0, d⟩ = .ok ((s ++ s, true), ⟨s.length + 59, t, o, x, b, [([102], s), ([101], [38, 102, 59])], 0 + 1 + s.length + 1 + s.length, d⟩) := fun t o x b d => by
    unfold value sign
    simp only [f79, f80, if_true, St.to, Nat.add_assoc, Nat.reduceAdd]
    rw [show (⟨D.toArray⟩ : ByteArray).size + 1 = (m + 10) + 1 + 1 + 1 by rw [size_ev, hm]]
    unfold valueL
    simp only [f81, f82, f83, f84, size_ev, hx _ _ (0) (by omega), if_true, if_false, Bool.false_eq_true, List.headD_cons]
    rw [if_neg (by decide)]
    unfold valueL
    simp only [f85, f86, f87, f88, size_ev, hx _ _ (0 + 1 + s.length) (by omega), if_true, if_false, Bool.false_eq_true, List.headD_cons]
    rw [if_neg (by decide)]
    unfold valueL
    simp only [f89, f90, size_ev, if_true, St.to, Nat.add_assoc, List.length_cons, List.length_nil, Nat.reduceAdd, List.nil_append]
  have fa : ∀ p t o x b d, tagL ⟨D.toArray⟩ p (m + 11 + 1 + 1) ⟨s.length + 48, t, o, x, b, [([102], s), ([101], [38, 102, 59])], 0, d⟩ [] = .ok ([([98], s ++ s)], ⟨s.length + 59, t, o, x, b, [([102], s), ([101], [38, 102, 59])], 0 + 1 + s.length + 1 + s.length, d⟩) := fun p t o x b d => by
    unfold tagL
    simp only [f68, f69, f70, f71, f72, f74, f76, f78, size_ev, equal, fv, named, List.any_nil, Bool.and_self, Bool.or_self, Bool.false_eq_true, if_true, if_false, List.nil_append]
    unfold tagL
    simp only [f92, f93, f94, f95, size_ev, Bool.or_true, if_true]
  have s2 : beside ⟨D.toArray⟩ ⟨s.length + 46, [], [], [], 0, [([102], s), ([101], [38, 102, 59])], 0, false⟩ true = .ok (true, ⟨s.length + 61, toksE s true, [], [], 0, [([102], s), ([101], [38, 102, 59])], 0 + 1 + s.length + 1 + s.length, true⟩) := by
    have fg : tag ⟨D.toArray⟩ ⟨s.length + 46, [], [], [], 0, [([102], s), ([101], [38, 102, 59])], 0, false⟩ = .ok ((), ⟨s.length + 61, toksE s true, [], [], 0, [([102], s), ([101], [38, 102, 59])], 0 + 1 + s.length + 1 + s.length, true⟩) := by
      unfold tag
      simp only [f66, St.to, Nat.add_assoc, Nat.reduceAdd, if_true]
      rw [show (⟨D.toArray⟩ : ByteArray).size + 1 = m + 11 + 1 + 1 by rw [size_ev, hm], fa]
      simp [f95, flushAdd, flush, add, Nat.add_assoc, toksE]
    unfold beside
    simp only [f59, f60, f61, f62, f63, f64, f65, fg, Bool.not_true, Bool.or_self, Bool.false_eq_true, if_false]
  have hw : whole ⟨D.toArray⟩ St.start = .ok ((), ⟨s.length + 61, toksE s true, [], [], 0, [([102], s), ([101], [38, 102, 59])], 0 + 1 + s.length + 1 + s.length, true⟩) := by
    unfold whole
    rw [show has _ St.start _ = _ from f0 _ _ _ _ _ _ _]
    simp only [Bool.false_and, Bool.false_eq_true, if_false]
    rw [show (⟨D.toArray⟩ : ByteArray).size + 1 = (m + 11) + 1 + 1 by rw [size_ev, hm]]
    rw [show parts ⟨D.toArray⟩ ((m + 11) + 1 + 1) St.start false = _ from parts_out (by rw [size_ev]; show 0 < _; omega) rfl s1, parts_out (by rw [size_ev]; simp only; omega) rfl s2, parts_end (by rw [size_ev]; simp only; omega)]
    rfl
  unfold scan
  rw [if_neg (by omega), hb]
  simp only
  rw [hw]

end Go.Proofs.YtahfcgjlcdbnjaaGreatDoor

