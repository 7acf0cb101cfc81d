/- The plain law of XmlscanEntities (printed by gen/law.py). -/
import Derived.Test.YtahfcgjlcdbnjaaGreatDoorMEvl
namespace Go.Proofs.YtahfcgjlcdbnjaaGreatDoor
open Go.RowKit

structure DocIs (D A s B : Bytes) : Prop where
  fine : s.all fine = true
  len : s.length ≤ 3000
  all : D = A ++ (s ++ B)

theorem DocIs.lo {D A s B : Bytes} (h : DocIs D A s B) {k : Nat} (hk : k ≤ A.length) : D.drop k = A.drop k ++ (s ++ B) := by
  rw [h.all, List.drop_append_of_le_length hk]
theorem DocIs.hi {D A s B : Bytes} (h : DocIs D A s B) {m k : Nat} (hm : m = A.length + k) : D.drop (s.length + m) = B.drop k := by
  rw [h.all, hm, show s.length + (A.length + k) = A.length + (s.length + k) by omega, List.drop_length_add_append, List.drop_length_add_append]
theorem DocIs.size {D A s B : Bytes} (h : DocIs D A s B) : D.length = A.length + s.length + B.length := by
  rw [h.all]; simp; omega


section
variable {s : ByteArray} {σ σ' : St} {n : Nat}
theorem parts_in {t : Bool} (h : σ.pos < s.size) (ho : 0 < σ.opn.length) (hc : content s σ = .ok ((), σ')) : parts s (n + 1) σ t = parts s n σ' t := by
  show (if σ.pos < s.size then _ else _) = _
  rw [if_pos h, if_pos ho, hc]
theorem parts_bad {t : Bool} {x : Int × Int} (h : σ.pos < s.size) (ho : 0 < σ.opn.length) (hc : content s σ = .error x) : parts s (n + 1) σ t = .error x := by
  show (if σ.pos < s.size then _ else _) = _
  rw [if_pos h, if_pos ho, hc]
theorem parts_out {t t' : Bool} (h : σ.pos < s.size) (ho : σ.opn = []) (hc : beside s σ t = .ok (t', σ')) : parts s (n + 1) σ t = parts s n σ' t' := by
  show (if σ.pos < s.size then _ else _) = _
  rw [if_pos h, if_neg (by rw [ho]; simp), hc]
theorem parts_end {t : Bool} (h : ¬ σ.pos < s.size) : parts s n σ t = .ok ((), σ) := by
  cases n with
  | zero => rfl
  | succ n => show (if σ.pos < s.size then _ else _) = _; rw [if_neg h]
end

theorem nE : isName [101] = true := by kernel_rfl
theorem qE : (split [101]).isSome = true := by kernel_rfl
theorem snE_32 (r : Bytes) : wordN false (101 :: 32 :: r) = 1 := by
  simp [wordN_cons, goesOn, begins, within, goesHigh]
theorem snE_59 (r : Bytes) : wordN false (101 :: 59 :: r) = 1 := by
  simp [wordN_cons, goesOn, begins, within, goesHigh]
theorem snE_61 (r : Bytes) : wordN false (101 :: 61 :: r) = 1 := by
  simp [wordN_cons, goesOn, begins, within, goesHigh]
theorem snE_62 (r : Bytes) : wordN false (101 :: 62 :: r) = 1 := by
  simp [wordN_cons, goesOn, begins, within, goesHigh]
theorem scE_32 (r : Bytes) : wordN true (101 :: 32 :: r) = 1 := by
  simp [wordN_cons, goesOn, begins, within, goesHigh]
theorem scE_59 (r : Bytes) : wordN true (101 :: 59 :: r) = 1 := by
  simp [wordN_cons, goesOn, begins, within, goesHigh]
theorem scE_61 (r : Bytes) : wordN true (101 :: 61 :: r) = 1 := by
  simp [wordN_cons, goesOn, begins, within, goesHigh]
theorem scE_62 (r : Bytes) : wordN true (101 :: 62 :: r) = 1 := by
  simp [wordN_cons, goesOn, begins, within, goesHigh]
theorem nL : isName [108, 116, 45, 101] = true := by kernel_rfl
theorem qL : (split [108, 116, 45, 101]).isSome = true := by kernel_rfl
theorem snL_32 (r : Bytes) : wordN false (108 :: 116 :: 45 :: 101 :: 32 :: r) = 4 := by
  simp [wordN_cons, goesOn, begins, within, goesHigh]
theorem snL_59 (r : Bytes) : wordN false (108 :: 116 :: 45 :: 101 :: 59 :: r) = 4 := by
  simp [wordN_cons, goesOn, begins, within, goesHigh]
theorem snL_61 (r : Bytes) : wordN false (108 :: 116 :: 45 :: 101 :: 61 :: r) = 4 := by
  simp [wordN_cons, goesOn, begins, within, goesHigh]
theorem snL_62 (r : Bytes) : wordN false (108 :: 116 :: 45 :: 101 :: 62 :: r) = 4 := by
  simp [wordN_cons, goesOn, begins, within, goesHigh]
theorem scL_32 (r : Bytes) : wordN true (108 :: 116 :: 45 :: 101 :: 32 :: r) = 4 := by
  simp [wordN_cons, goesOn, begins, within, goesHigh]
theorem scL_59 (r : Bytes) : wordN true (108 :: 116 :: 45 :: 101 :: 59 :: r) = 4 := by
  simp [wordN_cons, goesOn, begins, within, goesHigh]
theorem scL_61 (r : Bytes) : wordN true (108 :: 116 :: 45 :: 101 :: 61 :: r) = 4 := by
  simp [wordN_cons, goesOn, begins, within, goesHigh]
theorem scL_62 (r : Bytes) : wordN true (108 :: 116 :: 45 :: 101 :: 62 :: r) = 4 := by
  simp [wordN_cons, goesOn, begins, within, goesHigh]
theorem nA : isName [97] = true := by kernel_rfl
theorem qA : (split [97]).isSome = true := by kernel_rfl
theorem snA_32 (r : Bytes) : wordN false (97 :: 32 :: r) = 1 := by
  simp [wordN_cons, goesOn, begins, within, goesHigh]
theorem snA_59 (r : Bytes) : wordN false (97 :: 59 :: r) = 1 := by
  simp [wordN_cons, goesOn, begins, within, goesHigh]
theorem snA_61 (r : Bytes) : wordN false (97 :: 61 :: r) = 1 := by
  simp [wordN_cons, goesOn, begins, within, goesHigh]
theorem snA_62 (r : Bytes) : wordN false (97 :: 62 :: r) = 1 := by
  simp [wordN_cons, goesOn, begins, within, goesHigh]
theorem scA_32 (r : Bytes) : wordN true (97 :: 32 :: r) = 1 := by
  simp [wordN_cons, goesOn, begins, within, goesHigh]
theorem scA_59 (r : Bytes) : wordN true (97 :: 59 :: r) = 1 := by
  simp [wordN_cons, goesOn, begins, within, goesHigh]
theorem scA_61 (r : Bytes) : wordN true (97 :: 61 :: r) = 1 := by
  simp [wordN_cons, goesOn, begins, within, goesHigh]
theorem scA_62 (r : Bytes) : wordN true (97 :: 62 :: r) = 1 := by
  simp [wordN_cons, goesOn, begins, within, goesHigh]
theorem nB : isName [98] = true := by kernel_rfl
theorem qB : (split [98]).isSome = true := by kernel_rfl
theorem snB_32 (r : Bytes) : wordN false (98 :: 32 :: r) = 1 := by
  simp [wordN_cons, goesOn, begins, within, goesHigh]
theorem snB_59 (r : Bytes) : wordN false (98 :: 59 :: r) = 1 := by
  simp [wordN_cons, goesOn, begins, within, goesHigh]
theorem snB_61 (r : Bytes) : wordN false (98 :: 61 :: r) = 1 := by
  simp [wordN_cons, goesOn, begins, within, goesHigh]
theorem snB_62 (r : Bytes) : wordN false (98 :: 62 :: r) = 1 := by
  simp [wordN_cons, goesOn, begins, within, goesHigh]
theorem scB_32 (r : Bytes) : wordN true (98 :: 32 :: r) = 1 := by
  simp [wordN_cons, goesOn, begins, within, goesHigh]
theorem scB_59 (r : Bytes) : wordN true (98 :: 59 :: r) = 1 := by
  simp [wordN_cons, goesOn, begins, within, goesHigh]
theorem scB_61 (r : Bytes) : wordN true (98 :: 61 :: r) = 1 := by
  simp [wordN_cons, goesOn, begins, within, goesHigh]
theorem scB_62 (r : Bytes) : wordN true (98 :: 62 :: r) = 1 := by
  simp [wordN_cons, goesOn, begins, within, goesHigh]
theorem plainE : plain [101] = none := by kernel_rfl
set_option maxHeartbeats 2000000 in
set_option maxRecDepth 100000 in
theorem scanAE (s : Bytes) (h0 : s.all fine = true) (h3 : s.length ≤ 3000) : scan (docA [101] s) = .ok (toksA s) := by
  obtain ⟨D, hD⟩ : ∃ D, D = docA [101] s := ⟨_, rfl⟩
  rw [← hD]
  have h : DocIs D [60, 33, 68, 79, 67, 84, 89, 80, 69, 32, 97, 32, 91, 60, 33, 69, 78, 84, 73, 84, 89, 32, 101, 32, 34] s [34, 62, 93, 62, 60, 97, 32, 98, 61, 39, 38, 101, 59, 39, 62, 120, 38, 101, 59, 121, 38, 101, 59, 60, 47, 97, 62] := ⟨h0, h3, by rw [hD]; simp [docA]⟩
  have hlo : ∀ k, k ≤ 25 → D.drop k = ([60, 33, 68, 79, 67, 84, 89, 80, 69, 32, 97, 32, 91, 60, 33, 69, 78, 84, 73, 84, 89, 32, 101, 32, 34] : Bytes).drop k ++ (s ++ [34, 62, 93, 62, 60, 97, 32, 98, 61, 39, 38, 101, 59, 39, 62, 120, 38, 101, 59, 121, 38, 101, 59, 60, 47, 97, 62]) := fun k hk => h.lo hk
  have hhi : ∀ k, D.drop (s.length + (25 + k)) = ([34, 62, 93, 62, 60, 97, 32, 98, 61, 39, 38, 101, 59, 39, 62, 120, 38, 101, 59, 121, 38, 101, 59, 60, 47, 97, 62] : Bytes).drop k := fun k => h.hi rfl
  have hz : D.length = 25 + s.length + 27 := h.size
  have hb : badAt D.length D 0 = none := badAt_print _ _ _ (by
    rw [h.all]
    have hp := fine_print h0
    intro c hc
    simp only [List.mem_append] at hc
    have lits : ∀ l : Bytes, (l.all fun c => decide (32 ≤ c.toNat) && decide (c.toNat ≤ 126)) = true → ∀ c ∈ l, 32 ≤ c.toNat ∧ c.toNat ≤ 126 := fun l hl c hc => by
      have := List.all_eq_true.1 hl c hc
      simpa using this
    rcases hc with hc | hc | hc
    · exact lits _ (by decide) c hc
    · exact hp c hc
    · exact lits _ (by decide) c hc)
  have f0 : ∀ t o x b e g d, has ⟨D.toArray⟩ ⟨0, t, o, x, b, e, g, d⟩ [60, 63, 120, 109, 108] = false := fun t o x b e g d => by
    rw [has_ev, show D.drop (St.pos ⟨0, t, o, x, b, e, g, d⟩) = _ from hlo 0 (by decide)]
    rfl
  have f1 : 0 < D.length := by omega
  have f2 : 0 ≤ D.length := by omega
  have f3 : ∀ t o x b e g d, blanks ⟨D.toArray⟩ ⟨0, t, o, x, b, e, g, d⟩ = (false, ⟨0, t, o, x, b, e, g, d⟩) := fun t o x b e g d => (blanks_ev (D := D) (σ := ⟨0, t, o, x, b, e, g, d⟩) f2).trans (by
    rw [show D.drop (St.pos ⟨0, t, o, x, b, e, g, d⟩) = _ from hlo 0 (by decide)]
    rfl)
  have f4 : ∀ t o x b e g d, has ⟨D.toArray⟩ ⟨0, t, o, x, b, e, g, d⟩ [60, 33, 45, 45] = false := fun t o x b e g d => by
    rw [has_ev, show D.drop (St.pos ⟨0, t, o, x, b, e, g, d⟩) = _ from hlo 0 (by decide)]
    rfl
  have f5 : ∀ t o x b e g d, has ⟨D.toArray⟩ ⟨0, t, o, x, b, e, g, d⟩ [60, 63] = false := fun t o x b e g d => by
    rw [has_ev, show D.drop (St.pos ⟨0, t, o, x, b, e, g, d⟩) = _ from hlo 0 (by decide)]
    rfl
  have f6 : ∀ t o x b e g d, has ⟨D.toArray⟩ ⟨0, t, o, x, b, e, g, d⟩ [60, 33, 68, 79, 67, 84, 89, 80, 69] = true := fun t o x b e g d => by
    rw [has_ev, show D.drop (St.pos ⟨0, t, o, x, b, e, g, d⟩) = _ from hlo 0 (by decide)]
    rfl
  have f7 : 9 ≤ D.length := by omega
  have f8 : ∀ t o x b e g d, blanks ⟨D.toArray⟩ ⟨9, t, o, x, b, e, g, d⟩ = (true, ⟨10, t, o, x, b, e, g, d⟩) := fun t o x b e g d => (blanks_ev (D := D) (σ := ⟨9, t, o, x, b, e, g, d⟩) f7).trans (by
    rw [show D.drop (St.pos ⟨9, t, o, x, b, e, g, d⟩) = _ from hlo 9 (by decide)]
    rfl)
  have f9 : ∀ t o x b e g d, qname ⟨D.toArray⟩ ⟨10, t, o, x, b, e, g, d⟩ = (([97], true), ⟨11, t, o, x, b, e, g, d⟩) := fun t o x b e g d => by
    have hw : wordN true (D.drop (St.pos ⟨10, t, o, x, b, e, g, d⟩)) = 1 := by
      rw [show D.drop (St.pos ⟨10, t, o, x, b, e, g, d⟩) = _ from hlo 10 (by decide)]
      exact scA_32 _
    have ht : (D.drop (St.pos ⟨10, t, o, x, b, e, g, d⟩)).take 1 = [97] := by
      rw [show D.drop (St.pos ⟨10, t, o, x, b, e, g, d⟩) = _ from hlo 10 (by decide)]
      rfl
    unfold qname
    simp only [word_ev, hw, ht]
    rw [show (split [97]).isSome = true from qA]
    rfl
  have f10 : 11 ≤ D.length := by omega
  have f11 : ∀ t o x b e g d, blanks ⟨D.toArray⟩ ⟨11, t, o, x, b, e, g, d⟩ = (true, ⟨12, t, o, x, b, e, g, d⟩) := fun t o x b e g d => (blanks_ev (D := D) (σ := ⟨11, t, o, x, b, e, g, d⟩) f10).trans (by
    rw [show D.drop (St.pos ⟨11, t, o, x, b, e, g, d⟩) = _ from hlo 11 (by decide)]
    rfl)
  have f12 : ∀ t o x b e g d, has ⟨D.toArray⟩ ⟨12, t, o, x, b, e, g, d⟩ [91] = true := fun t o x b e g d => by
    rw [has_ev, show D.drop (St.pos ⟨12, t, o, x, b, e, g, d⟩) = _ from hlo 12 (by decide)]
    rfl
  have f13 : ∀ t o x b e g d, eat ⟨D.toArray⟩ ⟨12, t, o, x, b, e, g, d⟩ [91] = (true, ⟨13, t, o, x, b, e, g, d⟩) := fun t o x b e g d => by
    unfold eat
    rw [f12]
    rfl
  have f14 : 13 ≤ D.length := by omega
  have f15 : ∀ t o x b e g d, blanks ⟨D.toArray⟩ ⟨13, t, o, x, b, e, g, d⟩ = (false, ⟨13, t, o, x, b, e, g, d⟩) := fun t o x b e g d => (blanks_ev (D := D) (σ := ⟨13, t, o, x, b, e, g, d⟩) f14).trans (by
    rw [show D.drop (St.pos ⟨13, t, o, x, b, e, g, d⟩) = _ from hlo 13 (by decide)]
    rfl)
  have f16 : ∀ t o x b e g d, has ⟨D.toArray⟩ ⟨13, t, o, x, b, e, g, d⟩ [60, 33, 45, 45] = false := fun t o x b e g d => by
    rw [has_ev, show D.drop (St.pos ⟨13, t, o, x, b, e, g, d⟩) = _ from hlo 13 (by decide)]
    rfl
  have f17 : ∀ t o x b e g d, has ⟨D.toArray⟩ ⟨13, t, o, x, b, e, g, d⟩ [60, 63] = false := fun t o x b e g d => by
    rw [has_ev, show D.drop (St.pos ⟨13, t, o, x, b, e, g, d⟩) = _ from hlo 13 (by decide)]
    rfl
  have f18 : ∀ t o x b e g d, has ⟨D.toArray⟩ ⟨13, t, o, x, b, e, g, d⟩ [60, 33, 69, 78, 84, 73, 84, 89] = true := fun t o x b e g d => by
    rw [has_ev, show D.drop (St.pos ⟨13, t, o, x, b, e, g, d⟩) = _ from hlo 13 (by decide)]
    rfl
  have f19 : 21 ≤ D.length := by omega
  have f20 : ∀ t o x b e g d, blanks ⟨D.toArray⟩ ⟨21, t, o, x, b, e, g, d⟩ = (true, ⟨22, t, o, x, b, e, g, d⟩) := fun t o x b e g d => (blanks_ev (D := D) (σ := ⟨21, t, o, x, b, e, g, d⟩) f19).trans (by
    rw [show D.drop (St.pos ⟨21, t, o, x, b, e, g, d⟩) = _ from hlo 21 (by decide)]
    rfl)
  have f21 : ∀ t o x b e g d, name ⟨D.toArray⟩ ⟨22, t, o, x, b, e, g, d⟩ = (([101], true), ⟨23, t, o, x, b, e, g, d⟩) := fun t o x b e g d => by
    have hw : wordN false (D.drop (St.pos ⟨22, t, o, x, b, e, g, d⟩)) = 1 := by
      rw [show D.drop (St.pos ⟨22, t, o, x, b, e, g, d⟩) = _ from hlo 22 (by decide)]
      exact snE_32 _
    have ht : (D.drop (St.pos ⟨22, t, o, x, b, e, g, d⟩)).take 1 = [101] := by
      rw [show D.drop (St.pos ⟨22, t, o, x, b, e, g, d⟩) = _ from hlo 22 (by decide)]
      rfl
    unfold name
    simp only [word_ev, hw, ht]
    rw [show isName [101] = true from nE]
    rfl
  have f22 : 23 ≤ D.length := by omega
  have f23 : ∀ t o x b e g d, blanks ⟨D.toArray⟩ ⟨23, t, o, x, b, e, g, d⟩ = (true, ⟨24, t, o, x, b, e, g, d⟩) := fun t o x b e g d => (blanks_ev (D := D) (σ := ⟨23, t, o, x, b, e, g, d⟩) f22).trans (by
    rw [show D.drop (St.pos ⟨23, t, o, x, b, e, g, d⟩) = _ from hlo 23 (by decide)]
    rfl)
  have f24 : ∀ t o x b e g d, has ⟨D.toArray⟩ ⟨24, t, o, x, b, e, g, d⟩ [39] = false := fun t o x b e g d => by
    rw [has_ev, show D.drop (St.pos ⟨24, t, o, x, b, e, g, d⟩) = _ from hlo 24 (by decide)]
    rfl
  have f25 : ∀ t o x b e g d, has ⟨D.toArray⟩ ⟨24, t, o, x, b, e, g, d⟩ [34] = true := fun t o x b e g d => by
    rw [has_ev, show D.drop (St.pos ⟨24, t, o, x, b, e, g, d⟩) = _ from hlo 24 (by decide)]
    rfl
  have f26 : ∀ t o x b e g d, quoted ⟨D.toArray⟩ ⟨24, t, o, x, b, e, g, d⟩ = ((s, true), ⟨s.length + 26, t, o, x, b, e, g, d⟩) := fun t o x b e g d => by
    unfold quoted sign
    rw [f24, f25]
    have hu := upto_ev (D := D) (σ := ⟨25, t, o, x, b, e, g, d⟩) (a := s) (c := 34) (r := D.drop (s.length + 26)) (by
      rw [show D.drop (St.pos _) = _ from hlo 25 (by decide), show D.drop (s.length + 26) = _ from hhi 1]
      rfl) (by exact fine_not h.fine (by decide))
    simp only [Bool.false_eq_true, if_false, if_true, St.to]
    refine (show upto _ _ _ = _ from hu).trans ?_
    simp only [St.to]
    rw [show 25 + s.length + 1 = s.length + 26 by omega]
  have f27 : s.length + 26 ≤ D.length := by omega
  have f28 : ∀ t o x b e g d, blanks ⟨D.toArray⟩ ⟨s.length + 26, t, o, x, b, e, g, d⟩ = (false, ⟨s.length + 26, t, o, x, b, e, g, d⟩) := fun t o x b e g d => (blanks_ev (D := D) (σ := ⟨s.length + 26, t, o, x, b, e, g, d⟩) f27).trans (by
    rw [show D.drop (St.pos ⟨s.length + 26, t, o, x, b, e, g, d⟩) = _ from hhi 1]
    rfl)
  have f29 : ∀ t o x b e g d, has ⟨D.toArray⟩ ⟨s.length + 26, t, o, x, b, e, g, d⟩ [62] = true := fun t o x b e g d => by
    rw [has_ev, show D.drop (St.pos ⟨s.length + 26, t, o, x, b, e, g, d⟩) = _ from hhi 1]
    rfl
  have f30 : ∀ t o x b e g d, eat ⟨D.toArray⟩ ⟨s.length + 26, t, o, x, b, e, g, d⟩ [62] = (true, ⟨s.length + 27, t, o, x, b, e, g, d⟩) := fun t o x b e g d => by
    unfold eat
    rw [f29]
    rfl
  have f31 : s.length + 27 ≤ D.length := by omega
  have f32 : ∀ t o x b e g d, blanks ⟨D.toArray⟩ ⟨s.length + 27, t, o, x, b, e, g, d⟩ = (false, ⟨s.length + 27, t, o, x, b, e, g, d⟩) := fun t o x b e g d => (blanks_ev (D := D) (σ := ⟨s.length + 27, t, o, x, b, e, g, d⟩) f31).trans (by
    rw [show D.drop (St.pos ⟨s.length + 27, t, o, x, b, e, g, d⟩) = _ from hhi 2]
    rfl)
  have f33 : ∀ t o x b e g d, has ⟨D.toArray⟩ ⟨s.length + 27, t, o, x, b, e, g, d⟩ [60, 33, 45, 45] = false := fun t o x b e g d => by
    rw [has_ev, show D.drop (St.pos ⟨s.length + 27, t, o, x, b, e, g, d⟩) = _ from hhi 2]
    rfl
  have f34 : ∀ t o x b e g d, has ⟨D.toArray⟩ ⟨s.length + 27, t, o, x, b, e, g, d⟩ [60, 63] = false := fun t o x b e g d => by
    rw [has_ev, show D.drop (St.pos ⟨s.length + 27, t, o, x, b, e, g, d⟩) = _ from hhi 2]
    rfl
  have f35 : ∀ t o x b e g d, has ⟨D.toArray⟩ ⟨s.length + 27, t, o, x, b, e, g, d⟩ [60, 33, 69, 78, 84, 73, 84, 89] = false := fun t o x b e g d => by
    rw [has_ev, show D.drop (St.pos ⟨s.length + 27, t, o, x, b, e, g, d⟩) = _ from hhi 2]
    rfl
  have f36 : ∀ t o x b e g d, has ⟨D.toArray⟩ ⟨s.length + 27, t, o, x, b, e, g, d⟩ [93] = true := fun t o x b e g d => by
    rw [has_ev, show D.drop (St.pos ⟨s.length + 27, t, o, x, b, e, g, d⟩) = _ from hhi 2]
    rfl
  have f37 : ∀ t o x b e g d, eat ⟨D.toArray⟩ ⟨s.length + 27, t, o, x, b, e, g, d⟩ [93] = (true, ⟨s.length + 28, t, o, x, b, e, g, d⟩) := fun t o x b e g d => by
    unfold eat
    rw [f36]
    rfl
  have f38 : s.length + 28 ≤ D.length := by omega
  have f39 : ∀ t o x b e g d, blanks ⟨D.toArray⟩ ⟨s.length + 28, t, o, x, b, e, g, d⟩ = (false, ⟨s.length + 28, t, o, x, b, e, g, d⟩) := fun t o x b e g d => (blanks_ev (D := D) (σ := ⟨s.length + 28, t, o, x, b, e, g, d⟩) f38).trans (by
    rw [show D.drop (St.pos ⟨s.length + 28, t, o, x, b, e, g, d⟩) = _ from hhi 3]
    rfl)
  have f40 : ∀ t o x b e g d, has ⟨D.toArray⟩ ⟨s.length + 28, t, o, x, b, e, g, d⟩ [62] = true := fun t o x b e g d => by
    rw [has_ev, show D.drop (St.pos ⟨s.length + 28, t, o, x, b, e, g, d⟩) = _ from hhi 3]
    rfl
  have f41 : ∀ t o x b e g d, eat ⟨D.toArray⟩ ⟨s.length + 28, t, o, x, b, e, g, d⟩ [62] = (true, ⟨s.length + 29, t, o, x, b, e, g, d⟩) := fun t o x b e g d => by
    unfold eat
    rw [f40]
    rfl
  have f42 : s.length + 29 < D.length := by omega
  have f43 : s.length + 29 ≤ D.length := by omega
  have f44 : ∀ t o x b e g d, blanks ⟨D.toArray⟩ ⟨s.length + 29, t, o, x, b, e, g, d⟩ = (false, ⟨s.length + 29, t, o, x, b, e, g, d⟩) := fun t o x b e g d => (blanks_ev (D := D) (σ := ⟨s.length + 29, t, o, x, b, e, g, d⟩) f43).trans (by
    rw [show D.drop (St.pos ⟨s.length + 29, t, o, x, b, e, g, d⟩) = _ from hhi 4]
    rfl)
  have f45 : ∀ t o x b e g d, has ⟨D.toArray⟩ ⟨s.length + 29, t, o, x, b, e, g, d⟩ [60, 33, 45, 45] = false := fun t o x b e g d => by
    rw [has_ev, show D.drop (St.pos ⟨s.length + 29, t, o, x, b, e, g, d⟩) = _ from hhi 4]
    rfl
  have f46 : ∀ t o x b e g d, has ⟨D.toArray⟩ ⟨s.length + 29, t, o, x, b, e, g, d⟩ [60, 63] = false := fun t o x b e g d => by
    rw [has_ev, show D.drop (St.pos ⟨s.length + 29, t, o, x, b, e, g, d⟩) = _ from hhi 4]
    rfl
  have f47 : ∀ t o x b e g d, has ⟨D.toArray⟩ ⟨s.length + 29, t, o, x, b, e, g, d⟩ [60, 33, 68, 79, 67, 84, 89, 80, 69] = false := fun t o x b e g d => by
    rw [has_ev, show D.drop (St.pos ⟨s.length + 29, t, o, x, b, e, g, d⟩) = _ from hhi 4]
    rfl
  have f48 : ∀ t o x b e g d, has ⟨D.toArray⟩ ⟨s.length + 29, t, o, x, b, e, g, d⟩ [60] = true := fun t o x b e g d => by
    rw [has_ev, show D.drop (St.pos ⟨s.length + 29, t, o, x, b, e, g, d⟩) = _ from hhi 4]
    rfl
  have f49 : ∀ t o x b e g d, has ⟨D.toArray⟩ ⟨s.length + 29, t, o, x, b, e, g, d⟩ [60, 47] = false := fun t o x b e g d => by
    rw [has_ev, show D.drop (St.pos ⟨s.length + 29, t, o, x, b, e, g, d⟩) = _ from hhi 4]
    rfl
  have f50 : ∀ t o x b e g d, has ⟨D.toArray⟩ ⟨s.length + 29, t, o, x, b, e, g, d⟩ [60, 33] = false := fun t o x b e g d => by
    rw [has_ev, show D.drop (St.pos ⟨s.length + 29, t, o, x, b, e, g, d⟩) = _ from hhi 4]
    rfl
  have f51 : ∀ t o x b e g d, qname ⟨D.toArray⟩ ⟨s.length + 30, t, o, x, b, e, g, d⟩ = (([97], true), ⟨s.length + 31, t, o, x, b, e, g, d⟩) := fun t o x b e g d => by
    have hw : wordN true (D.drop (St.pos ⟨s.length + 30, t, o, x, b, e, g, d⟩)) = 1 := by
      rw [show D.drop (St.pos ⟨s.length + 30, t, o, x, b, e, g, d⟩) = _ from hhi 5]
      exact scA_32 _
    have ht : (D.drop (St.pos ⟨s.length + 30, t, o, x, b, e, g, d⟩)).take 1 = [97] := by
      rw [show D.drop (St.pos ⟨s.length + 30, t, o, x, b, e, g, d⟩) = _ from hhi 5]
      rfl
    unfold qname
    simp only [word_ev, hw, ht]
    rw [show (split [97]).isSome = true from qA]
    rfl
  have f52 : s.length + 31 ≤ D.length := by omega
  have f53 : ∀ t o x b e g d, blanks ⟨D.toArray⟩ ⟨s.length + 31, t, o, x, b, e, g, d⟩ = (true, ⟨s.length + 32, t, o, x, b, e, g, d⟩) := fun t o x b e g d => (blanks_ev (D := D) (σ := ⟨s.length + 31, t, o, x, b, e, g, d⟩) f52).trans (by
    rw [show D.drop (St.pos ⟨s.length + 31, t, o, x, b, e, g, d⟩) = _ from hhi 6]
    rfl)
  have f54 : s.length + 32 < D.length := by omega
  have f55 : ∀ t o x b e g d, has ⟨D.toArray⟩ ⟨s.length + 32, t, o, x, b, e, g, d⟩ [62] = false := fun t o x b e g d => by
    rw [has_ev, show D.drop (St.pos ⟨s.length + 32, t, o, x, b, e, g, d⟩) = _ from hhi 7]
    rfl
  have f56 : ∀ t o x b e g d, has ⟨D.toArray⟩ ⟨s.length + 32, t, o, x, b, e, g, d⟩ [47, 62] = false := fun t o x b e g d => by
    rw [has_ev, show D.drop (St.pos ⟨s.length + 32, t, o, x, b, e, g, d⟩) = _ from hhi 7]
    rfl
  have f57 : ∀ t o x b e g d, qname ⟨D.toArray⟩ ⟨s.length + 32, t, o, x, b, e, g, d⟩ = (([98], true), ⟨s.length + 33, t, o, x, b, e, g, d⟩) := fun t o x b e g d => by
    have hw : wordN true (D.drop (St.pos ⟨s.length + 32, t, o, x, b, e, g, d⟩)) = 1 := by
      rw [show D.drop (St.pos ⟨s.length + 32, t, o, x, b, e, g, d⟩) = _ from hhi 7]
      exact scB_61 _
    have ht : (D.drop (St.pos ⟨s.length + 32, t, o, x, b, e, g, d⟩)).take 1 = [98] := by
      rw [show D.drop (St.pos ⟨s.length + 32, t, o, x, b, e, g, d⟩) = _ from hhi 7]
      rfl
    unfold qname
    simp only [word_ev, hw, ht]
    rw [show (split [98]).isSome = true from qB]
    rfl
  have f58 : s.length + 33 ≤ D.length := by omega
  have f59 : ∀ t o x b e g d, blanks ⟨D.toArray⟩ ⟨s.length + 33, t, o, x, b, e, g, d⟩ = (false, ⟨s.length + 33, t, o, x, b, e, g, d⟩) := fun t o x b e g d => (blanks_ev (D := D) (σ := ⟨s.length + 33, t, o, x, b, e, g, d⟩) f58).trans (by
    rw [show D.drop (St.pos ⟨s.length + 33, t, o, x, b, e, g, d⟩) = _ from hhi 8]
    rfl)
  have f60 : ∀ t o x b e g d, has ⟨D.toArray⟩ ⟨s.length + 33, t, o, x, b, e, g, d⟩ [61] = true := fun t o x b e g d => by
    rw [has_ev, show D.drop (St.pos ⟨s.length + 33, t, o, x, b, e, g, d⟩) = _ from hhi 8]
    rfl
  have f61 : ∀ t o x b e g d, eat ⟨D.toArray⟩ ⟨s.length + 33, t, o, x, b, e, g, d⟩ [61] = (true, ⟨s.length + 34, t, o, x, b, e, g, d⟩) := fun t o x b e g d => by
    unfold eat
    rw [f60]
    rfl
  have f62 : s.length + 34 ≤ D.length := by omega
  have f63 : ∀ t o x b e g d, blanks ⟨D.toArray⟩ ⟨s.length + 34, t, o, x, b, e, g, d⟩ = (false, ⟨s.length + 34, t, o, x, b, e, g, d⟩) := fun t o x b e g d => (blanks_ev (D := D) (σ := ⟨s.length + 34, t, o, x, b, e, g, d⟩) f62).trans (by
    rw [show D.drop (St.pos ⟨s.length + 34, t, o, x, b, e, g, d⟩) = _ from hhi 9]
    rfl)
  have f64 : ∀ t o x b e g d, has ⟨D.toArray⟩ ⟨s.length + 34, t, o, x, b, e, g, d⟩ [39] = true := fun t o x b e g d => by
    rw [has_ev, show D.drop (St.pos ⟨s.length + 34, t, o, x, b, e, g, d⟩) = _ from hhi 9]
    rfl
  have f65 : ∀ t o x b e g d, has ⟨D.toArray⟩ ⟨s.length + 34, t, o, x, b, e, g, d⟩ [34] = false := fun t o x b e g d => by
    rw [has_ev, show D.drop (St.pos ⟨s.length + 34, t, o, x, b, e, g, d⟩) = _ from hhi 9]
    rfl
  have f66 : s.length + 35 < D.length := by omega
  have f67 : ∀ t o x b e g d, has ⟨D.toArray⟩ ⟨s.length + 35, t, o, x, b, e, g, d⟩ [39] = false := fun t o x b e g d => by
    rw [has_ev, show D.drop (St.pos ⟨s.length + 35, t, o, x, b, e, g, d⟩) = _ from hhi 10]
    rfl
  have f68 : ∀ t o x b e g d, rest ⟨D.toArray⟩ ⟨s.length + 35, t, o, x, b, e, g, d⟩ = 38 :: D.drop (s.length + 36) := fun t o x b e g d => by
    rw [rest_ev, show D.drop (St.pos ⟨s.length + 35, t, o, x, b, e, g, d⟩) = _ from hhi 10, show D.drop (s.length + 36) = _ from hhi 11]
    rfl
  have f69 : ∀ t o x b e g d at_, refM ⟨D.toArray⟩ ⟨s.length + 35, t, o, x, b, e, g, d⟩ at_ = match expandN e at_ (s.length + 35 : Nat) 8 [] [101] [] g with | .error x => .error x | .ok (o', k) => .ok (o', ⟨s.length + 38, t, o, x, b, e, k, d⟩) := fun t o x b e g d at_ => by
    have hr := ref_ev (n := [101]) (r := D.drop (s.length + 38)) nE (by decide) (by decide)
    have hd : rest ⟨D.toArray⟩ ⟨s.length + 35, t, o, x, b, e, g, d⟩ = 38 :: ([101] ++ 59 :: D.drop (s.length + 38)) := by
      rw [rest_ev, show D.drop (St.pos ⟨s.length + 35, t, o, x, b, e, g, d⟩) = _ from hhi 10, show D.drop (s.length + 38) = _ from hhi 13]
      rfl
    unfold refM
    rw [hd, hr.1, hr.2]
    simp only [St.to]
    rfl
  have f70 : s.length + 38 < D.length := by omega
  have f71 : ∀ t o x b e g d, has ⟨D.toArray⟩ ⟨s.length + 38, t, o, x, b, e, g, d⟩ [39] = true := fun t o x b e g d => by
    rw [has_ev, show D.drop (St.pos ⟨s.length + 38, t, o, x, b, e, g, d⟩) = _ from hhi 13]
    rfl
  have f72 : s.length + 39 ≤ D.length := by omega
  have f73 : ∀ t o x b e g d, blanks ⟨D.toArray⟩ ⟨s.length + 39, t, o, x, b, e, g, d⟩ = (false, ⟨s.length + 39, t, o, x, b, e, g, d⟩) := fun t o x b e g d => (blanks_ev (D := D) (σ := ⟨s.length + 39, t, o, x, b, e, g, d⟩) f72).trans (by
    rw [show D.drop (St.pos ⟨s.length + 39, t, o, x, b, e, g, d⟩) = _ from hhi 14]
    rfl)
  have f74 : s.length + 39 < D.length := by omega
  have f75 : ∀ t o x b e g d, has ⟨D.toArray⟩ ⟨s.length + 39, t, o, x, b, e, g, d⟩ [62] = true := fun t o x b e g d => by
    rw [has_ev, show D.drop (St.pos ⟨s.length + 39, t, o, x, b, e, g, d⟩) = _ from hhi 14]
    rfl
  have f76 : ∀ t o x b e g d, has ⟨D.toArray⟩ ⟨s.length + 39, t, o, x, b, e, g, d⟩ [47, 62] = false := fun t o x b e g d => by
    rw [has_ev, show D.drop (St.pos ⟨s.length + 39, t, o, x, b, e, g, d⟩) = _ from hhi 14]
    rfl
  have f77 : s.length + 40 < D.length := by omega
  have f78 : ∀ t o x b e g d, has ⟨D.toArray⟩ ⟨s.length + 40, t, o, x, b, e, g, d⟩ [60, 47] = false := fun t o x b e g d => by
    rw [has_ev, show D.drop (St.pos ⟨s.length + 40, t, o, x, b, e, g, d⟩) = _ from hhi 15]
    rfl
  have f79 : ∀ t o x b e g d, has ⟨D.toArray⟩ ⟨s.length + 40, t, o, x, b, e, g, d⟩ [60, 33, 45, 45] = false := fun t o x b e g d => by
    rw [has_ev, show D.drop (St.pos ⟨s.length + 40, t, o, x, b, e, g, d⟩) = _ from hhi 15]
    rfl
  have f80 : ∀ t o x b e g d, has ⟨D.toArray⟩ ⟨s.length + 40, t, o, x, b, e, g, d⟩ [60, 63] = false := fun t o x b e g d => by
    rw [has_ev, show D.drop (St.pos ⟨s.length + 40, t, o, x, b, e, g, d⟩) = _ from hhi 15]
    rfl
  have f81 : ∀ t o x b e g d, has ⟨D.toArray⟩ ⟨s.length + 40, t, o, x, b, e, g, d⟩ [60, 33, 91, 67, 68, 65, 84, 65, 91] = false := fun t o x b e g d => by
    rw [has_ev, show D.drop (St.pos ⟨s.length + 40, t, o, x, b, e, g, d⟩) = _ from hhi 15]
    rfl
  have f82 : ∀ t o x b e g d, eat ⟨D.toArray⟩ ⟨s.length + 40, t, o, x, b, e, g, d⟩ [60, 33, 91, 67, 68, 65, 84, 65, 91] = (false, ⟨s.length + 40, t, o, x, b, e, g, d⟩) := fun t o x b e g d => by
    unfold eat
    rw [f81]
    rfl
  have f83 : ∀ t o x b e g d, has ⟨D.toArray⟩ ⟨s.length + 40, t, o, x, b, e, g, d⟩ [60] = false := fun t o x b e g d => by
    rw [has_ev, show D.drop (St.pos ⟨s.length + 40, t, o, x, b, e, g, d⟩) = _ from hhi 15]
    rfl
  have f84 : ∀ t o x b e g d, has ⟨D.toArray⟩ ⟨s.length + 40, t, o, x, b, e, g, d⟩ [38] = false := fun t o x b e g d => by
    rw [has_ev, show D.drop (St.pos ⟨s.length + 40, t, o, x, b, e, g, d⟩) = _ from hhi 15]
    rfl
  have f85 : ∀ t o x b e g d, has ⟨D.toArray⟩ ⟨s.length + 40, t, o, x, b, e, g, d⟩ [93, 93, 62] = false := fun t o x b e g d => by
    rw [has_ev, show D.drop (St.pos ⟨s.length + 40, t, o, x, b, e, g, d⟩) = _ from hhi 15]
    rfl
  have f86 : ∀ t o x b e g d, rest ⟨D.toArray⟩ ⟨s.length + 40, t, o, x, b, e, g, d⟩ = 120 :: D.drop (s.length + 41) := fun t o x b e g d => by
    rw [rest_ev, show D.drop (St.pos ⟨s.length + 40, t, o, x, b, e, g, d⟩) = _ from hhi 15, show D.drop (s.length + 41) = _ from hhi 16]
    rfl
  have f87 : s.length + 41 < D.length := by omega
  have f88 : ∀ t o x b e g d, has ⟨D.toArray⟩ ⟨s.length + 41, t, o, x, b, e, g, d⟩ [60, 47] = false := fun t o x b e g d => by
    rw [has_ev, show D.drop (St.pos ⟨s.length + 41, t, o, x, b, e, g, d⟩) = _ from hhi 16]
    rfl
  have f89 : ∀ t o x b e g d, has ⟨D.toArray⟩ ⟨s.length + 41, t, o, x, b, e, g, d⟩ [60, 33, 45, 45] = false := fun t o x b e g d => by
    rw [has_ev, show D.drop (St.pos ⟨s.length + 41, t, o, x, b, e, g, d⟩) = _ from hhi 16]
    rfl
  have f90 : ∀ t o x b e g d, has ⟨D.toArray⟩ ⟨s.length + 41, t, o, x, b, e, g, d⟩ [60, 63] = false := fun t o x b e g d => by
    rw [has_ev, show D.drop (St.pos ⟨s.length + 41, t, o, x, b, e, g, d⟩) = _ from hhi 16]
    rfl
  have f91 : ∀ t o x b e g d, has ⟨D.toArray⟩ ⟨s.length + 41, t, o, x, b, e, g, d⟩ [60, 33, 91, 67, 68, 65, 84, 65, 91] = false := fun t o x b e g d => by
    rw [has_ev, show D.drop (St.pos ⟨s.length + 41, t, o, x, b, e, g, d⟩) = _ from hhi 16]
    rfl
  have f92 : ∀ t o x b e g d, eat ⟨D.toArray⟩ ⟨s.length + 41, t, o, x, b, e, g, d⟩ [60, 33, 91, 67, 68, 65, 84, 65, 91] = (false, ⟨s.length + 41, t, o, x, b, e, g, d⟩) := fun t o x b e g d => by
    unfold eat
    rw [f91]
    rfl
  have f93 : ∀ t o x b e g d, has ⟨D.toArray⟩ ⟨s.length + 41, t, o, x, b, e, g, d⟩ [60] = false := fun t o x b e g d => by
    rw [has_ev, show D.drop (St.pos ⟨s.length + 41, t, o, x, b, e, g, d⟩) = _ from hhi 16]
    rfl
  have f94 : ∀ t o x b e g d, has ⟨D.toArray⟩ ⟨s.length + 41, t, o, x, b, e, g, d⟩ [38] = true := fun t o x b e g d => by
    rw [has_ev, show D.drop (St.pos ⟨s.length + 41, t, o, x, b, e, g, d⟩) = _ from hhi 16]
    rfl
  have f95 : ∀ t o x b e g d at_, refM ⟨D.toArray⟩ ⟨s.length + 41, t, o, x, b, e, g, d⟩ at_ = match expandN e at_ (s.length + 41 : Nat) 8 [] [101] [] g with | .error x => .error x | .ok (o', k) => .ok (o', ⟨s.length + 44, t, o, x, b, e, k, d⟩) := fun t o x b e g d at_ => by
    have hr := ref_ev (n := [101]) (r := D.drop (s.length + 44)) nE (by decide) (by decide)
    have hd : rest ⟨D.toArray⟩ ⟨s.length + 41, t, o, x, b, e, g, d⟩ = 38 :: ([101] ++ 59 :: D.drop (s.length + 44)) := by
      rw [rest_ev, show D.drop (St.pos ⟨s.length + 41, t, o, x, b, e, g, d⟩) = _ from hhi 16, show D.drop (s.length + 44) = _ from hhi 19]
      rfl
    unfold refM
    rw [hd, hr.1, hr.2]
    simp only [St.to]
    rfl
  have f96 : s.length + 44 < D.length := by omega
  have f97 : ∀ t o x b e g d, has ⟨D.toArray⟩ ⟨s.length + 44, t, o, x, b, e, g, d⟩ [60, 47] = false := fun t o x b e g d => by
    rw [has_ev, show D.drop (St.pos ⟨s.length + 44, t, o, x, b, e, g, d⟩) = _ from hhi 19]
    rfl
  have f98 : ∀ t o x b e g d, has ⟨D.toArray⟩ ⟨s.length + 44, t, o, x, b, e, g, d⟩ [60, 33, 45, 45] = false := fun t o x b e g d => by
    rw [has_ev, show D.drop (St.pos ⟨s.length + 44, t, o, x, b, e, g, d⟩) = _ from hhi 19]
    rfl
  have f99 : ∀ t o x b e g d, has ⟨D.toArray⟩ ⟨s.length + 44, t, o, x, b, e, g, d⟩ [60, 63] = false := fun t o x b e g d => by
    rw [has_ev, show D.drop (St.pos ⟨s.length + 44, t, o, x, b, e, g, d⟩) = _ from hhi 19]
    rfl
  have f100 : ∀ t o x b e g d, has ⟨D.toArray⟩ ⟨s.length + 44, t, o, x, b, e, g, d⟩ [60, 33, 91, 67, 68, 65, 84, 65, 91] = false := fun t o x b e g d => by
    rw [has_ev, show D.drop (St.pos ⟨s.length + 44, t, o, x, b, e, g, d⟩) = _ from hhi 19]
    rfl
  have f101 : ∀ t o x b e g d, eat ⟨D.toArray⟩ ⟨s.length + 44, t, o, x, b, e, g, d⟩ [60, 33, 91, 67, 68, 65, 84, 65, 91] = (false, ⟨s.length + 44, t, o, x, b, e, g, d⟩) := fun t o x b e g d => by
    unfold eat
    rw [f100]
    rfl
  have f102 : ∀ t o x b e g d, has ⟨D.toArray⟩ ⟨s.length + 44, t, o, x, b, e, g, d⟩ [60] = false := fun t o x b e g d => by
    rw [has_ev, show D.drop (St.pos ⟨s.length + 44, t, o, x, b, e, g, d⟩) = _ from hhi 19]
    rfl
  have f103 : ∀ t o x b e g d, has ⟨D.toArray⟩ ⟨s.length + 44, t, o, x, b, e, g, d⟩ [38] = false := fun t o x b e g d => by
    rw [has_ev, show D.drop (St.pos ⟨s.length + 44, t, o, x, b, e, g, d⟩) = _ from hhi 19]
    rfl
  have f104 : ∀ t o x b e g d, has ⟨D.toArray⟩ ⟨s.length + 44, t, o, x, b, e, g, d⟩ [93, 93, 62] = false := fun t o x b e g d => by
    rw [has_ev, show D.drop (St.pos ⟨s.length + 44, t, o, x, b, e, g, d⟩) = _ from hhi 19]
    rfl
  have f105 : ∀ t o x b e g d, rest ⟨D.toArray⟩ ⟨s.length + 44, t, o, x, b, e, g, d⟩ = 121 :: D.drop (s.length + 45) := fun t o x b e g d => by
    rw [rest_ev, show D.drop (St.pos ⟨s.length + 44, t, o, x, b, e, g, d⟩) = _ from hhi 19, show D.drop (s.length + 45) = _ from hhi 20]
    rfl
  have f106 : s.length + 45 < D.length := by omega
  have f107 : ∀ t o x b e g d, has ⟨D.toArray⟩ ⟨s.length + 45, t, o, x, b, e, g, d⟩ [60, 47] = false := fun t o x b e g d => by
    rw [has_ev, show D.drop (St.pos ⟨s.length + 45, t, o, x, b, e, g, d⟩) = _ from hhi 20]
    rfl
  have f108 : ∀ t o x b e g d, has ⟨D.toArray⟩ ⟨s.length + 45, t, o, x, b, e, g, d⟩ [60, 33, 45, 45] = false := fun t o x b e g d => by
    rw [has_ev, show D.drop (St.pos ⟨s.length + 45, t, o, x, b, e, g, d⟩) = _ from hhi 20]
    rfl
  have f109 : ∀ t o x b e g d, has ⟨D.toArray⟩ ⟨s.length + 45, t, o, x, b, e, g, d⟩ [60, 63] = false := fun t o x b e g d => by
    rw [has_ev, show D.drop (St.pos ⟨s.length + 45, t, o, x, b, e, g, d⟩) = _ from hhi 20]
    rfl
  have f110 : ∀ t o x b e g d, has ⟨D.toArray⟩ ⟨s.length + 45, t, o, x, b, e, g, d⟩ [60, 33, 91, 67, 68, 65, 84, 65, 91] = false := fun t o x b e g d => by
    rw [has_ev, show D.drop (St.pos ⟨s.length + 45, t, o, x, b, e, g, d⟩) = _ from hhi 20]
    rfl
  have f111 : ∀ t o x b e g d, eat ⟨D.toArray⟩ ⟨s.length + 45, t, o, x, b, e, g, d⟩ [60, 33, 91, 67, 68, 65, 84, 65, 91] = (false, ⟨s.length + 45, t, o, x, b, e, g, d⟩) := fun t o x b e g d => by
    unfold eat
    rw [f110]
    rfl
  have f112 : ∀ t o x b e g d, has ⟨D.toArray⟩ ⟨s.length + 45, t, o, x, b, e, g, d⟩ [60] = false := fun t o x b e g d => by
    rw [has_ev, show D.drop (St.pos ⟨s.length + 45, t, o, x, b, e, g, d⟩) = _ from hhi 20]
    rfl
  have f113 : ∀ t o x b e g d, has ⟨D.toArray⟩ ⟨s.length + 45, t, o, x, b, e, g, d⟩ [38] = true := fun t o x b e g d => by
    rw [has_ev, show D.drop (St.pos ⟨s.length + 45, t, o, x, b, e, g, d⟩) = _ from hhi 20]
    rfl
  have f114 : ∀ t o x b e g d at_, refM ⟨D.toArray⟩ ⟨s.length + 45, t, o, x, b, e, g, d⟩ at_ = match expandN e at_ (s.length + 45 : Nat) 8 [] [101] [] g with | .error x => .error x | .ok (o', k) => .ok (o', ⟨s.length + 48, t, o, x, b, e, k, d⟩) := fun t o x b e g d at_ => by
    have hr := ref_ev (n := [101]) (r := D.drop (s.length + 48)) nE (by decide) (by decide)
    have hd : rest ⟨D.toArray⟩ ⟨s.length + 45, t, o, x, b, e, g, d⟩ = 38 :: ([101] ++ 59 :: D.drop (s.length + 48)) := by
      rw [rest_ev, show D.drop (St.pos ⟨s.length + 45, t, o, x, b, e, g, d⟩) = _ from hhi 20, show D.drop (s.length + 48) = _ from hhi 23]
      rfl
    unfold refM
    rw [hd, hr.1, hr.2]
    simp only [St.to]
    rfl
  have f115 : s.length + 48 < D.length := by omega
  have f116 : ∀ t o x b e g d, has ⟨D.toArray⟩ ⟨s.length + 48, t, o, x, b, e, g, d⟩ [60, 47] = true := fun t o x b e g d => by
    rw [has_ev, show D.drop (St.pos ⟨s.length + 48, t, o, x, b, e, g, d⟩) = _ from hhi 23]
    rfl
  have f117 : ∀ t o x b e g d, qname ⟨D.toArray⟩ ⟨s.length + 50, t, o, x, b, e, g, d⟩ = (([97], true), ⟨s.length + 51, t, o, x, b, e, g, d⟩) := fun t o x b e g d => by
    have hw : wordN true (D.drop (St.pos ⟨s.length + 50, t, o, x, b, e, g, d⟩)) = 1 := by
      rw [show D.drop (St.pos ⟨s.length + 50, t, o, x, b, e, g, d⟩) = _ from hhi 25]
      exact scA_62 _
    have ht : (D.drop (St.pos ⟨s.length + 50, t, o, x, b, e, g, d⟩)).take 1 = [97] := by
      rw [show D.drop (St.pos ⟨s.length + 50, t, o, x, b, e, g, d⟩) = _ from hhi 25]
      rfl
    unfold qname
    simp only [word_ev, hw, ht]
    rw [show (split [97]).isSome = true from qA]
    rfl
  have f118 : s.length + 51 ≤ D.length := by omega
  have f119 : ∀ t o x b e g d, blanks ⟨D.toArray⟩ ⟨s.length + 51, t, o, x, b, e, g, d⟩ = (false, ⟨s.length + 51, t, o, x, b, e, g, d⟩) := fun t o x b e g d => (blanks_ev (D := D) (σ := ⟨s.length + 51, t, o, x, b, e, g, d⟩) f118).trans (by
    rw [show D.drop (St.pos ⟨s.length + 51, t, o, x, b, e, g, d⟩) = _ from hhi 26]
    rfl)
  have f120 : ∀ t o x b e g d, has ⟨D.toArray⟩ ⟨s.length + 51, t, o, x, b, e, g, d⟩ [62] = true := fun t o x b e g d => by
    rw [has_ev, show D.drop (St.pos ⟨s.length + 51, t, o, x, b, e, g, d⟩) = _ from hhi 26]
    rfl
  have f121 : ∀ t o x b e g d, eat ⟨D.toArray⟩ ⟨s.length + 51, t, o, x, b, e, g, d⟩ [62] = (true, ⟨s.length + 52, t, o, x, b, e, g, d⟩) := fun t o x b e g d => by
    unfold eat
    rw [f120]
    rfl
  have f122 : ¬ s.length + 52 < D.length := by omega
  have hq0 : refsN s = 0 := by have := refsN_fine s [] h0; simpa [refsN] using this
  have hq : refsN s = 0 := hq0
  have ha : ascii s = true := fine_ascii h0
  have hy : hasAny s [60, 37] = false := fine_any h0
  have fe : ∀ t o x b g d, entity ⟨D.toArray⟩ ⟨13, t, o, x, b, [], g, d⟩ = .ok ((), ⟨s.length + 27, t, o, x, b, [([101], s)], g, d⟩) := fun t o x b g d => by
    unfold entity
    simp only [St.to, Nat.reduceAdd, f20, f21, f23, f26, f28, f30]
    simp only [ha, hy, hq, Bool.and_self, Bool.false_eq_true, if_true, if_false, List.lookup, Option.isSome_none, List.nil_append]
  have fd : ∀ m t o x b g d, decls ⟨D.toArray⟩ (m + 1 + 1) ⟨13, t, o, x, b, [], g, d⟩ = .ok ((), ⟨s.length + 27, t, o, x, b, [([101], s)], g, d⟩) := fun m t o x b g d => by
    unfold decls
    simp only [f15, f16, f17, f18, fe, Bool.false_eq_true, if_true, if_false]
    unfold decls
    simp only [f32, f33, f34, f35, Bool.false_eq_true, if_false]
  obtain ⟨m, hm⟩ : ∃ m, D.length = m + 12 := ⟨D.length - 12, by omega⟩
  have ft : ∀ t o x b g d, doctype ⟨D.toArray⟩ ⟨0, t, o, x, b, [], g, d⟩ = .ok ((), ⟨s.length + 29, t, o, x, b, [([101], s)], g, d⟩) := fun t o x b g d => by
    unfold doctype
    simp only [St.to, Nat.reduceAdd, f8, f9, f11, f13]
    rw [show (⟨D.toArray⟩ : ByteArray).size + 1 = (m + 11) + 1 + 1 by rw [size_ev, hm], fd]
    simp only [Bool.and_self, if_true, f37, f39, f41]
  have s1 : beside ⟨D.toArray⟩ ⟨0, [], [], [], 0, [], 0, false⟩ false = .ok (true, ⟨s.length + 29, [], [], [], 0, [([101], s)], 0, false⟩) := by
    unfold beside
    simp only [f3, f4, f5, f6, ft, Bool.false_eq_true, Bool.or_self, if_true, if_false]
  have hx : ∀ (at_ : Bool) (p : Nat) (g : Nat), g + s.length ≤ 32768 → expandN [([101], s)] at_ p 8 [] [101] [] g = .ok (s, g + s.length) := fun at_ p g hg => by
    unfold expandN
    rw [plainE]
    simp only [List.lookup, beq_self_eq_true, List.contains_nil, List.length_nil, Bool.false_or]
    have := expandL_fine (fun e o' k' => expandN [([101], s)] at_ p 7 ([] ++ [[101]]) e o' k') at_ p s [] 0 [] g h0 hg
    simp only [List.append_nil, Nat.add_zero, List.nil_append] at this
    simp only [List.nil_append]
    rw [if_neg (by decide), this]
    rfl
  have fv : ∀ t o x b d, value ⟨D.toArray⟩ ⟨s.length + 34, t, o, x, b, [([101], s)], 0, d⟩ = .ok ((s, true), ⟨s.length + 39, t, o, x, b, [([101], s)], s.length, d⟩) := fun t o x b d => by
    unfold value sign
    simp only [f64, f65, if_true, St.to, Nat.add_assoc, Nat.reduceAdd]
    rw [show (⟨D.toArray⟩ : ByteArray).size + 1 = (m + 11) + 1 + 1 by rw [size_ev, hm]]
    unfold valueL
    simp only [f66, f67, f68, f69, size_ev, hx _ _ 0 (by omega), if_true, if_false, Bool.false_eq_true, List.headD_cons]
    rw [if_neg (by decide)]
    unfold valueL
    simp only [f70, f71, size_ev, if_true, List.nil_append, Nat.zero_add, St.to, Nat.add_assoc, Nat.reduceAdd, List.length_cons, List.length_nil]
  have fa : ∀ p t o x b d, tagL ⟨D.toArray⟩ p (m + 11 + 1 + 1) ⟨s.length + 31, t, o, x, b, [([101], s)], 0, d⟩ [] = .ok ([([98], s)], ⟨s.length + 39, t, o, x, b, [([101], s)], s.length, d⟩) := fun p t o x b d => by
    unfold tagL
    simp only [f53, f54, f55, f56, f57, f59, f61, f63, size_ev, equal, fv, named, List.any_nil, Bool.and_self, Bool.or_self, Bool.false_eq_true, if_true, if_false, List.nil_append]
    unfold tagL
    simp only [f73, f74, f75, f76, size_ev, Bool.true_or, if_true]
  have s2 : beside ⟨D.toArray⟩ ⟨s.length + 29, [], [], [], 0, [([101], s)], 0, false⟩ true = .ok (true, ⟨s.length + 40, [⟨2, [97], [([98], s)], []⟩], [[97]], [], 0, [([101], s)], s.length, false⟩) := by
    have fg : tag ⟨D.toArray⟩ ⟨s.length + 29, [], [], [], 0, [([101], s)], 0, false⟩ = .ok ((), ⟨s.length + 40, [⟨2, [97], [([98], s)], []⟩], [[97]], [], 0, [([101], s)], s.length, false⟩) := by
      unfold tag
      simp only [f51, St.to, Nat.add_assoc, Nat.reduceAdd, if_true]
      rw [show (⟨D.toArray⟩ : ByteArray).size + 1 = m + 11 + 1 + 1 by rw [size_ev, hm], fa]
      simp [f76, flushAdd, flush, add, Nat.add_assoc]
    unfold beside
    simp only [f44, f45, f46, f47, f48, f49, f50, fg, Bool.not_true, Bool.or_self, Bool.false_eq_true, if_false]
  have s3 : content ⟨D.toArray⟩ ⟨s.length + 40, [⟨2, [97], [([98], s)], []⟩], [[97]], [], 0, [([101], s)], s.length, false⟩ = .ok ((), ⟨s.length + 41, [⟨2, [97], [([98], s)], []⟩], [[97]], [120], s.length + 40, [([101], s)], s.length, false⟩) := by
    unfold content
    simp [f78, f79, f80, f82, f83, f84, f85, f86, put, St.to, Nat.add_assoc]
  have s4 : content ⟨D.toArray⟩ ⟨s.length + 41, [⟨2, [97], [([98], s)], []⟩], [[97]], [120], s.length + 40, [([101], s)], s.length, false⟩ = .ok ((), ⟨s.length + 44, [⟨2, [97], [([98], s)], []⟩], [[97]], ([120] ++ s), s.length + 40, [([101], s)], (s.length + s.length), false⟩) := by
    unfold content
    simp [f88, f89, f90, f92, f93, f94, f95, put, hx false _ (s.length) (by omega)]
  have s5 : content ⟨D.toArray⟩ ⟨s.length + 44, [⟨2, [97], [([98], s)], []⟩], [[97]], ([120] ++ s), s.length + 40, [([101], s)], (s.length + s.length), false⟩ = .ok ((), ⟨s.length + 45, [⟨2, [97], [([98], s)], []⟩], [[97]], ([120] ++ s ++ [121]), s.length + 40, [([101], s)], (s.length + s.length), false⟩) := by
    unfold content
    simp [f97, f98, f99, f101, f102, f103, f104, f105, put, St.to, Nat.add_assoc]
  have s6 : content ⟨D.toArray⟩ ⟨s.length + 45, [⟨2, [97], [([98], s)], []⟩], [[97]], ([120] ++ s ++ [121]), s.length + 40, [([101], s)], (s.length + s.length), false⟩ = .ok ((), ⟨s.length + 48, [⟨2, [97], [([98], s)], []⟩], [[97]], ([120] ++ s ++ [121] ++ s), s.length + 40, [([101], s)], (s.length + s.length + s.length), false⟩) := by
    unfold content
    simp [f107, f108, f109, f111, f112, f113, f114, put, Nat.add_assoc, hx false _ (s.length + s.length) (by omega)]
  have s7 : content ⟨D.toArray⟩ ⟨s.length + 48, [⟨2, [97], [([98], s)], []⟩], [[97]], ([120] ++ s ++ [121] ++ s), s.length + 40, [([101], s)], (s.length + s.length + s.length), false⟩ = .ok ((), ⟨s.length + 52, toksA s, [], [], s.length + 40, [([101], s)], s.length + s.length + s.length, true⟩) := by
    unfold content endTag
    simp [f116, f117, f119, f121, flushAdd, flush, add, St.to, Nat.add_assoc, toksA]
  have hw : whole ⟨D.toArray⟩ St.start = .ok ((), ⟨s.length + 52, toksA s, [], [], s.length + 40, [([101], s)], s.length + s.length + s.length, true⟩) := by
    unfold whole
    rw [show has _ St.start _ = _ from f0 _ _ _ _ _ _ _]
    simp only [Bool.false_and, Bool.false_eq_true, if_false]
    rw [show (⟨D.toArray⟩ : ByteArray).size + 1 = (m + 6) + 1 + 1 + 1 + 1 + 1 + 1 + 1 by rw [size_ev, hm]]
    rw [show parts ⟨D.toArray⟩ ((m + 6) + 1 + 1 + 1 + 1 + 1 + 1 + 1) St.start false = _ from parts_out (by rw [size_ev]; show 0 < _; omega) rfl s1, parts_out (by rw [size_ev]; simp only; omega) rfl s2]
    rw [parts_in (by rw [size_ev]; simp only; omega) (by simp) s3, parts_in (by rw [size_ev]; simp only; omega) (by simp) s4, parts_in (by rw [size_ev]; simp only; omega) (by simp) s5, parts_in (by rw [size_ev]; simp only; omega) (by simp) s6, parts_in (by rw [size_ev]; simp only; omega) (by simp) s7, parts_end (by rw [size_ev]; simp only; omega)]
    rfl
  unfold scan
  rw [if_neg (by omega), hb]
  simp only
  rw [hw]

set_option maxHeartbeats 2000000 in
set_option maxRecDepth 100000 in
theorem scanBE (s : Bytes) (h0 : s.all fine = true) (h3 : s.length ≤ 3000) : ∃ p, scan (docB [101] s) = .error (6, p) := by
  obtain ⟨D, hD⟩ : ∃ D, D = docB [101] s := ⟨_, rfl⟩
  rw [← hD]
  have h : DocIs D [60, 33, 68, 79, 67, 84, 89, 80, 69, 32, 97, 32, 91, 60, 33, 69, 78, 84, 73, 84, 89, 32, 101, 32, 34] s [38, 101, 59, 34, 62, 93, 62, 60, 97, 62, 38, 101, 59, 60, 47, 97, 62] := ⟨h0, h3, by rw [hD]; simp [docB]⟩
  have hlo : ∀ k, k ≤ 25 → D.drop k = ([60, 33, 68, 79, 67, 84, 89, 80, 69, 32, 97, 32, 91, 60, 33, 69, 78, 84, 73, 84, 89, 32, 101, 32, 34] : Bytes).drop k ++ (s ++ [38, 101, 59, 34, 62, 93, 62, 60, 97, 62, 38, 101, 59, 60, 47, 97, 62]) := fun k hk => h.lo hk
  have hhi : ∀ k, D.drop (s.length + (25 + k)) = ([38, 101, 59, 34, 62, 93, 62, 60, 97, 62, 38, 101, 59, 60, 47, 97, 62] : Bytes).drop k := fun k => h.hi rfl
  have hz : D.length = 25 + s.length + 17 := h.size
  have hb : badAt D.length D 0 = none := badAt_print _ _ _ (by
    rw [h.all]
    have hp := fine_print h0
    intro c hc
    simp only [List.mem_append] at hc
    have lits : ∀ l : Bytes, (l.all fun c => decide (32 ≤ c.toNat) && decide (c.toNat ≤ 126)) = true → ∀ c ∈ l, 32 ≤ c.toNat ∧ c.toNat ≤ 126 := fun l hl c hc => by
      have := List.all_eq_true.1 hl c hc
      simpa using this
    rcases hc with hc | hc | hc
    · exact lits _ (by decide) c hc
    · exact hp c hc
    · exact lits _ (by decide) c hc)
  have f0 : ∀ t o x b e g d, has ⟨D.toArray⟩ ⟨0, t, o, x, b, e, g, d⟩ [60, 63, 120, 109, 108] = false := fun t o x b e g d => by
    rw [has_ev, show D.drop (St.pos ⟨0, t, o, x, b, e, g, d⟩) = _ from hlo 0 (by decide)]
    rfl
  have f1 : 0 < D.length := by omega
  have f2 : 0 ≤ D.length := by omega
  have f3 : ∀ t o x b e g d, blanks ⟨D.toArray⟩ ⟨0, t, o, x, b, e, g, d⟩ = (false, ⟨0, t, o, x, b, e, g, d⟩) := fun t o x b e g d => (blanks_ev (D := D) (σ := ⟨0, t, o, x, b, e, g, d⟩) f2).trans (by
    rw [show D.drop (St.pos ⟨0, t, o, x, b, e, g, d⟩) = _ from hlo 0 (by decide)]
    rfl)
  have f4 : ∀ t o x b e g d, has ⟨D.toArray⟩ ⟨0, t, o, x, b, e, g, d⟩ [60, 33, 45, 45] = false := fun t o x b e g d => by
    rw [has_ev, show D.drop (St.pos ⟨0, t, o, x, b, e, g, d⟩) = _ from hlo 0 (by decide)]
    rfl
  have f5 : ∀ t o x b e g d, has ⟨D.toArray⟩ ⟨0, t, o, x, b, e, g, d⟩ [60, 63] = false := fun t o x b e g d => by
    rw [has_ev, show D.drop (St.pos ⟨0, t, o, x, b, e, g, d⟩) = _ from hlo 0 (by decide)]
    rfl
  have f6 : ∀ t o x b e g d, has ⟨D.toArray⟩ ⟨0, t, o, x, b, e, g, d⟩ [60, 33, 68, 79, 67, 84, 89, 80, 69] = true := fun t o x b e g d => by
    rw [has_ev, show D.drop (St.pos ⟨0, t, o, x, b, e, g, d⟩) = _ from hlo 0 (by decide)]
    rfl
  have f7 : 9 ≤ D.length := by omega
  have f8 : ∀ t o x b e g d, blanks ⟨D.toArray⟩ ⟨9, t, o, x, b, e, g, d⟩ = (true, ⟨10, t, o, x, b, e, g, d⟩) := fun t o x b e g d => (blanks_ev (D := D) (σ := ⟨9, t, o, x, b, e, g, d⟩) f7).trans (by
    rw [show D.drop (St.pos ⟨9, t, o, x, b, e, g, d⟩) = _ from hlo 9 (by decide)]
    rfl)
  have f9 : ∀ t o x b e g d, qname ⟨D.toArray⟩ ⟨10, t, o, x, b, e, g, d⟩ = (([97], true), ⟨11, t, o, x, b, e, g, d⟩) := fun t o x b e g d => by
    have hw : wordN true (D.drop (St.pos ⟨10, t, o, x, b, e, g, d⟩)) = 1 := by
      rw [show D.drop (St.pos ⟨10, t, o, x, b, e, g, d⟩) = _ from hlo 10 (by decide)]
      exact scA_32 _
    have ht : (D.drop (St.pos ⟨10, t, o, x, b, e, g, d⟩)).take 1 = [97] := by
      rw [show D.drop (St.pos ⟨10, t, o, x, b, e, g, d⟩) = _ from hlo 10 (by decide)]
      rfl
    unfold qname
    simp only [word_ev, hw, ht]
    rw [show (split [97]).isSome = true from qA]
    rfl
  have f10 : 11 ≤ D.length := by omega
  have f11 : ∀ t o x b e g d, blanks ⟨D.toArray⟩ ⟨11, t, o, x, b, e, g, d⟩ = (true, ⟨12, t, o, x, b, e, g, d⟩) := fun t o x b e g d => (blanks_ev (D := D) (σ := ⟨11, t, o, x, b, e, g, d⟩) f10).trans (by
    rw [show D.drop (St.pos ⟨11, t, o, x, b, e, g, d⟩) = _ from hlo 11 (by decide)]
    rfl)
  have f12 : ∀ t o x b e g d, has ⟨D.toArray⟩ ⟨12, t, o, x, b, e, g, d⟩ [91] = true := fun t o x b e g d => by
    rw [has_ev, show D.drop (St.pos ⟨12, t, o, x, b, e, g, d⟩) = _ from hlo 12 (by decide)]
    rfl
  have f13 : ∀ t o x b e g d, eat ⟨D.toArray⟩ ⟨12, t, o, x, b, e, g, d⟩ [91] = (true, ⟨13, t, o, x, b, e, g, d⟩) := fun t o x b e g d => by
    unfold eat
    rw [f12]
    rfl
  have f14 : 13 ≤ D.length := by omega
  have f15 : ∀ t o x b e g d, blanks ⟨D.toArray⟩ ⟨13, t, o, x, b, e, g, d⟩ = (false, ⟨13, t, o, x, b, e, g, d⟩) := fun t o x b e g d => (blanks_ev (D := D) (σ := ⟨13, t, o, x, b, e, g, d⟩) f14).trans (by
    rw [show D.drop (St.pos ⟨13, t, o, x, b, e, g, d⟩) = _ from hlo 13 (by decide)]
    rfl)
  have f16 : ∀ t o x b e g d, has ⟨D.toArray⟩ ⟨13, t, o, x, b, e, g, d⟩ [60, 33, 45, 45] = false := fun t o x b e g d => by
    rw [has_ev, show D.drop (St.pos ⟨13, t, o, x, b, e, g, d⟩) = _ from hlo 13 (by decide)]
    rfl
  have f17 : ∀ t o x b e g d, has ⟨D.toArray⟩ ⟨13, t, o, x, b, e, g, d⟩ [60, 63] = false := fun t o x b e g d => by
    rw [has_ev, show D.drop (St.pos ⟨13, t, o, x, b, e, g, d⟩) = _ from hlo 13 (by decide)]
    rfl
  have f18 : ∀ t o x b e g d, has ⟨D.toArray⟩ ⟨13, t, o, x, b, e, g, d⟩ [60, 33, 69, 78, 84, 73, 84, 89] = true := fun t o x b e g d => by
    rw [has_ev, show D.drop (St.pos ⟨13, t, o, x, b, e, g, d⟩) = _ from hlo 13 (by decide)]
    rfl
  have f19 : 21 ≤ D.length := by omega
  have f20 : ∀ t o x b e g d, blanks ⟨D.toArray⟩ ⟨21, t, o, x, b, e, g, d⟩ = (true, ⟨22, t, o, x, b, e, g, d⟩) := fun t o x b e g d => (blanks_ev (D := D) (σ := ⟨21, t, o, x, b, e, g, d⟩) f19).trans (by
    rw [show D.drop (St.pos ⟨21, t, o, x, b, e, g, d⟩) = _ from hlo 21 (by decide)]
    rfl)
  have f21 : ∀ t o x b e g d, name ⟨D.toArray⟩ ⟨22, t, o, x, b, e, g, d⟩ = (([101], true), ⟨23, t, o, x, b, e, g, d⟩) := fun t o x b e g d => by
    have hw : wordN false (D.drop (St.pos ⟨22, t, o, x, b, e, g, d⟩)) = 1 := by
      rw [show D.drop (St.pos ⟨22, t, o, x, b, e, g, d⟩) = _ from hlo 22 (by decide)]
      exact snE_32 _
    have ht : (D.drop (St.pos ⟨22, t, o, x, b, e, g, d⟩)).take 1 = [101] := by
      rw [show D.drop (St.pos ⟨22, t, o, x, b, e, g, d⟩) = _ from hlo 22 (by decide)]
      rfl
    unfold name
    simp only [word_ev, hw, ht]
    rw [show isName [101] = true from nE]
    rfl
  have f22 : 23 ≤ D.length := by omega
  have f23 : ∀ t o x b e g d, blanks ⟨D.toArray⟩ ⟨23, t, o, x, b, e, g, d⟩ = (true, ⟨24, t, o, x, b, e, g, d⟩) := fun t o x b e g d => (blanks_ev (D := D) (σ := ⟨23, t, o, x, b, e, g, d⟩) f22).trans (by
    rw [show D.drop (St.pos ⟨23, t, o, x, b, e, g, d⟩) = _ from hlo 23 (by decide)]
    rfl)
  have f24 : ∀ t o x b e g d, has ⟨D.toArray⟩ ⟨24, t, o, x, b, e, g, d⟩ [39] = false := fun t o x b e g d => by
    rw [has_ev, show D.drop (St.pos ⟨24, t, o, x, b, e, g, d⟩) = _ from hlo 24 (by decide)]
    rfl
  have f25 : ∀ t o x b e g d, has ⟨D.toArray⟩ ⟨24, t, o, x, b, e, g, d⟩ [34] = true := fun t o x b e g d => by
    rw [has_ev, show D.drop (St.pos ⟨24, t, o, x, b, e, g, d⟩) = _ from hlo 24 (by decide)]
    rfl
  have f26 : ∀ t o x b e g d, quoted ⟨D.toArray⟩ ⟨24, t, o, x, b, e, g, d⟩ = (((s ++ [38, 101, 59]), true), ⟨s.length + 29, t, o, x, b, e, g, d⟩) := fun t o x b e g d => by
    unfold quoted sign
    rw [f24, f25]
    have hu := upto_ev (D := D) (σ := ⟨25, t, o, x, b, e, g, d⟩) (a := (s ++ [38, 101, 59])) (c := 34) (r := D.drop (s.length + 29)) (by
      rw [show D.drop (St.pos _) = _ from hlo 25 (by decide), show D.drop (s.length + 29) = _ from hhi 4]
      simp) (by simp; exact fine_not h.fine (by decide))
    simp only [Bool.false_eq_true, if_false, if_true, St.to]
    refine (show upto _ _ _ = _ from hu).trans ?_
    simp only [St.to, List.length_append, List.length_cons, List.length_nil]
    rw [show 25 + (s.length + 3) + 1 = s.length + 29 by omega]
  have f27 : s.length + 29 ≤ D.length := by omega
  have f28 : ∀ t o x b e g d, blanks ⟨D.toArray⟩ ⟨s.length + 29, t, o, x, b, e, g, d⟩ = (false, ⟨s.length + 29, t, o, x, b, e, g, d⟩) := fun t o x b e g d => (blanks_ev (D := D) (σ := ⟨s.length + 29, t, o, x, b, e, g, d⟩) f27).trans (by
    rw [show D.drop (St.pos ⟨s.length + 29, t, o, x, b, e, g, d⟩) = _ from hhi 4]
    rfl)
  have f29 : ∀ t o x b e g d, has ⟨D.toArray⟩ ⟨s.length + 29, t, o, x, b, e, g, d⟩ [62] = true := fun t o x b e g d => by
    rw [has_ev, show D.drop (St.pos ⟨s.length + 29, t, o, x, b, e, g, d⟩) = _ from hhi 4]
    rfl
  have f30 : ∀ t o x b e g d, eat ⟨D.toArray⟩ ⟨s.length + 29, t, o, x, b, e, g, d⟩ [62] = (true, ⟨s.length + 30, t, o, x, b, e, g, d⟩) := fun t o x b e g d => by
    unfold eat
    rw [f29]
    rfl
  have f31 : s.length + 30 ≤ D.length := by omega
  have f32 : ∀ t o x b e g d, blanks ⟨D.toArray⟩ ⟨s.length + 30, t, o, x, b, e, g, d⟩ = (false, ⟨s.length + 30, t, o, x, b, e, g, d⟩) := fun t o x b e g d => (blanks_ev (D := D) (σ := ⟨s.length + 30, t, o, x, b, e, g, d⟩) f31).trans (by
    rw [show D.drop (St.pos ⟨s.length + 30, t, o, x, b, e, g, d⟩) = _ from hhi 5]
    rfl)
  have f33 : ∀ t o x b e g d, has ⟨D.toArray⟩ ⟨s.length + 30, t, o, x, b, e, g, d⟩ [60, 33, 45, 45] = false := fun t o x b e g d => by
    rw [has_ev, show D.drop (St.pos ⟨s.length + 30, t, o, x, b, e, g, d⟩) = _ from hhi 5]
    rfl
  have f34 : ∀ t o x b e g d, has ⟨D.toArray⟩ ⟨s.length + 30, t, o, x, b, e, g, d⟩ [60, 63] = false := fun t o x b e g d => by
    rw [has_ev, show D.drop (St.pos ⟨s.length + 30, t, o, x, b, e, g, d⟩) = _ from hhi 5]
    rfl
  have f35 : ∀ t o x b e g d, has ⟨D.toArray⟩ ⟨s.length + 30, t, o, x, b, e, g, d⟩ [60, 33, 69, 78, 84, 73, 84, 89] = false := fun t o x b e g d => by
    rw [has_ev, show D.drop (St.pos ⟨s.length + 30, t, o, x, b, e, g, d⟩) = _ from hhi 5]
    rfl
  have f36 : ∀ t o x b e g d, has ⟨D.toArray⟩ ⟨s.length + 30, t, o, x, b, e, g, d⟩ [93] = true := fun t o x b e g d => by
    rw [has_ev, show D.drop (St.pos ⟨s.length + 30, t, o, x, b, e, g, d⟩) = _ from hhi 5]
    rfl
  have f37 : ∀ t o x b e g d, eat ⟨D.toArray⟩ ⟨s.length + 30, t, o, x, b, e, g, d⟩ [93] = (true, ⟨s.length + 31, t, o, x, b, e, g, d⟩) := fun t o x b e g d => by
    unfold eat
    rw [f36]
    rfl
  have f38 : s.length + 31 ≤ D.length := by omega
  have f39 : ∀ t o x b e g d, blanks ⟨D.toArray⟩ ⟨s.length + 31, t, o, x, b, e, g, d⟩ = (false, ⟨s.length + 31, t, o, x, b, e, g, d⟩) := fun t o x b e g d => (blanks_ev (D := D) (σ := ⟨s.length + 31, t, o, x, b, e, g, d⟩) f38).trans (by
    rw [show D.drop (St.pos ⟨s.length + 31, t, o, x, b, e, g, d⟩) = _ from hhi 6]
    rfl)
  have f40 : ∀ t o x b e g d, has ⟨D.toArray⟩ ⟨s.length + 31, t, o, x, b, e, g, d⟩ [62] = true := fun t o x b e g d => by
    rw [has_ev, show D.drop (St.pos ⟨s.length + 31, t, o, x, b, e, g, d⟩) = _ from hhi 6]
    rfl
  have f41 : ∀ t o x b e g d, eat ⟨D.toArray⟩ ⟨s.length + 31, t, o, x, b, e, g, d⟩ [62] = (true, ⟨s.length + 32, t, o, x, b, e, g, d⟩) := fun t o x b e g d => by
    unfold eat
    rw [f40]
    rfl
  have f42 : s.length + 32 < D.length := by omega
  have f43 : s.length + 32 ≤ D.length := by omega
  have f44 : ∀ t o x b e g d, blanks ⟨D.toArray⟩ ⟨s.length + 32, t, o, x, b, e, g, d⟩ = (false, ⟨s.length + 32, t, o, x, b, e, g, d⟩) := fun t o x b e g d => (blanks_ev (D := D) (σ := ⟨s.length + 32, t, o, x, b, e, g, d⟩) f43).trans (by
    rw [show D.drop (St.pos ⟨s.length + 32, t, o, x, b, e, g, d⟩) = _ from hhi 7]
    rfl)
  have f45 : ∀ t o x b e g d, has ⟨D.toArray⟩ ⟨s.length + 32, t, o, x, b, e, g, d⟩ [60, 33, 45, 45] = false := fun t o x b e g d => by
    rw [has_ev, show D.drop (St.pos ⟨s.length + 32, t, o, x, b, e, g, d⟩) = _ from hhi 7]
    rfl
  have f46 : ∀ t o x b e g d, has ⟨D.toArray⟩ ⟨s.length + 32, t, o, x, b, e, g, d⟩ [60, 63] = false := fun t o x b e g d => by
    rw [has_ev, show D.drop (St.pos ⟨s.length + 32, t, o, x, b, e, g, d⟩) = _ from hhi 7]
    rfl
  have f47 : ∀ t o x b e g d, has ⟨D.toArray⟩ ⟨s.length + 32, t, o, x, b, e, g, d⟩ [60, 33, 68, 79, 67, 84, 89, 80, 69] = false := fun t o x b e g d => by
    rw [has_ev, show D.drop (St.pos ⟨s.length + 32, t, o, x, b, e, g, d⟩) = _ from hhi 7]
    rfl
  have f48 : ∀ t o x b e g d, has ⟨D.toArray⟩ ⟨s.length + 32, t, o, x, b, e, g, d⟩ [60] = true := fun t o x b e g d => by
    rw [has_ev, show D.drop (St.pos ⟨s.length + 32, t, o, x, b, e, g, d⟩) = _ from hhi 7]
    rfl
  have f49 : ∀ t o x b e g d, has ⟨D.toArray⟩ ⟨s.length + 32, t, o, x, b, e, g, d⟩ [60, 47] = false := fun t o x b e g d => by
    rw [has_ev, show D.drop (St.pos ⟨s.length + 32, t, o, x, b, e, g, d⟩) = _ from hhi 7]
    rfl
  have f50 : ∀ t o x b e g d, has ⟨D.toArray⟩ ⟨s.length + 32, t, o, x, b, e, g, d⟩ [60, 33] = false := fun t o x b e g d => by
    rw [has_ev, show D.drop (St.pos ⟨s.length + 32, t, o, x, b, e, g, d⟩) = _ from hhi 7]
    rfl
  have f51 : ∀ t o x b e g d, qname ⟨D.toArray⟩ ⟨s.length + 33, t, o, x, b, e, g, d⟩ = (([97], true), ⟨s.length + 34, t, o, x, b, e, g, d⟩) := fun t o x b e g d => by
    have hw : wordN true (D.drop (St.pos ⟨s.length + 33, t, o, x, b, e, g, d⟩)) = 1 := by
      rw [show D.drop (St.pos ⟨s.length + 33, t, o, x, b, e, g, d⟩) = _ from hhi 8]
      exact scA_62 _
    have ht : (D.drop (St.pos ⟨s.length + 33, t, o, x, b, e, g, d⟩)).take 1 = [97] := by
      rw [show D.drop (St.pos ⟨s.length + 33, t, o, x, b, e, g, d⟩) = _ from hhi 8]
      rfl
    unfold qname
    simp only [word_ev, hw, ht]
    rw [show (split [97]).isSome = true from qA]
    rfl
  have f52 : s.length + 34 ≤ D.length := by omega
  have f53 : ∀ t o x b e g d, blanks ⟨D.toArray⟩ ⟨s.length + 34, t, o, x, b, e, g, d⟩ = (false, ⟨s.length + 34, t, o, x, b, e, g, d⟩) := fun t o x b e g d => (blanks_ev (D := D) (σ := ⟨s.length + 34, t, o, x, b, e, g, d⟩) f52).trans (by
    rw [show D.drop (St.pos ⟨s.length + 34, t, o, x, b, e, g, d⟩) = _ from hhi 9]
    rfl)
  have f54 : s.length + 34 < D.length := by omega
  have f55 : ∀ t o x b e g d, has ⟨D.toArray⟩ ⟨s.length + 34, t, o, x, b, e, g, d⟩ [62] = true := fun t o x b e g d => by
    rw [has_ev, show D.drop (St.pos ⟨s.length + 34, t, o, x, b, e, g, d⟩) = _ from hhi 9]
    rfl
  have f56 : ∀ t o x b e g d, has ⟨D.toArray⟩ ⟨s.length + 34, t, o, x, b, e, g, d⟩ [47, 62] = false := fun t o x b e g d => by
    rw [has_ev, show D.drop (St.pos ⟨s.length + 34, t, o, x, b, e, g, d⟩) = _ from hhi 9]
    rfl
  have f57 : s.length + 35 < D.length := by omega
  have f58 : ∀ t o x b e g d, has ⟨D.toArray⟩ ⟨s.length + 35, t, o, x, b, e, g, d⟩ [60, 47] = false := fun t o x b e g d => by
    rw [has_ev, show D.drop (St.pos ⟨s.length + 35, t, o, x, b, e, g, d⟩) = _ from hhi 10]
    rfl
  have f59 : ∀ t o x b e g d, has ⟨D.toArray⟩ ⟨s.length + 35, t, o, x, b, e, g, d⟩ [60, 33, 45, 45] = false := fun t o x b e g d => by
    rw [has_ev, show D.drop (St.pos ⟨s.length + 35, t, o, x, b, e, g, d⟩) = _ from hhi 10]
    rfl
  have f60 : ∀ t o x b e g d, has ⟨D.toArray⟩ ⟨s.length + 35, t, o, x, b, e, g, d⟩ [60, 63] = false := fun t o x b e g d => by
    rw [has_ev, show D.drop (St.pos ⟨s.length + 35, t, o, x, b, e, g, d⟩) = _ from hhi 10]
    rfl
  have f61 : ∀ t o x b e g d, has ⟨D.toArray⟩ ⟨s.length + 35, t, o, x, b, e, g, d⟩ [60, 33, 91, 67, 68, 65, 84, 65, 91] = false := fun t o x b e g d => by
    rw [has_ev, show D.drop (St.pos ⟨s.length + 35, t, o, x, b, e, g, d⟩) = _ from hhi 10]
    rfl
  have f62 : ∀ t o x b e g d, eat ⟨D.toArray⟩ ⟨s.length + 35, t, o, x, b, e, g, d⟩ [60, 33, 91, 67, 68, 65, 84, 65, 91] = (false, ⟨s.length + 35, t, o, x, b, e, g, d⟩) := fun t o x b e g d => by
    unfold eat
    rw [f61]
    rfl
  have f63 : ∀ t o x b e g d, has ⟨D.toArray⟩ ⟨s.length + 35, t, o, x, b, e, g, d⟩ [60] = false := fun t o x b e g d => by
    rw [has_ev, show D.drop (St.pos ⟨s.length + 35, t, o, x, b, e, g, d⟩) = _ from hhi 10]
    rfl
  have f64 : ∀ t o x b e g d, has ⟨D.toArray⟩ ⟨s.length + 35, t, o, x, b, e, g, d⟩ [38] = true := fun t o x b e g d => by
    rw [has_ev, show D.drop (St.pos ⟨s.length + 35, t, o, x, b, e, g, d⟩) = _ from hhi 10]
    rfl
  have f65 : ∀ t o x b e g d at_, refM ⟨D.toArray⟩ ⟨s.length + 35, t, o, x, b, e, g, d⟩ at_ = match expandN e at_ (s.length + 35 : Nat) 8 [] [101] [] g with | .error x => .error x | .ok (o', k) => .ok (o', ⟨s.length + 38, t, o, x, b, e, k, d⟩) := fun t o x b e g d at_ => by
    have hr := ref_ev (n := [101]) (r := D.drop (s.length + 38)) nE (by decide) (by decide)
    have hd : rest ⟨D.toArray⟩ ⟨s.length + 35, t, o, x, b, e, g, d⟩ = 38 :: ([101] ++ 59 :: D.drop (s.length + 38)) := by
      rw [rest_ev, show D.drop (St.pos ⟨s.length + 35, t, o, x, b, e, g, d⟩) = _ from hhi 10, show D.drop (s.length + 38) = _ from hhi 13]
      rfl
    unfold refM
    rw [hd, hr.1, hr.2]
    simp only [St.to]
    rfl
  have hq0 : refsN s = 0 := by have := refsN_fine s [] h0; simpa [refsN] using this
  have hrf := ref_ev (n := [101]) (r := []) nE (by decide) (by decide)
  have hq : refsN (s ++ [38, 101, 59]) = 0 := by
    rw [refsN_fine s _ h0]
    have e1 : refWild [38, 101, 59] = false := hrf.2
    have e2 : reference [38, 101, 59] = some (3, [], [101]) := hrf.1
    simp [refsN, e1, e2]
  have ha : ascii (s ++ [38, 101, 59]) = true := by
    have := fine_ascii h0
    unfold ascii at this ⊢
    rw [List.all_append, this]
    rfl
  have hy : hasAny (s ++ [38, 101, 59]) [60, 37] = false := by
    have := fine_any h0
    unfold hasAny at this ⊢
    rw [List.any_append, this]
    rfl
  have fe : ∀ t o x b g d, entity ⟨D.toArray⟩ ⟨13, t, o, x, b, [], g, d⟩ = .ok ((), ⟨s.length + 30, t, o, x, b, [([101], (s ++ [38, 101, 59]))], g, d⟩) := fun t o x b g d => by
    unfold entity
    simp only [St.to, Nat.reduceAdd, f20, f21, f23, f26, f28, f30]
    simp only [ha, hy, hq, Bool.and_self, Bool.false_eq_true, if_true, if_false, List.lookup, Option.isSome_none, List.nil_append]
  have fd : ∀ m t o x b g d, decls ⟨D.toArray⟩ (m + 1 + 1) ⟨13, t, o, x, b, [], g, d⟩ = .ok ((), ⟨s.length + 30, t, o, x, b, [([101], (s ++ [38, 101, 59]))], g, d⟩) := fun m t o x b g d => by
    unfold decls
    simp only [f15, f16, f17, f18, fe, Bool.false_eq_true, if_true, if_false]
    unfold decls
    simp only [f32, f33, f34, f35, Bool.false_eq_true, if_false]
  obtain ⟨m, hm⟩ : ∃ m, D.length = m + 12 := ⟨D.length - 12, by omega⟩
  have ft : ∀ t o x b g d, doctype ⟨D.toArray⟩ ⟨0, t, o, x, b, [], g, d⟩ = .ok ((), ⟨s.length + 32, t, o, x, b, [([101], (s ++ [38, 101, 59]))], g, d⟩) := fun t o x b g d => by
    unfold doctype
    simp only [St.to, Nat.reduceAdd, f8, f9, f11, f13]
    rw [show (⟨D.toArray⟩ : ByteArray).size + 1 = (m + 11) + 1 + 1 by rw [size_ev, hm], fd]
    simp only [Bool.and_self, if_true, f37, f39, f41]
  have s1 : beside ⟨D.toArray⟩ ⟨0, [], [], [], 0, [], 0, false⟩ false = .ok (true, ⟨s.length + 32, [], [], [], 0, [([101], (s ++ [38, 101, 59]))], 0, false⟩) := by
    unfold beside
    simp only [f3, f4, f5, f6, ft, Bool.false_eq_true, Bool.or_self, if_true, if_false]
  have hx : ∀ (at_ : Bool) (p : Nat), expandN [([101], (s ++ [38, 101, 59]))] at_ p 8 [] [101] [] 0 = .error (6, p) := fun at_ p => by
    have h7 : ∀ o' k', expandN [([101], (s ++ [38, 101, 59]))] at_ p 7 ([] ++ [[101]]) [101] o' k' = .error (6, p) := fun o' k' => by
      unfold expandN
      rw [plainE]
      simp [List.lookup]
    unfold expandN
    rw [plainE]
    simp only [List.lookup, beq_self_eq_true]
    rw [if_neg (by decide)]
    have := expandL_fine (fun e o' k' => expandN [([101], (s ++ [38, 101, 59]))] at_ p 7 ([] ++ [[101]]) e o' k') at_ p s [38, 101, 59] 3 [] 0 h0 (by omega)
    rw [show ((s ++ [38, 101, 59]) : Bytes).length = s.length + 3 by simp, this]
    have e2 : reference [38, 101, 59] = some (3, [], [101]) := hrf.1
    show (if (38 : UInt8) ≠ 38 then _ else _) = _
    rw [if_neg (by decide), e2]
    simp only
    rw [if_pos (by omega), if_pos (by simp), h7]
  have fa : ∀ p t o x b d, tagL ⟨D.toArray⟩ p (m + 11 + 1 + 1) ⟨s.length + 34, t, o, x, b, [([101], (s ++ [38, 101, 59]))], 0, d⟩ [] = .ok ([], ⟨s.length + 34, t, o, x, b, [([101], (s ++ [38, 101, 59]))], 0, d⟩) := fun p t o x b d => by
    unfold tagL
    simp only [f53, f54, f55, f56, size_ev, Bool.true_or, if_true]
  have s2 : beside ⟨D.toArray⟩ ⟨s.length + 32, [], [], [], 0, [([101], (s ++ [38, 101, 59]))], 0, false⟩ true = .ok (true, ⟨s.length + 35, [⟨2, [97], [], []⟩], [[97]], [], 0, [([101], (s ++ [38, 101, 59]))], 0, false⟩) := by
    have fg : tag ⟨D.toArray⟩ ⟨s.length + 32, [], [], [], 0, [([101], (s ++ [38, 101, 59]))], 0, false⟩ = .ok ((), ⟨s.length + 35, [⟨2, [97], [], []⟩], [[97]], [], 0, [([101], (s ++ [38, 101, 59]))], 0, false⟩) := by
      unfold tag
      simp only [f51, St.to, Nat.add_assoc, Nat.reduceAdd, if_true]
      rw [show (⟨D.toArray⟩ : ByteArray).size + 1 = m + 11 + 1 + 1 by rw [size_ev, hm], fa]
      simp [f56, flushAdd, flush, add, Nat.add_assoc]
    unfold beside
    simp only [f44, f45, f46, f47, f48, f49, f50, fg, Bool.not_true, Bool.or_self, Bool.false_eq_true, if_false]
  have s3 : content ⟨D.toArray⟩ ⟨s.length + 35, [⟨2, [97], [], []⟩], [[97]], [], 0, [([101], (s ++ [38, 101, 59]))], 0, false⟩ = .error (6, ((s.length + 35 : Nat) : Int)) := by
    unfold content
    simp only [f58, f59, f60, f62, f63, f64, f65, hx, Bool.false_eq_true, if_false, if_true]
  have hw : whole ⟨D.toArray⟩ St.start = .error (6, ((s.length + 35 : Nat) : Int)) := by
    unfold whole
    rw [show has _ St.start _ = _ from f0 _ _ _ _ _ _ _]
    simp only [Bool.false_and, Bool.false_eq_true, if_false]
    rw [show (⟨D.toArray⟩ : ByteArray).size + 1 = (m + 10) + 1 + 1 + 1 by rw [size_ev, hm]]
    rw [show parts ⟨D.toArray⟩ ((m + 10) + 1 + 1 + 1) St.start false = _ from parts_out (by rw [size_ev]; show 0 < _; omega) rfl s1, parts_out (by rw [size_ev]; simp only; omega) rfl s2]
    rw [parts_bad (by rw [size_ev]; simp only; omega) (by simp) s3]
  refine ⟨((s.length + 35 : Nat) : Int), ?_⟩
  unfold scan
  rw [if_neg (by omega), hb]
  simp only
  rw [hw]

theorem plainL : plain [108, 116, 45, 101] = none := by kernel_rfl
set_option maxHeartbeats 2000000 in
set_option maxRecDepth 100000 in
theorem scanAL (s : Bytes) (h0 : s.all fine = true) (h3 : s.length ≤ 3000) : scan (docA [108, 116, 45, 101] s) = .ok (toksA s) := by
  obtain ⟨D, hD⟩ : ∃ D, D = docA [108, 116, 45, 101] s := ⟨_, rfl⟩
  rw [← hD]
  have h : DocIs D [60, 33, 68, 79, 67, 84, 89, 80, 69, 32, 97, 32, 91, 60, 33, 69, 78, 84, 73, 84, 89, 32, 108, 116, 45, 101, 32, 34] s [34, 62, 93, 62, 60, 97, 32, 98, 61, 39, 38, 108, 116, 45, 101, 59, 39, 62, 120, 38, 108, 116, 45, 101, 59, 121, 38, 108, 116, 45, 101, 59, 60, 47, 97, 62] := ⟨h0, h3, by rw [hD]; simp [docA]⟩
  have hlo : ∀ k, k ≤ 28 → D.drop k = ([60, 33, 68, 79, 67, 84, 89, 80, 69, 32, 97, 32, 91, 60, 33, 69, 78, 84, 73, 84, 89, 32, 108, 116, 45, 101, 32, 34] : Bytes).drop k ++ (s ++ [34, 62, 93, 62, 60, 97, 32, 98, 61, 39, 38, 108, 116, 45, 101, 59, 39, 62, 120, 38, 108, 116, 45, 101, 59, 121, 38, 108, 116, 45, 101, 59, 60, 47, 97, 62]) := fun k hk => h.lo hk
  have hhi : ∀ k, D.drop (s.length + (28 + k)) = ([34, 62, 93, 62, 60, 97, 32, 98, 61, 39, 38, 108, 116, 45, 101, 59, 39, 62, 120, 38, 108, 116, 45, 101, 59, 121, 38, 108, 116, 45, 101, 59, 60, 47, 97, 62] : Bytes).drop k := fun k => h.hi rfl
  have hz : D.length = 28 + s.length + 36 := h.size
  have hb : badAt D.length D 0 = none := badAt_print _ _ _ (by
    rw [h.all]
    have hp := fine_print h0
    intro c hc
    simp only [List.mem_append] at hc
    have lits : ∀ l : Bytes, (l.all fun c => decide (32 ≤ c.toNat) && decide (c.toNat ≤ 126)) = true → ∀ c ∈ l, 32 ≤ c.toNat ∧ c.toNat ≤ 126 := fun l hl c hc => by
      have := List.all_eq_true.1 hl c hc
      simpa using this
    rcases hc with hc | hc | hc
    · exact lits _ (by decide) c hc
    · exact hp c hc
    · exact lits _ (by decide) c hc)
  have f0 : ∀ t o x b e g d, has ⟨D.toArray⟩ ⟨0, t, o, x, b, e, g, d⟩ [60, 63, 120, 109, 108] = false := fun t o x b e g d => by
    rw [has_ev, show D.drop (St.pos ⟨0, t, o, x, b, e, g, d⟩) = _ from hlo 0 (by decide)]
    rfl
  have f1 : 0 < D.length := by omega
  have f2 : 0 ≤ D.length := by omega
  have f3 : ∀ t o x b e g d, blanks ⟨D.toArray⟩ ⟨0, t, o, x, b, e, g, d⟩ = (false, ⟨0, t, o, x, b, e, g, d⟩) := fun t o x b e g d => (blanks_ev (D := D) (σ := ⟨0, t, o, x, b, e, g, d⟩) f2).trans (by
    rw [show D.drop (St.pos ⟨0, t, o, x, b, e, g, d⟩) = _ from hlo 0 (by decide)]
    rfl)
  have f4 : ∀ t o x b e g d, has ⟨D.toArray⟩ ⟨0, t, o, x, b, e, g, d⟩ [60, 33, 45, 45] = false := fun t o x b e g d => by
    rw [has_ev, show D.drop (St.pos ⟨0, t, o, x, b, e, g, d⟩) = _ from hlo 0 (by decide)]
    rfl
  have f5 : ∀ t o x b e g d, has ⟨D.toArray⟩ ⟨0, t, o, x, b, e, g, d⟩ [60, 63] = false := fun t o x b e g d => by
    rw [has_ev, show D.drop (St.pos ⟨0, t, o, x, b, e, g, d⟩) = _ from hlo 0 (by decide)]
    rfl
  have f6 : ∀ t o x b e g d, has ⟨D.toArray⟩ ⟨0, t, o, x, b, e, g, d⟩ [60, 33, 68, 79, 67, 84, 89, 80, 69] = true := fun t o x b e g d => by
    rw [has_ev, show D.drop (St.pos ⟨0, t, o, x, b, e, g, d⟩) = _ from hlo 0 (by decide)]
    rfl
  have f7 : 9 ≤ D.length := by omega
  have f8 : ∀ t o x b e g d, blanks ⟨D.toArray⟩ ⟨9, t, o, x, b, e, g, d⟩ = (true, ⟨10, t, o, x, b, e, g, d⟩) := fun t o x b e g d => (blanks_ev (D := D) (σ := ⟨9, t, o, x, b, e, g, d⟩) f7).trans (by
    rw [show D.drop (St.pos ⟨9, t, o, x, b, e, g, d⟩) = _ from hlo 9 (by decide)]
    rfl)
  have f9 : ∀ t o x b e g d, qname ⟨D.toArray⟩ ⟨10, t, o, x, b, e, g, d⟩ = (([97], true), ⟨11, t, o, x, b, e, g, d⟩) := fun t o x b e g d => by
    have hw : wordN true (D.drop (St.pos ⟨10, t, o, x, b, e, g, d⟩)) = 1 := by
      rw [show D.drop (St.pos ⟨10, t, o, x, b, e, g, d⟩) = _ from hlo 10 (by decide)]
      exact scA_32 _
    have ht : (D.drop (St.pos ⟨10, t, o, x, b, e, g, d⟩)).take 1 = [97] := by
      rw [show D.drop (St.pos ⟨10, t, o, x, b, e, g, d⟩) = _ from hlo 10 (by decide)]
      rfl
    unfold qname
    simp only [word_ev, hw, ht]
    rw [show (split [97]).isSome = true from qA]
    rfl
  have f10 : 11 ≤ D.length := by omega
  have f11 : ∀ t o x b e g d, blanks ⟨D.toArray⟩ ⟨11, t, o, x, b, e, g, d⟩ = (true, ⟨12, t, o, x, b, e, g, d⟩) := fun t o x b e g d => (blanks_ev (D := D) (σ := ⟨11, t, o, x, b, e, g, d⟩) f10).trans (by
    rw [show D.drop (St.pos ⟨11, t, o, x, b, e, g, d⟩) = _ from hlo 11 (by decide)]
    rfl)
  have f12 : ∀ t o x b e g d, has ⟨D.toArray⟩ ⟨12, t, o, x, b, e, g, d⟩ [91] = true := fun t o x b e g d => by
    rw [has_ev, show D.drop (St.pos ⟨12, t, o, x, b, e, g, d⟩) = _ from hlo 12 (by decide)]
    rfl
  have f13 : ∀ t o x b e g d, eat ⟨D.toArray⟩ ⟨12, t, o, x, b, e, g, d⟩ [91] = (true, ⟨13, t, o, x, b, e, g, d⟩) := fun t o x b e g d => by
    unfold eat
    rw [f12]
    rfl
  have f14 : 13 ≤ D.length := by omega
  have f15 : ∀ t o x b e g d, blanks ⟨D.toArray⟩ ⟨13, t, o, x, b, e, g, d⟩ = (false, ⟨13, t, o, x, b, e, g, d⟩) := fun t o x b e g d => (blanks_ev (D := D) (σ := ⟨13, t, o, x, b, e, g, d⟩) f14).trans (by
    rw [show D.drop (St.pos ⟨13, t, o, x, b, e, g, d⟩) = _ from hlo 13 (by decide)]
    rfl)
  have f16 : ∀ t o x b e g d, has ⟨D.toArray⟩ ⟨13, t, o, x, b, e, g, d⟩ [60, 33, 45, 45] = false := fun t o x b e g d => by
    rw [has_ev, show D.drop (St.pos ⟨13, t, o, x, b, e, g, d⟩) = _ from hlo 13 (by decide)]
    rfl
  have f17 : ∀ t o x b e g d, has ⟨D.toArray⟩ ⟨13, t, o, x, b, e, g, d⟩ [60, 63] = false := fun t o x b e g d => by
    rw [has_ev, show D.drop (St.pos ⟨13, t, o, x, b, e, g, d⟩) = _ from hlo 13 (by decide)]
    rfl
  have f18 : ∀ t o x b e g d, has ⟨D.toArray⟩ ⟨13, t, o, x, b, e, g, d⟩ [60, 33, 69, 78, 84, 73, 84, 89] = true := fun t o x b e g d => by
    rw [has_ev, show D.drop (St.pos ⟨13, t, o, x, b, e, g, d⟩) = _ from hlo 13 (by decide)]
    rfl
  have f19 : 21 ≤ D.length := by omega
  have f20 : ∀ t o x b e g d, blanks ⟨D.toArray⟩ ⟨21, t, o, x, b, e, g, d⟩ = (true, ⟨22, t, o, x, b, e, g, d⟩) := fun t o x b e g d => (blanks_ev (D := D) (σ := ⟨21, t, o, x, b, e, g, d⟩) f19).trans (by
    rw [show D.drop (St.pos ⟨21, t, o, x, b, e, g, d⟩) = _ from hlo 21 (by decide)]
    rfl)
  have f21 : ∀ t o x b e g d, name ⟨D.toArray⟩ ⟨22, t, o, x, b, e, g, d⟩ = (([108, 116, 45, 101], true), ⟨26, t, o, x, b, e, g, d⟩) := fun t o x b e g d => by
    have hw : wordN false (D.drop (St.pos ⟨22, t, o, x, b, e, g, d⟩)) = 4 := by
      rw [show D.drop (St.pos ⟨22, t, o, x, b, e, g, d⟩) = _ from hlo 22 (by decide)]
      exact snL_32 _
    have ht : (D.drop (St.pos ⟨22, t, o, x, b, e, g, d⟩)).take 4 = [108, 116, 45, 101] := by
      rw [show D.drop (St.pos ⟨22, t, o, x, b, e, g, d⟩) = _ from hlo 22 (by decide)]
      rfl
    unfold name
    simp only [word_ev, hw, ht]
    rw [show isName [108, 116, 45, 101] = true from nL]
    rfl
  have f22 : 26 ≤ D.length := by omega
  have f23 : ∀ t o x b e g d, blanks ⟨D.toArray⟩ ⟨26, t, o, x, b, e, g, d⟩ = (true, ⟨27, t, o, x, b, e, g, d⟩) := fun t o x b e g d => (blanks_ev (D := D) (σ := ⟨26, t, o, x, b, e, g, d⟩) f22).trans (by
    rw [show D.drop (St.pos ⟨26, t, o, x, b, e, g, d⟩) = _ from hlo 26 (by decide)]
    rfl)
  have f24 : ∀ t o x b e g d, has ⟨D.toArray⟩ ⟨27, t, o, x, b, e, g, d⟩ [39] = false := fun t o x b e g d => by
    rw [has_ev, show D.drop (St.pos ⟨27, t, o, x, b, e, g, d⟩) = _ from hlo 27 (by decide)]
    rfl
  have f25 : ∀ t o x b e g d, has ⟨D.toArray⟩ ⟨27, t, o, x, b, e, g, d⟩ [34] = true := fun t o x b e g d => by
    rw [has_ev, show D.drop (St.pos ⟨27, t, o, x, b, e, g, d⟩) = _ from hlo 27 (by decide)]
    rfl
  have f26 : ∀ t o x b e g d, quoted ⟨D.toArray⟩ ⟨27, t, o, x, b, e, g, d⟩ = ((s, true), ⟨s.length + 29, t, o, x, b, e, g, d⟩) := fun t o x b e g d => by
    unfold quoted sign
    rw [f24, f25]
    have hu := upto_ev (D := D) (σ := ⟨28, t, o, x, b, e, g, d⟩) (a := s) (c := 34) (r := D.drop (s.length + 29)) (by
      rw [show D.drop (St.pos _) = _ from hlo 28 (by decide), show D.drop (s.length + 29) = _ from hhi 1]
      rfl) (by exact fine_not h.fine (by decide))
    simp only [Bool.false_eq_true, if_false, if_true, St.to]
    refine (show upto _ _ _ = _ from hu).trans ?_
    simp only [St.to]
    rw [show 28 + s.length + 1 = s.length + 29 by omega]
  have f27 : s.length + 29 ≤ D.length := by omega
  have f28 : ∀ t o x b e g d, blanks ⟨D.toArray⟩ ⟨s.length + 29, t, o, x, b, e, g, d⟩ = (false, ⟨s.length + 29, t, o, x, b, e, g, d⟩) := fun t o x b e g d => (blanks_ev (D := D) (σ := ⟨s.length + 29, t, o, x, b, e, g, d⟩) f27).trans (by
    rw [show D.drop (St.pos ⟨s.length + 29, t, o, x, b, e, g, d⟩) = _ from hhi 1]
    rfl)
  have f29 : ∀ t o x b e g d, has ⟨D.toArray⟩ ⟨s.length + 29, t, o, x, b, e, g, d⟩ [62] = true := fun t o x b e g d => by
    rw [has_ev, show D.drop (St.pos ⟨s.length + 29, t, o, x, b, e, g, d⟩) = _ from hhi 1]
    rfl
  have f30 : ∀ t o x b e g d, eat ⟨D.toArray⟩ ⟨s.length + 29, t, o, x, b, e, g, d⟩ [62] = (true, ⟨s.length + 30, t, o, x, b, e, g, d⟩) := fun t o x b e g d => by
    unfold eat
    rw [f29]
    rfl
  have f31 : s.length + 30 ≤ D.length := by omega
  have f32 : ∀ t o x b e g d, blanks ⟨D.toArray⟩ ⟨s.length + 30, t, o, x, b, e, g, d⟩ = (false, ⟨s.length + 30, t, o, x, b, e, g, d⟩) := fun t o x b e g d => (blanks_ev (D := D) (σ := ⟨s.length + 30, t, o, x, b, e, g, d⟩) f31).trans (by
    rw [show D.drop (St.pos ⟨s.length + 30, t, o, x, b, e, g, d⟩) = _ from hhi 2]
    rfl)
  have f33 : ∀ t o x b e g d, has ⟨D.toArray⟩ ⟨s.length + 30, t, o, x, b, e, g, d⟩ [60, 33, 45, 45] = false := fun t o x b e g d => by
    rw [has_ev, show D.drop (St.pos ⟨s.length + 30, t, o, x, b, e, g, d⟩) = _ from hhi 2]
    rfl
  have f34 : ∀ t o x b e g d, has ⟨D.toArray⟩ ⟨s.length + 30, t, o, x, b, e, g, d⟩ [60, 63] = false := fun t o x b e g d => by
    rw [has_ev, show D.drop (St.pos ⟨s.length + 30, t, o, x, b, e, g, d⟩) = _ from hhi 2]
    rfl
  have f35 : ∀ t o x b e g d, has ⟨D.toArray⟩ ⟨s.length + 30, t, o, x, b, e, g, d⟩ [60, 33, 69, 78, 84, 73, 84, 89] = false := fun t o x b e g d => by
    rw [has_ev, show D.drop (St.pos ⟨s.length + 30, t, o, x, b, e, g, d⟩) = _ from hhi 2]
    rfl
  have f36 : ∀ t o x b e g d, has ⟨D.toArray⟩ ⟨s.length + 30, t, o, x, b, e, g, d⟩ [93] = true := fun t o x b e g d => by
    rw [has_ev, show D.drop (St.pos ⟨s.length + 30, t, o, x, b, e, g, d⟩) = _ from hhi 2]
    rfl
  have f37 : ∀ t o x b e g d, eat ⟨D.toArray⟩ ⟨s.length + 30, t, o, x, b, e, g, d⟩ [93] = (true, ⟨s.length + 31, t, o, x, b, e, g, d⟩) := fun t o x b e g d => by
    unfold eat
    rw [f36]
    rfl
  have f38 : s.length + 31 ≤ D.length := by omega
  have f39 : ∀ t o x b e g d, blanks ⟨D.toArray⟩ ⟨s.length + 31, t, o, x, b, e, g, d⟩ = (false, ⟨s.length + 31, t, o, x, b, e, g, d⟩) := fun t o x b e g d => (blanks_ev (D := D) (σ := ⟨s.length + 31, t, o, x, b, e, g, d⟩) f38).trans (by
    rw [show D.drop (St.pos ⟨s.length + 31, t, o, x, b, e, g, d⟩) = _ from hhi 3]
    rfl)
  have f40 : ∀ t o x b e g d, has ⟨D.toArray⟩ ⟨s.length + 31, t, o, x, b, e, g, d⟩ [62] = true := fun t o x b e g d => by
    rw [has_ev, show D.drop (St.pos ⟨s.length + 31, t, o, x, b, e, g, d⟩) = _ from hhi 3]
    rfl
  have f41 : ∀ t o x b e g d, eat ⟨D.toArray⟩ ⟨s.length + 31, t, o, x, b, e, g, d⟩ [62] = (true, ⟨s.length + 32, t, o, x, b, e, g, d⟩) := fun t o x b e g d => by
    unfold eat
    rw [f40]
    rfl
  have f42 : s.length + 32 < D.length := by omega
  have f43 : s.length + 32 ≤ D.length := by omega
  have f44 : ∀ t o x b e g d, blanks ⟨D.toArray⟩ ⟨s.length + 32, t, o, x, b, e, g, d⟩ = (false, ⟨s.length + 32, t, o, x, b, e, g, d⟩) := fun t o x b e g d => (blanks_ev (D := D) (σ := ⟨s.length + 32, t, o, x, b, e, g, d⟩) f43).trans (by
    rw [show D.drop (St.pos ⟨s.length + 32, t, o, x, b, e, g, d⟩) = _ from hhi 4]
    rfl)
  have f45 : ∀ t o x b e g d, has ⟨D.toArray⟩ ⟨s.length + 32, t, o, x, b, e, g, d⟩ [60, 33, 45, 45] = false := fun t o x b e g d => by
    rw [has_ev, show D.drop (St.pos ⟨s.length + 32, t, o, x, b, e, g, d⟩) = _ from hhi 4]
    rfl
  have f46 : ∀ t o x b e g d, has ⟨D.toArray⟩ ⟨s.length + 32, t, o, x, b, e, g, d⟩ [60, 63] = false := fun t o x b e g d => by
    rw [has_ev, show D.drop (St.pos ⟨s.length + 32, t, o, x, b, e, g, d⟩) = _ from hhi 4]
    rfl
  have f47 : ∀ t o x b e g d, has ⟨D.toArray⟩ ⟨s.length + 32, t, o, x, b, e, g, d⟩ [60, 33, 68, 79, 67, 84, 89, 80, 69] = false := fun t o x b e g d => by
    rw [has_ev, show D.drop (St.pos ⟨s.length + 32, t, o, x, b, e, g, d⟩) = _ from hhi 4]
    rfl
  have f48 : ∀ t o x b e g d, has ⟨D.toArray⟩ ⟨s.length + 32, t, o, x, b, e, g, d⟩ [60] = true := fun t o x b e g d => by
    rw [has_ev, show D.drop (St.pos ⟨s.length + 32, t, o, x, b, e, g, d⟩) = _ from hhi 4]
    rfl
  have f49 : ∀ t o x b e g d, has ⟨D.toArray⟩ ⟨s.length + 32, t, o, x, b, e, g, d⟩ [60, 47] = false := fun t o x b e g d => by
    rw [has_ev, show D.drop (St.pos ⟨s.length + 32, t, o, x, b, e, g, d⟩) = _ from hhi 4]
    rfl
  have f50 : ∀ t o x b e g d, has ⟨D.toArray⟩ ⟨s.length + 32, t, o, x, b, e, g, d⟩ [60, 33] = false := fun t o x b e g d => by
    rw [has_ev, show D.drop (St.pos ⟨s.length + 32, t, o, x, b, e, g, d⟩) = _ from hhi 4]
    rfl
  have f51 : ∀ t o x b e g d, qname ⟨D.toArray⟩ ⟨s.length + 33, t, o, x, b, e, g, d⟩ = (([97], true), ⟨s.length + 34, t, o, x, b, e, g, d⟩) := fun t o x b e g d => by
    have hw : wordN true (D.drop (St.pos ⟨s.length + 33, t, o, x, b, e, g, d⟩)) = 1 := by
      rw [show D.drop (St.pos ⟨s.length + 33, t, o, x, b, e, g, d⟩) = _ from hhi 5]
      exact scA_32 _
    have ht : (D.drop (St.pos ⟨s.length + 33, t, o, x, b, e, g, d⟩)).take 1 = [97] := by
      rw [show D.drop (St.pos ⟨s.length + 33, t, o, x, b, e, g, d⟩) = _ from hhi 5]
      rfl
    unfold qname
    simp only [word_ev, hw, ht]
    rw [show (split [97]).isSome = true from qA]
    rfl
  have f52 : s.length + 34 ≤ D.length := by omega
  have f53 : ∀ t o x b e g d, blanks ⟨D.toArray⟩ ⟨s.length + 34, t, o, x, b, e, g, d⟩ = (true, ⟨s.length + 35, t, o, x, b, e, g, d⟩) := fun t o x b e g d => (blanks_ev (D := D) (σ := ⟨s.length + 34, t, o, x, b, e, g, d⟩) f52).trans (by
    rw [show D.drop (St.pos ⟨s.length + 34, t, o, x, b, e, g, d⟩) = _ from hhi 6]
    rfl)
  have f54 : s.length + 35 < D.length := by omega
  have f55 : ∀ t o x b e g d, has ⟨D.toArray⟩ ⟨s.length + 35, t, o, x, b, e, g, d⟩ [62] = false := fun t o x b e g d => by
    rw [has_ev, show D.drop (St.pos ⟨s.length + 35, t, o, x, b, e, g, d⟩) = _ from hhi 7]
    rfl
  have f56 : ∀ t o x b e g d, has ⟨D.toArray⟩ ⟨s.length + 35, t, o, x, b, e, g, d⟩ [47, 62] = false := fun t o x b e g d => by
    rw [has_ev, show D.drop (St.pos ⟨s.length + 35, t, o, x, b, e, g, d⟩) = _ from hhi 7]
    rfl
  have f57 : ∀ t o x b e g d, qname ⟨D.toArray⟩ ⟨s.length + 35, t, o, x, b, e, g, d⟩ = (([98], true), ⟨s.length + 36, t, o, x, b, e, g, d⟩) := fun t o x b e g d => by
    have hw : wordN true (D.drop (St.pos ⟨s.length + 35, t, o, x, b, e, g, d⟩)) = 1 := by
      rw [show D.drop (St.pos ⟨s.length + 35, t, o, x, b, e, g, d⟩) = _ from hhi 7]
      exact scB_61 _
    have ht : (D.drop (St.pos ⟨s.length + 35, t, o, x, b, e, g, d⟩)).take 1 = [98] := by
      rw [show D.drop (St.pos ⟨s.length + 35, t, o, x, b, e, g, d⟩) = _ from hhi 7]
      rfl
    unfold qname
    simp only [word_ev, hw, ht]
    rw [show (split [98]).isSome = true from qB]
    rfl
  have f58 : s.length + 36 ≤ D.length := by omega
  have f59 : ∀ t o x b e g d, blanks ⟨D.toArray⟩ ⟨s.length + 36, t, o, x, b, e, g, d⟩ = (false, ⟨s.length + 36, t, o, x, b, e, g, d⟩) := fun t o x b e g d => (blanks_ev (D := D) (σ := ⟨s.length + 36, t, o, x, b, e, g, d⟩) f58).trans (by
    rw [show D.drop (St.pos ⟨s.length + 36, t, o, x, b, e, g, d⟩) = _ from hhi 8]
    rfl)
  have f60 : ∀ t o x b e g d, has ⟨D.toArray⟩ ⟨s.length + 36, t, o, x, b, e, g, d⟩ [61] = true := fun t o x b e g d => by
    rw [has_ev, show D.drop (St.pos ⟨s.length + 36, t, o, x, b, e, g, d⟩) = _ from hhi 8]
    rfl
  have f61 : ∀ t o x b e g d, eat ⟨D.toArray⟩ ⟨s.length + 36, t, o, x, b, e, g, d⟩ [61] = (true, ⟨s.length + 37, t, o, x, b, e, g, d⟩) := fun t o x b e g d => by
    unfold eat
    rw [f60]
    rfl
  have f62 : s.length + 37 ≤ D.length := by omega
  have f63 : ∀ t o x b e g d, blanks ⟨D.toArray⟩ ⟨s.length + 37, t, o, x, b, e, g, d⟩ = (false, ⟨s.length + 37, t, o, x, b, e, g, d⟩) := fun t o x b e g d => (blanks_ev (D := D) (σ := ⟨s.length + 37, t, o, x, b, e, g, d⟩) f62).trans (by
    rw [show D.drop (St.pos ⟨s.length + 37, t, o, x, b, e, g, d⟩) = _ from hhi 9]
    rfl)
  have f64 : ∀ t o x b e g d, has ⟨D.toArray⟩ ⟨s.length + 37, t, o, x, b, e, g, d⟩ [39] = true := fun t o x b e g d => by
    rw [has_ev, show D.drop (St.pos ⟨s.length + 37, t, o, x, b, e, g, d⟩) = _ from hhi 9]
    rfl
  have f65 : ∀ t o x b e g d, has ⟨D.toArray⟩ ⟨s.length + 37, t, o, x, b, e, g, d⟩ [34] = false := fun t o x b e g d => by
    rw [has_ev, show D.drop (St.pos ⟨s.length + 37, t, o, x, b, e, g, d⟩) = _ from hhi 9]
    rfl
  have f66 : s.length + 38 < D.length := by omega
  have f67 : ∀ t o x b e g d, has ⟨D.toArray⟩ ⟨s.length + 38, t, o, x, b, e, g, d⟩ [39] = false := fun t o x b e g d => by
    rw [has_ev, show D.drop (St.pos ⟨s.length + 38, t, o, x, b, e, g, d⟩) = _ from hhi 10]
    rfl
  have f68 : ∀ t o x b e g d, rest ⟨D.toArray⟩ ⟨s.length + 38, t, o, x, b, e, g, d⟩ = 38 :: D.drop (s.length + 39) := fun t o x b e g d => by
    rw [rest_ev, show D.drop (St.pos ⟨s.length + 38, t, o, x, b, e, g, d⟩) = _ from hhi 10, show D.drop (s.length + 39) = _ from hhi 11]
    rfl
  have f69 : ∀ t o x b e g d at_, refM ⟨D.toArray⟩ ⟨s.length + 38, t, o, x, b, e, g, d⟩ at_ = match expandN e at_ (s.length + 38 : Nat) 8 [] [108, 116, 45, 101] [] g with | .error x => .error x | .ok (o', k) => .ok (o', ⟨s.length + 44, t, o, x, b, e, k, d⟩) := fun t o x b e g d at_ => by
    have hr := ref_ev (n := [108, 116, 45, 101]) (r := D.drop (s.length + 44)) nL (by decide) (by decide)
    have hd : rest ⟨D.toArray⟩ ⟨s.length + 38, t, o, x, b, e, g, d⟩ = 38 :: ([108, 116, 45, 101] ++ 59 :: D.drop (s.length + 44)) := by
      rw [rest_ev, show D.drop (St.pos ⟨s.length + 38, t, o, x, b, e, g, d⟩) = _ from hhi 10, show D.drop (s.length + 44) = _ from hhi 16]
      rfl
    unfold refM
    rw [hd, hr.1, hr.2]
    simp only [St.to]
    rfl
  have f70 : s.length + 44 < D.length := by omega
  have f71 : ∀ t o x b e g d, has ⟨D.toArray⟩ ⟨s.length + 44, t, o, x, b, e, g, d⟩ [39] = true := fun t o x b e g d => by
    rw [has_ev, show D.drop (St.pos ⟨s.length + 44, t, o, x, b, e, g, d⟩) = _ from hhi 16]
    rfl
  have f72 : s.length + 45 ≤ D.length := by omega
  have f73 : ∀ t o x b e g d, blanks ⟨D.toArray⟩ ⟨s.length + 45, t, o, x, b, e, g, d⟩ = (false, ⟨s.length + 45, t, o, x, b, e, g, d⟩) := fun t o x b e g d => (blanks_ev (D := D) (σ := ⟨s.length + 45, t, o, x, b, e, g, d⟩) f72).trans (by
    rw [show D.drop (St.pos ⟨s.length + 45, t, o, x, b, e, g, d⟩) = _ from hhi 17]
    rfl)
  have f74 : s.length + 45 < D.length := by omega
  have f75 : ∀ t o x b e g d, has ⟨D.toArray⟩ ⟨s.length + 45, t, o, x, b, e, g, d⟩ [62] = true := fun t o x b e g d => by
    rw [has_ev, show D.drop (St.pos ⟨s.length + 45, t, o, x, b, e, g, d⟩) = _ from hhi 17]
    rfl
  have f76 : ∀ t o x b e g d, has ⟨D.toArray⟩ ⟨s.length + 45, t, o, x, b, e, g, d⟩ [47, 62] = false := fun t o x b e g d => by
    rw [has_ev, show D.drop (St.pos ⟨s.length + 45, t, o, x, b, e, g, d⟩) = _ from hhi 17]
    rfl
  have f77 : s.length + 46 < D.length := by omega
  have f78 : ∀ t o x b e g d, has ⟨D.toArray⟩ ⟨s.length + 46, t, o, x, b, e, g, d⟩ [60, 47] = false := fun t o x b e g d => by
    rw [has_ev, show D.drop (St.pos ⟨s.length + 46, t, o, x, b, e, g, d⟩) = _ from hhi 18]
    rfl
  have f79 : ∀ t o x b e g d, has ⟨D.toArray⟩ ⟨s.length + 46, t, o, x, b, e, g, d⟩ [60, 33, 45, 45] = false := fun t o x b e g d => by
    rw [has_ev, show D.drop (St.pos ⟨s.length + 46, t, o, x, b, e, g, d⟩) = _ from hhi 18]
    rfl
  have f80 : ∀ t o x b e g d, has ⟨D.toArray⟩ ⟨s.length + 46, t, o, x, b, e, g, d⟩ [60, 63] = false := fun t o x b e g d => by
    rw [has_ev, show D.drop (St.pos ⟨s.length + 46, t, o, x, b, e, g, d⟩) = _ from hhi 18]
    rfl
  have f81 : ∀ t o x b e g d, has ⟨D.toArray⟩ ⟨s.length + 46, t, o, x, b, e, g, d⟩ [60, 33, 91, 67, 68, 65, 84, 65, 91] = false := fun t o x b e g d => by
    rw [has_ev, show D.drop (St.pos ⟨s.length + 46, t, o, x, b, e, g, d⟩) = _ from hhi 18]
    rfl
  have f82 : ∀ t o x b e g d, eat ⟨D.toArray⟩ ⟨s.length + 46, t, o, x, b, e, g, d⟩ [60, 33, 91, 67, 68, 65, 84, 65, 91] = (false, ⟨s.length + 46, t, o, x, b, e, g, d⟩) := fun t o x b e g d => by
    unfold eat
    rw [f81]
    rfl
  have f83 : ∀ t o x b e g d, has ⟨D.toArray⟩ ⟨s.length + 46, t, o, x, b, e, g, d⟩ [60] = false := fun t o x b e g d => by
    rw [has_ev, show D.drop (St.pos ⟨s.length + 46, t, o, x, b, e, g, d⟩) = _ from hhi 18]
    rfl
  have f84 : ∀ t o x b e g d, has ⟨D.toArray⟩ ⟨s.length + 46, t, o, x, b, e, g, d⟩ [38] = false := fun t o x b e g d => by
    rw [has_ev, show D.drop (St.pos ⟨s.length + 46, t, o, x, b, e, g, d⟩) = _ from hhi 18]
    rfl
  have f85 : ∀ t o x b e g d, has ⟨D.toArray⟩ ⟨s.length + 46, t, o, x, b, e, g, d⟩ [93, 93, 62] = false := fun t o x b e g d => by
    rw [has_ev, show D.drop (St.pos ⟨s.length + 46, t, o, x, b, e, g, d⟩) = _ from hhi 18]
    rfl
  have f86 : ∀ t o x b e g d, rest ⟨D.toArray⟩ ⟨s.length + 46, t, o, x, b, e, g, d⟩ = 120 :: D.drop (s.length + 47) := fun t o x b e g d => by
    rw [rest_ev, show D.drop (St.pos ⟨s.length + 46, t, o, x, b, e, g, d⟩) = _ from hhi 18, show D.drop (s.length + 47) = _ from hhi 19]
    rfl
  have f87 : s.length + 47 < D.length := by omega
  have f88 : ∀ t o x b e g d, has ⟨D.toArray⟩ ⟨s.length + 47, t, o, x, b, e, g, d⟩ [60, 47] = false := fun t o x b e g d => by
    rw [has_ev, show D.drop (St.pos ⟨s.length + 47, t, o, x, b, e, g, d⟩) = _ from hhi 19]
    rfl
  have f89 : ∀ t o x b e g d, has ⟨D.toArray⟩ ⟨s.length + 47, t, o, x, b, e, g, d⟩ [60, 33, 45, 45] = false := fun t o x b e g d => by
    rw [has_ev, show D.drop (St.pos ⟨s.length + 47, t, o, x, b, e, g, d⟩) = _ from hhi 19]
    rfl
  have f90 : ∀ t o x b e g d, has ⟨D.toArray⟩ ⟨s.length + 47, t, o, x, b, e, g, d⟩ [60, 63] = false := fun t o x b e g d => by
    rw [has_ev, show D.drop (St.pos ⟨s.length + 47, t, o, x, b, e, g, d⟩) = _ from hhi 19]
    rfl
  have f91 : ∀ t o x b e g d, has ⟨D.toArray⟩ ⟨s.length + 47, t, o, x, b, e, g, d⟩ [60, 33, 91, 67, 68, 65, 84, 65, 91] = false := fun t o x b e g d => by
    rw [has_ev, show D.drop (St.pos ⟨s.length + 47, t, o, x, b, e, g, d⟩) = _ from hhi 19]
    rfl
  have f92 : ∀ t o x b e g d, eat ⟨D.toArray⟩ ⟨s.length + 47, t, o, x, b, e, g, d⟩ [60, 33, 91, 67, 68, 65, 84, 65, 91] = (false, ⟨s.length + 47, t, o, x, b, e, g, d⟩) := fun t o x b e g d => by
    unfold eat
    rw [f91]
    rfl
  have f93 : ∀ t o x b e g d, has ⟨D.toArray⟩ ⟨s.length + 47, t, o, x, b, e, g, d⟩ [60] = false := fun t o x b e g d => by
    rw [has_ev, show D.drop (St.pos ⟨s.length + 47, t, o, x, b, e, g, d⟩) = _ from hhi 19]
    rfl
  have f94 : ∀ t o x b e g d, has ⟨D.toArray⟩ ⟨s.length + 47, t, o, x, b, e, g, d⟩ [38] = true := fun t o x b e g d => by
    rw [has_ev, show D.drop (St.pos ⟨s.length + 47, t, o, x, b, e, g, d⟩) = _ from hhi 19]
    rfl
  have f95 : ∀ t o x b e g d at_, refM ⟨D.toArray⟩ ⟨s.length + 47, t, o, x, b, e, g, d⟩ at_ = match expandN e at_ (s.length + 47 : Nat) 8 [] [108, 116, 45, 101] [] g with | .error x => .error x | .ok (o', k) => .ok (o', ⟨s.length + 53, t, o, x, b, e, k, d⟩) := fun t o x b e g d at_ => by
    have hr := ref_ev (n := [108, 116, 45, 101]) (r := D.drop (s.length + 53)) nL (by decide) (by decide)
    have hd : rest ⟨D.toArray⟩ ⟨s.length + 47, t, o, x, b, e, g, d⟩ = 38 :: ([108, 116, 45, 101] ++ 59 :: D.drop (s.length + 53)) := by
      rw [rest_ev, show D.drop (St.pos ⟨s.length + 47, t, o, x, b, e, g, d⟩) = _ from hhi 19, show D.drop (s.length + 53) = _ from hhi 25]
      rfl
    unfold refM
    rw [hd, hr.1, hr.2]
    simp only [St.to]
    rfl
  have f96 : s.length + 53 < D.length := by omega
  have f97 : ∀ t o x b e g d, has ⟨D.toArray⟩ ⟨s.length + 53, t, o, x, b, e, g, d⟩ [60, 47] = false := fun t o x b e g d => by
    rw [has_ev, show D.drop (St.pos ⟨s.length + 53, t, o, x, b, e, g, d⟩) = _ from hhi 25]
    rfl
  have f98 : ∀ t o x b e g d, has ⟨D.toArray⟩ ⟨s.length + 53, t, o, x, b, e, g, d⟩ [60, 33, 45, 45] = false := fun t o x b e g d => by
    rw [has_ev, show D.drop (St.pos ⟨s.length + 53, t, o, x, b, e, g, d⟩) = _ from hhi 25]
    rfl
  have f99 : ∀ t o x b e g d, has ⟨D.toArray⟩ ⟨s.length + 53, t, o, x, b, e, g, d⟩ [60, 63] = false := fun t o x b e g d => by
    rw [has_ev, show D.drop (St.pos ⟨s.length + 53, t, o, x, b, e, g, d⟩) = _ from hhi 25]
    rfl
  have f100 : ∀ t o x b e g d, has ⟨D.toArray⟩ ⟨s.length + 53, t, o, x, b, e, g, d⟩ [60, 33, 91, 67, 68, 65, 84, 65, 91] = false := fun t o x b e g d => by
    rw [has_ev, show D.drop (St.pos ⟨s.length + 53, t, o, x, b, e, g, d⟩) = _ from hhi 25]
    rfl
  have f101 : ∀ t o x b e g d, eat ⟨D.toArray⟩ ⟨s.length + 53, t, o, x, b, e, g, d⟩ [60, 33, 91, 67, 68, 65, 84, 65, 91] = (false, ⟨s.length + 53, t, o, x, b, e, g, d⟩) := fun t o x b e g d => by
    unfold eat
    rw [f100]
    rfl
  have f102 : ∀ t o x b e g d, has ⟨D.toArray⟩ ⟨s.length + 53, t, o, x, b, e, g, d⟩ [60] = false := fun t o x b e g d => by
    rw [has_ev, show D.drop (St.pos ⟨s.length + 53, t, o, x, b, e, g, d⟩) = _ from hhi 25]
    rfl
  have f103 : ∀ t o x b e g d, has ⟨D.toArray⟩ ⟨s.length + 53, t, o, x, b, e, g, d⟩ [38] = false := fun t o x b e g d => by
    rw [has_ev, show D.drop (St.pos ⟨s.length + 53, t, o, x, b, e, g, d⟩) = _ from hhi 25]
    rfl
  have f104 : ∀ t o x b e g d, has ⟨D.toArray⟩ ⟨s.length + 53, t, o, x, b, e, g, d⟩ [93, 93, 62] = false := fun t o x b e g d => by
    rw [has_ev, show D.drop (St.pos ⟨s.length + 53, t, o, x, b, e, g, d⟩) = _ from hhi 25]
    rfl
  have f105 : ∀ t o x b e g d, rest ⟨D.toArray⟩ ⟨s.length + 53, t, o, x, b, e, g, d⟩ = 121 :: D.drop (s.length + 54) := fun t o x b e g d => by
    rw [rest_ev, show D.drop (St.pos ⟨s.length + 53, t, o, x, b, e, g, d⟩) = _ from hhi 25, show D.drop (s.length + 54) = _ from hhi 26]
    rfl
  have f106 : s.length + 54 < D.length := by omega
  have f107 : ∀ t o x b e g d, has ⟨D.toArray⟩ ⟨s.length + 54, t, o, x, b, e, g, d⟩ [60, 47] = false := fun t o x b e g d => by
    rw [has_ev, show D.drop (St.pos ⟨s.length + 54, t, o, x, b, e, g, d⟩) = _ from hhi 26]
    rfl
  have f108 : ∀ t o x b e g d, has ⟨D.toArray⟩ ⟨s.length + 54, t, o, x, b, e, g, d⟩ [60, 33, 45, 45] = false := fun t o x b e g d => by
    rw [has_ev, show D.drop (St.pos ⟨s.length + 54, t, o, x, b, e, g, d⟩) = _ from hhi 26]
    rfl
  have f109 : ∀ t o x b e g d, has ⟨D.toArray⟩ ⟨s.length + 54, t, o, x, b, e, g, d⟩ [60, 63] = false := fun t o x b e g d => by
    rw [has_ev, show D.drop (St.pos ⟨s.length + 54, t, o, x, b, e, g, d⟩) = _ from hhi 26]
    rfl
  have f110 : ∀ t o x b e g d, has ⟨D.toArray⟩ ⟨s.length + 54, t, o, x, b, e, g, d⟩ [60, 33, 91, 67, 68, 65, 84, 65, 91] = false := fun t o x b e g d => by
    rw [has_ev, show D.drop (St.pos ⟨s.length + 54, t, o, x, b, e, g, d⟩) = _ from hhi 26]
    rfl
  have f111 : ∀ t o x b e g d, eat ⟨D.toArray⟩ ⟨s.length + 54, t, o, x, b, e, g, d⟩ [60, 33, 91, 67, 68, 65, 84, 65, 91] = (false, ⟨s.length + 54, t, o, x, b, e, g, d⟩) := fun t o x b e g d => by
    unfold eat
    rw [f110]
    rfl
  have f112 : ∀ t o x b e g d, has ⟨D.toArray⟩ ⟨s.length + 54, t, o, x, b, e, g, d⟩ [60] = false := fun t o x b e g d => by
    rw [has_ev, show D.drop (St.pos ⟨s.length + 54, t, o, x, b, e, g, d⟩) = _ from hhi 26]
    rfl
  have f113 : ∀ t o x b e g d, has ⟨D.toArray⟩ ⟨s.length + 54, t, o, x, b, e, g, d⟩ [38] = true := fun t o x b e g d => by
    rw [has_ev, show D.drop (St.pos ⟨s.length + 54, t, o, x, b, e, g, d⟩) = _ from hhi 26]
    rfl
  have f114 : ∀ t o x b e g d at_, refM ⟨D.toArray⟩ ⟨s.length + 54, t, o, x, b, e, g, d⟩ at_ = match expandN e at_ (s.length + 54 : Nat) 8 [] [108, 116, 45, 101] [] g with | .error x => .error x | .ok (o', k) => .ok (o', ⟨s.length + 60, t, o, x, b, e, k, d⟩) := fun t o x b e g d at_ => by
    have hr := ref_ev (n := [108, 116, 45, 101]) (r := D.drop (s.length + 60)) nL (by decide) (by decide)
    have hd : rest ⟨D.toArray⟩ ⟨s.length + 54, t, o, x, b, e, g, d⟩ = 38 :: ([108, 116, 45, 101] ++ 59 :: D.drop (s.length + 60)) := by
      rw [rest_ev, show D.drop (St.pos ⟨s.length + 54, t, o, x, b, e, g, d⟩) = _ from hhi 26, show D.drop (s.length + 60) = _ from hhi 32]
      rfl
    unfold refM
    rw [hd, hr.1, hr.2]
    simp only [St.to]
    rfl
  have f115 : s.length + 60 < D.length := by omega
  have f116 : ∀ t o x b e g d, has ⟨D.toArray⟩ ⟨s.length + 60, t, o, x, b, e, g, d⟩ [60, 47] = true := fun t o x b e g d => by
    rw [has_ev, show D.drop (St.pos ⟨s.length + 60, t, o, x, b, e, g, d⟩) = _ from hhi 32]
    rfl
  have f117 : ∀ t o x b e g d, qname ⟨D.toArray⟩ ⟨s.length + 62, t, o, x, b, e, g, d⟩ = (([97], true), ⟨s.length + 63, t, o, x, b, e, g, d⟩) := fun t o x b e g d => by
    have hw : wordN true (D.drop (St.pos ⟨s.length + 62, t, o, x, b, e, g, d⟩)) = 1 := by
      rw [show D.drop (St.pos ⟨s.length + 62, t, o, x, b, e, g, d⟩) = _ from hhi 34]
      exact scA_62 _
    have ht : (D.drop (St.pos ⟨s.length + 62, t, o, x, b, e, g, d⟩)).take 1 = [97] := by
      rw [show D.drop (St.pos ⟨s.length + 62, t, o, x, b, e, g, d⟩) = _ from hhi 34]
      rfl
    unfold qname
    simp only [word_ev, hw, ht]
    rw [show (split [97]).isSome = true from qA]
    rfl
  have f118 : s.length + 63 ≤ D.length := by omega
  have f119 : ∀ t o x b e g d, blanks ⟨D.toArray⟩ ⟨s.length + 63, t, o, x, b, e, g, d⟩ = (false, ⟨s.length + 63, t, o, x, b, e, g, d⟩) := fun t o x b e g d => (blanks_ev (D := D) (σ := ⟨s.length + 63, t, o, x, b, e, g, d⟩) f118).trans (by
    rw [show D.drop (St.pos ⟨s.length + 63, t, o, x, b, e, g, d⟩) = _ from hhi 35]
    rfl)
  have f120 : ∀ t o x b e g d, has ⟨D.toArray⟩ ⟨s.length + 63, t, o, x, b, e, g, d⟩ [62] = true := fun t o x b e g d => by
    rw [has_ev, show D.drop (St.pos ⟨s.length + 63, t, o, x, b, e, g, d⟩) = _ from hhi 35]
    rfl
  have f121 : ∀ t o x b e g d, eat ⟨D.toArray⟩ ⟨s.length + 63, t, o, x, b, e, g, d⟩ [62] = (true, ⟨s.length + 64, t, o, x, b, e, g, d⟩) := fun t o x b e g d => by
    unfold eat
    rw [f120]
    rfl
  have f122 : ¬ s.length + 64 < D.length := by omega
  have hq0 : refsN s = 0 := by have := refsN_fine s [] h0; simpa [refsN] using this
  have hq : refsN s = 0 := hq0
  have ha : ascii s = true := fine_ascii h0
  have hy : hasAny s [60, 37] = false := fine_any h0
  have fe : ∀ t o x b g d, entity ⟨D.toArray⟩ ⟨13, t, o, x, b, [], g, d⟩ = .ok ((), ⟨s.length + 30, t, o, x, b, [([108, 116, 45, 101], s)], g, d⟩) := fun t o x b g d => by
    unfold entity
    simp only [St.to, Nat.reduceAdd, f20, f21, f23, f26, f28, f30]
    simp only [ha, hy, hq, Bool.and_self, Bool.false_eq_true, if_true, if_false, List.lookup, Option.isSome_none, List.nil_append]
  have fd : ∀ m t o x b g d, decls ⟨D.toArray⟩ (m + 1 + 1) ⟨13, t, o, x, b, [], g, d⟩ = .ok ((), ⟨s.length + 30, t, o, x, b, [([108, 116, 45, 101], s)], g, d⟩) := fun m t o x b g d => by
    unfold decls
    simp only [f15, f16, f17, f18, fe, Bool.false_eq_true, if_true, if_false]
    unfold decls
    simp only [f32, f33, f34, f35, Bool.false_eq_true, if_false]
  obtain ⟨m, hm⟩ : ∃ m, D.length = m + 12 := ⟨D.length - 12, by omega⟩
  have ft : ∀ t o x b g d, doctype ⟨D.toArray⟩ ⟨0, t, o, x, b, [], g, d⟩ = .ok ((), ⟨s.length + 32, t, o, x, b, [([108, 116, 45, 101], s)], g, d⟩) := fun t o x b g d => by
    unfold doctype
    simp only [St.to, Nat.reduceAdd, f8, f9, f11, f13]
    rw [show (⟨D.toArray⟩ : ByteArray).size + 1 = (m + 11) + 1 + 1 by rw [size_ev, hm], fd]
    simp only [Bool.and_self, if_true, f37, f39, f41]
  have s1 : beside ⟨D.toArray⟩ ⟨0, [], [], [], 0, [], 0, false⟩ false = .ok (true, ⟨s.length + 32, [], [], [], 0, [([108, 116, 45, 101], s)], 0, false⟩) := by
    unfold beside
    simp only [f3, f4, f5, f6, ft, Bool.false_eq_true, Bool.or_self, if_true, if_false]
  have hx : ∀ (at_ : Bool) (p : Nat) (g : Nat), g + s.length ≤ 32768 → expandN [([108, 116, 45, 101], s)] at_ p 8 [] [108, 116, 45, 101] [] g = .ok (s, g + s.length) := fun at_ p g hg => by
    unfold expandN
    rw [plainL]
    simp only [List.lookup, beq_self_eq_true, List.contains_nil, List.length_nil, Bool.false_or]
    have := expandL_fine (fun e o' k' => expandN [([108, 116, 45, 101], s)] at_ p 7 ([] ++ [[108, 116, 45, 101]]) e o' k') at_ p s [] 0 [] g h0 hg
    simp only [List.append_nil, Nat.add_zero, List.nil_append] at this
    simp only [List.nil_append]
    rw [if_neg (by decide), this]
    rfl
  have fv : ∀ t o x b d, value ⟨D.toArray⟩ ⟨s.length + 37, t, o, x, b, [([108, 116, 45, 101], s)], 0, d⟩ = .ok ((s, true), ⟨s.length + 45, t, o, x, b, [([108, 116, 45, 101], s)], s.length, d⟩) := fun t o x b d => by
    unfold value sign
    simp only [f64, f65, if_true, St.to, Nat.add_assoc, Nat.reduceAdd]
    rw [show (⟨D.toArray⟩ : ByteArray).size + 1 = (m + 11) + 1 + 1 by rw [size_ev, hm]]
    unfold valueL
    simp only [f66, f67, f68, f69, size_ev, hx _ _ 0 (by omega), if_true, if_false, Bool.false_eq_true, List.headD_cons]
    rw [if_neg (by decide)]
    unfold valueL
    simp only [f70, f71, size_ev, if_true, List.nil_append, Nat.zero_add, St.to, Nat.add_assoc, Nat.reduceAdd, List.length_cons, List.length_nil]
  have fa : ∀ p t o x b d, tagL ⟨D.toArray⟩ p (m + 11 + 1 + 1) ⟨s.length + 34, t, o, x, b, [([108, 116, 45, 101], s)], 0, d⟩ [] = .ok ([([98], s)], ⟨s.length + 45, t, o, x, b, [([108, 116, 45, 101], s)], s.length, d⟩) := fun p t o x b d => by
    unfold tagL
    simp only [f53, f54, f55, f56, f57, f59, f61, f63, size_ev, equal, fv, named, List.any_nil, Bool.and_self, Bool.or_self, Bool.false_eq_true, if_true, if_false, List.nil_append]
    unfold tagL
    simp only [f73, f74, f75, f76, size_ev, Bool.true_or, if_true]
  have s2 : beside ⟨D.toArray⟩ ⟨s.length + 32, [], [], [], 0, [([108, 116, 45, 101], s)], 0, false⟩ true = .ok (true, ⟨s.length + 46, [⟨2, [97], [([98], s)], []⟩], [[97]], [], 0, [([108, 116, 45, 101], s)], s.length, false⟩) := by
    have fg : tag ⟨D.toArray⟩ ⟨s.length + 32, [], [], [], 0, [([108, 116, 45, 101], s)], 0, false⟩ = .ok ((), ⟨s.length + 46, [⟨2, [97], [([98], s)], []⟩], [[97]], [], 0, [([108, 116, 45, 101], s)], s.length, false⟩) := by
      unfold tag
      simp only [f51, St.to, Nat.add_assoc, Nat.reduceAdd, if_true]
      rw [show (⟨D.toArray⟩ : ByteArray).size + 1 = m + 11 + 1 + 1 by rw [size_ev, hm], fa]
      simp [f76, flushAdd, flush, add, Nat.add_assoc]
    unfold beside
    simp only [f44, f45, f46, f47, f48, f49, f50, fg, Bool.not_true, Bool.or_self, Bool.false_eq_true, if_false]
  have s3 : content ⟨D.toArray⟩ ⟨s.length + 46, [⟨2, [97], [([98], s)], []⟩], [[97]], [], 0, [([108, 116, 45, 101], s)], s.length, false⟩ = .ok ((), ⟨s.length + 47, [⟨2, [97], [([98], s)], []⟩], [[97]], [120], s.length + 46, [([108, 116, 45, 101], s)], s.length, false⟩) := by
    unfold content
    simp [f78, f79, f80, f82, f83, f84, f85, f86, put, St.to, Nat.add_assoc]
  have s4 : content ⟨D.toArray⟩ ⟨s.length + 47, [⟨2, [97], [([98], s)], []⟩], [[97]], [120], s.length + 46, [([108, 116, 45, 101], s)], s.length, false⟩ = .ok ((), ⟨s.length + 53, [⟨2, [97], [([98], s)], []⟩], [[97]], ([120] ++ s), s.length + 46, [([108, 116, 45, 101], s)], (s.length + s.length), false⟩) := by
    unfold content
    simp [f88, f89, f90, f92, f93, f94, f95, put, hx false _ (s.length) (by omega)]
  have s5 : content ⟨D.toArray⟩ ⟨s.length + 53, [⟨2, [97], [([98], s)], []⟩], [[97]], ([120] ++ s), s.length + 46, [([108, 116, 45, 101], s)], (s.length + s.length), false⟩ = .ok ((), ⟨s.length + 54, [⟨2, [97], [([98], s)], []⟩], [[97]], ([120] ++ s ++ [121]), s.length + 46, [([108, 116, 45, 101], s)], (s.length + s.length), false⟩) := by
    unfold content
    simp [f97, f98, f99, f101, f102, f103, f104, f105, put, St.to, Nat.add_assoc]
  have s6 : content ⟨D.toArray⟩ ⟨s.length + 54, [⟨2, [97], [([98], s)], []⟩], [[97]], ([120] ++ s ++ [121]), s.length + 46, [([108, 116, 45, 101], s)], (s.length + s.length), false⟩ = .ok ((), ⟨s.length + 60, [⟨2, [97], [([98], s)], []⟩], [[97]], ([120] ++ s ++ [121] ++ s), s.length + 46, [([108, 116, 45, 101], s)], (s.length + s.length + s.length), false⟩) := by
    unfold content
    simp [f107, f108, f109, f111, f112, f113, f114, put, Nat.add_assoc, hx false _ (s.length + s.length) (by omega)]
  have s7 : content ⟨D.toArray⟩ ⟨s.length + 60, [⟨2, [97], [([98], s)], []⟩], [[97]], ([120] ++ s ++ [121] ++ s), s.length + 46, [([108, 116, 45, 101], s)], (s.length + s.length + s.length), false⟩ = .ok ((), ⟨s.length + 64, toksA s, [], [], s.length + 46, [([108, 116, 45, 101], s)], s.length + s.length + s.length, true⟩) := by
    unfold content endTag
    simp [f116, f117, f119, f121, flushAdd, flush, add, St.to, Nat.add_assoc, toksA]
  have hw : whole ⟨D.toArray⟩ St.start = .ok ((), ⟨s.length + 64, toksA s, [], [], s.length + 46, [([108, 116, 45, 101], s)], s.length + s.length + s.length, true⟩) := by
    unfold whole
    rw [show has _ St.start _ = _ from f0 _ _ _ _ _ _ _]
    simp only [Bool.false_and, Bool.false_eq_true, if_false]
    rw [show (⟨D.toArray⟩ : ByteArray).size + 1 = (m + 6) + 1 + 1 + 1 + 1 + 1 + 1 + 1 by rw [size_ev, hm]]
    rw [show parts ⟨D.toArray⟩ ((m + 6) + 1 + 1 + 1 + 1 + 1 + 1 + 1) St.start false = _ from parts_out (by rw [size_ev]; show 0 < _; omega) rfl s1, parts_out (by rw [size_ev]; simp only; omega) rfl s2]
    rw [parts_in (by rw [size_ev]; simp only; omega) (by simp) s3, parts_in (by rw [size_ev]; simp only; omega) (by simp) s4, parts_in (by rw [size_ev]; simp only; omega) (by simp) s5, parts_in (by rw [size_ev]; simp only; omega) (by simp) s6, parts_in (by rw [size_ev]; simp only; omega) (by simp) s7, parts_end (by rw [size_ev]; simp only; omega)]
    rfl
  unfold scan
  rw [if_neg (by omega), hb]
  simp only
  rw [hw]

set_option maxHeartbeats 2000000 in
set_option maxRecDepth 100000 in
theorem scanBL (s : Bytes) (h0 : s.all fine = true) (h3 : s.length ≤ 3000) : ∃ p, scan (docB [108, 116, 45, 101] s) = .error (6, p) := by
  obtain ⟨D, hD⟩ : ∃ D, D = docB [108, 116, 45, 101] s := ⟨_, rfl⟩
  rw [← hD]
  have h : DocIs D [60, 33, 68, 79, 67, 84, 89, 80, 69, 32, 97, 32, 91, 60, 33, 69, 78, 84, 73, 84, 89, 32, 108, 116, 45, 101, 32, 34] s [38, 108, 116, 45, 101, 59, 34, 62, 93, 62, 60, 97, 62, 38, 108, 116, 45, 101, 59, 60, 47, 97, 62] := ⟨h0, h3, by rw [hD]; simp [docB]⟩
  have hlo : ∀ k, k ≤ 28 → D.drop k = ([60, 33, 68, 79, 67, 84, 89, 80, 69, 32, 97, 32, 91, 60, 33, 69, 78, 84, 73, 84, 89, 32, 108, 116, 45, 101, 32, 34] : Bytes).drop k ++ (s ++ [38, 108, 116, 45, 101, 59, 34, 62, 93, 62, 60, 97, 62, 38, 108, 116, 45, 101, 59, 60, 47, 97, 62]) := fun k hk => h.lo hk
  have hhi : ∀ k, D.drop (s.length + (28 + k)) = ([38, 108, 116, 45, 101, 59, 34, 62, 93, 62, 60, 97, 62, 38, 108, 116, 45, 101, 59, 60, 47, 97, 62] : Bytes).drop k := fun k => h.hi rfl
  have hz : D.length = 28 + s.length + 23 := h.size
  have hb : badAt D.length D 0 = none := badAt_print _ _ _ (by
    rw [h.all]
    have hp := fine_print h0
    intro c hc
    simp only [List.mem_append] at hc
    have lits : ∀ l : Bytes, (l.all fun c => decide (32 ≤ c.toNat) && decide (c.toNat ≤ 126)) = true → ∀ c ∈ l, 32 ≤ c.toNat ∧ c.toNat ≤ 126 := fun l hl c hc => by
      have := List.all_eq_true.1 hl c hc
      simpa using this
    rcases hc with hc | hc | hc
    · exact lits _ (by decide) c hc
    · exact hp c hc
    · exact lits _ (by decide) c hc)
  have f0 : ∀ t o x b e g d, has ⟨D.toArray⟩ ⟨0, t, o, x, b, e, g, d⟩ [60, 63, 120, 109, 108] = false := fun t o x b e g d => by
    rw [has_ev, show D.drop (St.pos ⟨0, t, o, x, b, e, g, d⟩) = _ from hlo 0 (by decide)]
    rfl
  have f1 : 0 < D.length := by omega
  have f2 : 0 ≤ D.length := by omega
  have f3 : ∀ t o x b e g d, blanks ⟨D.toArray⟩ ⟨0, t, o, x, b, e, g, d⟩ = (false, ⟨0, t, o, x, b, e, g, d⟩) := fun t o x b e g d => (blanks_ev (D := D) (σ := ⟨0, t, o, x, b, e, g, d⟩) f2).trans (by
    rw [show D.drop (St.pos ⟨0, t, o, x, b, e, g, d⟩) = _ from hlo 0 (by decide)]
    rfl)
  have f4 : ∀ t o x b e g d, has ⟨D.toArray⟩ ⟨0, t, o, x, b, e, g, d⟩ [60, 33, 45, 45] = false := fun t o x b e g d => by
    rw [has_ev, show D.drop (St.pos ⟨0, t, o, x, b, e, g, d⟩) = _ from hlo 0 (by decide)]
    rfl
  have f5 : ∀ t o x b e g d, has ⟨D.toArray⟩ ⟨0, t, o, x, b, e, g, d⟩ [60, 63] = false := fun t o x b e g d => by
    rw [has_ev, show D.drop (St.pos ⟨0, t, o, x, b, e, g, d⟩) = _ from hlo 0 (by decide)]
    rfl
  have f6 : ∀ t o x b e g d, has ⟨D.toArray⟩ ⟨0, t, o, x, b, e, g, d⟩ [60, 33, 68, 79, 67, 84, 89, 80, 69] = true := fun t o x b e g d => by
    rw [has_ev, show D.drop (St.pos ⟨0, t, o, x, b, e, g, d⟩) = _ from hlo 0 (by decide)]
    rfl
  have f7 : 9 ≤ D.length := by omega
  have f8 : ∀ t o x b e g d, blanks ⟨D.toArray⟩ ⟨9, t, o, x, b, e, g, d⟩ = (true, ⟨10, t, o, x, b, e, g, d⟩) := fun t o x b e g d => (blanks_ev (D := D) (σ := ⟨9, t, o, x, b, e, g, d⟩) f7).trans (by
    rw [show D.drop (St.pos ⟨9, t, o, x, b, e, g, d⟩) = _ from hlo 9 (by decide)]
    rfl)
  have f9 : ∀ t o x b e g d, qname ⟨D.toArray⟩ ⟨10, t, o, x, b, e, g, d⟩ = (([97], true), ⟨11, t, o, x, b, e, g, d⟩) := fun t o x b e g d => by
    have hw : wordN true (D.drop (St.pos ⟨10, t, o, x, b, e, g, d⟩)) = 1 := by
      rw [show D.drop (St.pos ⟨10, t, o, x, b, e, g, d⟩) = _ from hlo 10 (by decide)]
      exact scA_32 _
    have ht : (D.drop (St.pos ⟨10, t, o, x, b, e, g, d⟩)).take 1 = [97] := by
      rw [show D.drop (St.pos ⟨10, t, o, x, b, e, g, d⟩) = _ from hlo 10 (by decide)]
      rfl
    unfold qname
    simp only [word_ev, hw, ht]
    rw [show (split [97]).isSome = true from qA]
    rfl
  have f10 : 11 ≤ D.length := by omega
  have f11 : ∀ t o x b e g d, blanks ⟨D.toArray⟩ ⟨11, t, o, x, b, e, g, d⟩ = (true, ⟨12, t, o, x, b, e, g, d⟩) := fun t o x b e g d => (blanks_ev (D := D) (σ := ⟨11, t, o, x, b, e, g, d⟩) f10).trans (by
    rw [show D.drop (St.pos ⟨11, t, o, x, b, e, g, d⟩) = _ from hlo 11 (by decide)]
    rfl)
  have f12 : ∀ t o x b e g d, has ⟨D.toArray⟩ ⟨12, t, o, x, b, e, g, d⟩ [91] = true := fun t o x b e g d => by
    rw [has_ev, show D.drop (St.pos ⟨12, t, o, x, b, e, g, d⟩) = _ from hlo 12 (by decide)]
    rfl
  have f13 : ∀ t o x b e g d, eat ⟨D.toArray⟩ ⟨12, t, o, x, b, e, g, d⟩ [91] = (true, ⟨13, t, o, x, b, e, g, d⟩) := fun t o x b e g d => by
    unfold eat
    rw [f12]
    rfl
  have f14 : 13 ≤ D.length := by omega
  have f15 : ∀ t o x b e g d, blanks ⟨D.toArray⟩ ⟨13, t, o, x, b, e, g, d⟩ = (false, ⟨13, t, o, x, b, e, g, d⟩) := fun t o x b e g d => (blanks_ev (D := D) (σ := ⟨13, t, o, x, b, e, g, d⟩) f14).trans (by
    rw [show D.drop (St.pos ⟨13, t, o, x, b, e, g, d⟩) = _ from hlo 13 (by decide)]
    rfl)
  have f16 : ∀ t o x b e g d, has ⟨D.toArray⟩ ⟨13, t, o, x, b, e, g, d⟩ [60, 33, 45, 45] = false := fun t o x b e g d => by
    rw [has_ev, show D.drop (St.pos ⟨13, t, o, x, b, e, g, d⟩) = _ from hlo 13 (by decide)]
    rfl
  have f17 : ∀ t o x b e g d, has ⟨D.toArray⟩ ⟨13, t, o, x, b, e, g, d⟩ [60, 63] = false := fun t o x b e g d => by
    rw [has_ev, show D.drop (St.pos ⟨13, t, o, x, b, e, g, d⟩) = _ from hlo 13 (by decide)]
    rfl
  have f18 : ∀ t o x b e g d, has ⟨D.toArray⟩ ⟨13, t, o, x, b, e, g, d⟩ [60, 33, 69, 78, 84, 73, 84, 89] = true := fun t o x b e g d => by
    rw [has_ev, show D.drop (St.pos ⟨13, t, o, x, b, e, g, d⟩) = _ from hlo 13 (by decide)]
    rfl
  have f19 : 21 ≤ D.length := by omega
  have f20 : ∀ t o x b e g d, blanks ⟨D.toArray⟩ ⟨21, t, o, x, b, e, g, d⟩ = (true, ⟨22, t, o, x, b, e, g, d⟩) := fun t o x b e g d => (blanks_ev (D := D) (σ := ⟨21, t, o, x, b, e, g, d⟩) f19).trans (by
    rw [show D.drop (St.pos ⟨21, t, o, x, b, e, g, d⟩) = _ from hlo 21 (by decide)]
    rfl)
  have f21 : ∀ t o x b e g d, name ⟨D.toArray⟩ ⟨22, t, o, x, b, e, g, d⟩ = (([108, 116, 45, 101], true), ⟨26, t, o, x, b, e, g, d⟩) := fun t o x b e g d => by
    have hw : wordN false (D.drop (St.pos ⟨22, t, o, x, b, e, g, d⟩)) = 4 := by
      rw [show D.drop (St.pos ⟨22, t, o, x, b, e, g, d⟩) = _ from hlo 22 (by decide)]
      exact snL_32 _
    have ht : (D.drop (St.pos ⟨22, t, o, x, b, e, g, d⟩)).take 4 = [108, 116, 45, 101] := by
      rw [show D.drop (St.pos ⟨22, t, o, x, b, e, g, d⟩) = _ from hlo 22 (by decide)]
      rfl
    unfold name
    simp only [word_ev, hw, ht]
    rw [show isName [108, 116, 45, 101] = true from nL]
    rfl
  have f22 : 26 ≤ D.length := by omega
  have f23 : ∀ t o x b e g d, blanks ⟨D.toArray⟩ ⟨26, t, o, x, b, e, g, d⟩ = (true, ⟨27, t, o, x, b, e, g, d⟩) := fun t o x b e g d => (blanks_ev (D := D) (σ := ⟨26, t, o, x, b, e, g, d⟩) f22).trans (by
    rw [show D.drop (St.pos ⟨26, t, o, x, b, e, g, d⟩) = _ from hlo 26 (by decide)]
    rfl)
  have f24 : ∀ t o x b e g d, has ⟨D.toArray⟩ ⟨27, t, o, x, b, e, g, d⟩ [39] = false := fun t o x b e g d => by
    rw [has_ev, show D.drop (St.pos ⟨27, t, o, x, b, e, g, d⟩) = _ from hlo 27 (by decide)]
    rfl
  have f25 : ∀ t o x b e g d, has ⟨D.toArray⟩ ⟨27, t, o, x, b, e, g, d⟩ [34] = true := fun t o x b e g d => by
    rw [has_ev, show D.drop (St.pos ⟨27, t, o, x, b, e, g, d⟩) = _ from hlo 27 (by decide)]
    rfl
  have f26 : ∀ t o x b e g d, quoted ⟨D.toArray⟩ ⟨27, t, o, x, b, e, g, d⟩ = (((s ++ [38, 108, 116, 45, 101, 59]), true), ⟨s.length + 35, t, o, x, b, e, g, d⟩) := fun t o x b e g d => by
    unfold quoted sign
    rw [f24, f25]
    have hu := upto_ev (D := D) (σ := ⟨28, t, o, x, b, e, g, d⟩) (a := (s ++ [38, 108, 116, 45, 101, 59])) (c := 34) (r := D.drop (s.length + 35)) (by
      rw [show D.drop (St.pos _) = _ from hlo 28 (by decide), show D.drop (s.length + 35) = _ from hhi 7]
      simp) (by simp; exact fine_not h.fine (by decide))
    simp only [Bool.false_eq_true, if_false, if_true, St.to]
    refine (show upto _ _ _ = _ from hu).trans ?_
    simp only [St.to, List.length_append, List.length_cons, List.length_nil]
    rw [show 28 + (s.length + 6) + 1 = s.length + 35 by omega]
  have f27 : s.length + 35 ≤ D.length := by omega
  have f28 : ∀ t o x b e g d, blanks ⟨D.toArray⟩ ⟨s.length + 35, t, o, x, b, e, g, d⟩ = (false, ⟨s.length + 35, t, o, x, b, e, g, d⟩) := fun t o x b e g d => (blanks_ev (D := D) (σ := ⟨s.length + 35, t, o, x, b, e, g, d⟩) f27).trans (by
    rw [show D.drop (St.pos ⟨s.length + 35, t, o, x, b, e, g, d⟩) = _ from hhi 7]
    rfl)
  have f29 : ∀ t o x b e g d, has ⟨D.toArray⟩ ⟨s.length + 35, t, o, x, b, e, g, d⟩ [62] = true := fun t o x b e g d => by
    rw [has_ev, show D.drop (St.pos ⟨s.length + 35, t, o, x, b, e, g, d⟩) = _ from hhi 7]
    rfl
  have f30 : ∀ t o x b e g d, eat ⟨D.toArray⟩ ⟨s.length + 35, t, o, x, b, e, g, d⟩ [62] = (true, ⟨s.length + 36, t, o, x, b, e, g, d⟩) := fun t o x b e g d => by
    unfold eat
    rw [f29]
    rfl
  have f31 : s.length + 36 ≤ D.length := by omega
  have f32 : ∀ t o x b e g d, blanks ⟨D.toArray⟩ ⟨s.length + 36, t, o, x, b, e, g, d⟩ = (false, ⟨s.length + 36, t, o, x, b, e, g, d⟩) := fun t o x b e g d => (blanks_ev (D := D) (σ := ⟨s.length + 36, t, o, x, b, e, g, d⟩) f31).trans (by
    rw [show D.drop (St.pos ⟨s.length + 36, t, o, x, b, e, g, d⟩) = _ from hhi 8]
    rfl)
  have f33 : ∀ t o x b e g d, has ⟨D.toArray⟩ ⟨s.length + 36, t, o, x, b, e, g, d⟩ [60, 33, 45, 45] = false := fun t o x b e g d => by
    rw [has_ev, show D.drop (St.pos ⟨s.length + 36, t, o, x, b, e, g, d⟩) = _ from hhi 8]
    rfl
  have f34 : ∀ t o x b e g d, has ⟨D.toArray⟩ ⟨s.length + 36, t, o, x, b, e, g, d⟩ [60, 63] = false := fun t o x b e g d => by
    rw [has_ev, show D.drop (St.pos ⟨s.length + 36, t, o, x, b, e, g, d⟩) = _ from hhi 8]
    rfl
  have f35 : ∀ t o x b e g d, has ⟨D.toArray⟩ ⟨s.length + 36, t, o, x, b, e, g, d⟩ [60, 33, 69, 78, 84, 73, 84, 89] = false := fun t o x b e g d => by
    rw [has_ev, show D.drop (St.pos ⟨s.length + 36, t, o, x, b, e, g, d⟩) = _ from hhi 8]
    rfl
  have f36 : ∀ t o x b e g d, has ⟨D.toArray⟩ ⟨s.length + 36, t, o, x, b, e, g, d⟩ [93] = true := fun t o x b e g d => by
    rw [has_ev, show D.drop (St.pos ⟨s.length + 36, t, o, x, b, e, g, d⟩) = _ from hhi 8]
    rfl
  have f37 : ∀ t o x b e g d, eat ⟨D.toArray⟩ ⟨s.length + 36, t, o, x, b, e, g, d⟩ [93] = (true, ⟨s.length + 37, t, o, x, b, e, g, d⟩) := fun t o x b e g d => by
    unfold eat
    rw [f36]
    rfl
  have f38 : s.length + 37 ≤ D.length := by omega
  have f39 : ∀ t o x b e g d, blanks ⟨D.toArray⟩ ⟨s.length + 37, t, o, x, b, e, g, d⟩ = (false, ⟨s.length + 37, t, o, x, b, e, g, d⟩) := fun t o x b e g d => (blanks_ev (D := D) (σ := ⟨s.length + 37, t, o, x, b, e, g, d⟩) f38).trans (by
    rw [show D.drop (St.pos ⟨s.length + 37, t, o, x, b, e, g, d⟩) = _ from hhi 9]
    rfl)
  have f40 : ∀ t o x b e g d, has ⟨D.toArray⟩ ⟨s.length + 37, t, o, x, b, e, g, d⟩ [62] = true := fun t o x b e g d => by
    rw [has_ev, show D.drop (St.pos ⟨s.length + 37, t, o, x, b, e, g, d⟩) = _ from hhi 9]
    rfl
  have f41 : ∀ t o x b e g d, eat ⟨D.toArray⟩ ⟨s.length + 37, t, o, x, b, e, g, d⟩ [62] = (true, ⟨s.length + 38, t, o, x, b, e, g, d⟩) := fun t o x b e g d => by
    unfold eat
    rw [f40]
    rfl
  have f42 : s.length + 38 < D.length := by omega
  have f43 : s.length + 38 ≤ D.length := by omega
  have f44 : ∀ t o x b e g d, blanks ⟨D.toArray⟩ ⟨s.length + 38, t, o, x, b, e, g, d⟩ = (false, ⟨s.length + 38, t, o, x, b, e, g, d⟩) := fun t o x b e g d => (blanks_ev (D := D) (σ := ⟨s.length + 38, t, o, x, b, e, g, d⟩) f43).trans (by
    rw [show D.drop (St.pos ⟨s.length + 38, t, o, x, b, e, g, d⟩) = _ from hhi 10]
    rfl)
  have f45 : ∀ t o x b e g d, has ⟨D.toArray⟩ ⟨s.length + 38, t, o, x, b, e, g, d⟩ [60, 33, 45, 45] = false := fun t o x b e g d => by
    rw [has_ev, show D.drop (St.pos ⟨s.length + 38, t, o, x, b, e, g, d⟩) = _ from hhi 10]
    rfl
  have f46 : ∀ t o x b e g d, has ⟨D.toArray⟩ ⟨s.length + 38, t, o, x, b, e, g, d⟩ [60, 63] = false := fun t o x b e g d => by
    rw [has_ev, show D.drop (St.pos ⟨s.length + 38, t, o, x, b, e, g, d⟩) = _ from hhi 10]
    rfl
  have f47 : ∀ t o x b e g d, has ⟨D.toArray⟩ ⟨s.length + 38, t, o, x, b, e, g, d⟩ [60, 33, 68, 79, 67, 84, 89, 80, 69] = false := fun t o x b e g d => by
    rw [has_ev, show D.drop (St.pos ⟨s.length + 38, t, o, x, b, e, g, d⟩) = _ from hhi 10]
    rfl
  have f48 : ∀ t o x b e g d, has ⟨D.toArray⟩ ⟨s.length + 38, t, o, x, b, e, g, d⟩ [60] = true := fun t o x b e g d => by
    rw [has_ev, show D.drop (St.pos ⟨s.length + 38, t, o, x, b, e, g, d⟩) = _ from hhi 10]
    rfl
  have f49 : ∀ t o x b e g d, has ⟨D.toArray⟩ ⟨s.length + 38, t, o, x, b, e, g, d⟩ [60, 47] = false := fun t o x b e g d => by
    rw [has_ev, show D.drop (St.pos ⟨s.length + 38, t, o, x, b, e, g, d⟩) = _ from hhi 10]
    rfl
  have f50 : ∀ t o x b e g d, has ⟨D.toArray⟩ ⟨s.length + 38, t, o, x, b, e, g, d⟩ [60, 33] = false := fun t o x b e g d => by
    rw [has_ev, show D.drop (St.pos ⟨s.length + 38, t, o, x, b, e, g, d⟩) = _ from hhi 10]
    rfl
  have f51 : ∀ t o x b e g d, qname ⟨D.toArray⟩ ⟨s.length + 39, t, o, x, b, e, g, d⟩ = (([97], true), ⟨s.length + 40, t, o, x, b, e, g, d⟩) := fun t o x b e g d => by
    have hw : wordN true (D.drop (St.pos ⟨s.length + 39, t, o, x, b, e, g, d⟩)) = 1 := by
      rw [show D.drop (St.pos ⟨s.length + 39, t, o, x, b, e, g, d⟩) = _ from hhi 11]
      exact scA_62 _
    have ht : (D.drop (St.pos ⟨s.length + 39, t, o, x, b, e, g, d⟩)).take 1 = [97] := by
      rw [show D.drop (St.pos ⟨s.length + 39, t, o, x, b, e, g, d⟩) = _ from hhi 11]
      rfl
    unfold qname
    simp only [word_ev, hw, ht]
    rw [show (split [97]).isSome = true from qA]
    rfl
  have f52 : s.length + 40 ≤ D.length := by omega
  have f53 : ∀ t o x b e g d, blanks ⟨D.toArray⟩ ⟨s.length + 40, t, o, x, b, e, g, d⟩ = (false, ⟨s.length + 40, t, o, x, b, e, g, d⟩) := fun t o x b e g d => (blanks_ev (D := D) (σ := ⟨s.length + 40, t, o, x, b, e, g, d⟩) f52).trans (by
    rw [show D.drop (St.pos ⟨s.length + 40, t, o, x, b, e, g, d⟩) = _ from hhi 12]
    rfl)
  have f54 : s.length + 40 < D.length := by omega
  have f55 : ∀ t o x b e g d, has ⟨D.toArray⟩ ⟨s.length + 40, t, o, x, b, e, g, d⟩ [62] = true := fun t o x b e g d => by
    rw [has_ev, show D.drop (St.pos ⟨s.length + 40, t, o, x, b, e, g, d⟩) = _ from hhi 12]
    rfl
  have f56 : ∀ t o x b e g d, has ⟨D.toArray⟩ ⟨s.length + 40, t, o, x, b, e, g, d⟩ [47, 62] = false := fun t o x b e g d => by
    rw [has_ev, show D.drop (St.pos ⟨s.length + 40, t, o, x, b, e, g, d⟩) = _ from hhi 12]
    rfl
  have f57 : s.length + 41 < D.length := by omega
  have f58 : ∀ t o x b e g d, has ⟨D.toArray⟩ ⟨s.length + 41, t, o, x, b, e, g, d⟩ [60, 47] = false := fun t o x b e g d => by
    rw [has_ev, show D.drop (St.pos ⟨s.length + 41, t, o, x, b, e, g, d⟩) = _ from hhi 13]
    rfl
  have f59 : ∀ t o x b e g d, has ⟨D.toArray⟩ ⟨s.length + 41, t, o, x, b, e, g, d⟩ [60, 33, 45, 45] = false := fun t o x b e g d => by
    rw [has_ev, show D.drop (St.pos ⟨s.length + 41, t, o, x, b, e, g, d⟩) = _ from hhi 13]
    rfl
  have f60 : ∀ t o x b e g d, has ⟨D.toArray⟩ ⟨s.length + 41, t, o, x, b, e, g, d⟩ [60, 63] = false := fun t o x b e g d => by
    rw [has_ev, show D.drop (St.pos ⟨s.length + 41, t, o, x, b, e, g, d⟩) = _ from hhi 13]
    rfl
  have f61 : ∀ t o x b e g d, has ⟨D.toArray⟩ ⟨s.length + 41, t, o, x, b, e, g, d⟩ [60, 33, 91, 67, 68, 65, 84, 65, 91] = false := fun t o x b e g d => by
    rw [has_ev, show D.drop (St.pos ⟨s.length + 41, t, o, x, b, e, g, d⟩) = _ from hhi 13]
    rfl
  have f62 : ∀ t o x b e g d, eat ⟨D.toArray⟩ ⟨s.length + 41, t, o, x, b, e, g, d⟩ [60, 33, 91, 67, 68, 65, 84, 65, 91] = (false, ⟨s.length + 41, t, o, x, b, e, g, d⟩) := fun t o x b e g d => by
    unfold eat
    rw [f61]
    rfl
  have f63 : ∀ t o x b e g d, has ⟨D.toArray⟩ ⟨s.length + 41, t, o, x, b, e, g, d⟩ [60] = false := fun t o x b e g d => by
    rw [has_ev, show D.drop (St.pos ⟨s.length + 41, t, o, x, b, e, g, d⟩) = _ from hhi 13]
    rfl
  have f64 : ∀ t o x b e g d, has ⟨D.toArray⟩ ⟨s.length + 41, t, o, x, b, e, g, d⟩ [38] = true := fun t o x b e g d => by
    rw [has_ev, show D.drop (St.pos ⟨s.length + 41, t, o, x, b, e, g, d⟩) = _ from hhi 13]
    rfl
  have f65 : ∀ t o x b e g d at_, refM ⟨D.toArray⟩ ⟨s.length + 41, t, o, x, b, e, g, d⟩ at_ = match expandN e at_ (s.length + 41 : Nat) 8 [] [108, 116, 45, 101] [] g with | .error x => .error x | .ok (o', k) => .ok (o', ⟨s.length + 47, t, o, x, b, e, k, d⟩) := fun t o x b e g d at_ => by
    have hr := ref_ev (n := [108, 116, 45, 101]) (r := D.drop (s.length + 47)) nL (by decide) (by decide)
    have hd : rest ⟨D.toArray⟩ ⟨s.length + 41, t, o, x, b, e, g, d⟩ = 38 :: ([108, 116, 45, 101] ++ 59 :: D.drop (s.length + 47)) := by
      rw [rest_ev, show D.drop (St.pos ⟨s.length + 41, t, o, x, b, e, g, d⟩) = _ from hhi 13, show D.drop (s.length + 47) = _ from hhi 19]
      rfl
    unfold refM
    rw [hd, hr.1, hr.2]
    simp only [St.to]
    rfl
  have hq0 : refsN s = 0 := by have := refsN_fine s [] h0; simpa [refsN] using this
  have hrf := ref_ev (n := [108, 116, 45, 101]) (r := []) nL (by decide) (by decide)
  have hq : refsN (s ++ [38, 108, 116, 45, 101, 59]) = 0 := by
    rw [refsN_fine s _ h0]
    have e1 : refWild [38, 108, 116, 45, 101, 59] = false := hrf.2
    have e2 : reference [38, 108, 116, 45, 101, 59] = some (6, [], [108, 116, 45, 101]) := hrf.1
    simp [refsN, e1, e2]
  have ha : ascii (s ++ [38, 108, 116, 45, 101, 59]) = true := by
    have := fine_ascii h0
    unfold ascii at this ⊢
    rw [List.all_append, this]
    rfl
  have hy : hasAny (s ++ [38, 108, 116, 45, 101, 59]) [60, 37] = false := by
    have := fine_any h0
    unfold hasAny at this ⊢
    rw [List.any_append, this]
    rfl
  have fe : ∀ t o x b g d, entity ⟨D.toArray⟩ ⟨13, t, o, x, b, [], g, d⟩ = .ok ((), ⟨s.length + 36, t, o, x, b, [([108, 116, 45, 101], (s ++ [38, 108, 116, 45, 101, 59]))], g, d⟩) := fun t o x b g d => by
    unfold entity
    simp only [St.to, Nat.reduceAdd, f20, f21, f23, f26, f28, f30]
    simp only [ha, hy, hq, Bool.and_self, Bool.false_eq_true, if_true, if_false, List.lookup, Option.isSome_none, List.nil_append]
  have fd : ∀ m t o x b g d, decls ⟨D.toArray⟩ (m + 1 + 1) ⟨13, t, o, x, b, [], g, d⟩ = .ok ((), ⟨s.length + 36, t, o, x, b, [([108, 116, 45, 101], (s ++ [38, 108, 116, 45, 101, 59]))], g, d⟩) := fun m t o x b g d => by
    unfold decls
    simp only [f15, f16, f17, f18, fe, Bool.false_eq_true, if_true, if_false]
    unfold decls
    simp only [f32, f33, f34, f35, Bool.false_eq_true, if_false]
  obtain ⟨m, hm⟩ : ∃ m, D.length = m + 12 := ⟨D.length - 12, by omega⟩
  have ft : ∀ t o x b g d, doctype ⟨D.toArray⟩ ⟨0, t, o, x, b, [], g, d⟩ = .ok ((), ⟨s.length + 38, t, o, x, b, [([108, 116, 45, 101], (s ++ [38, 108, 116, 45, 101, 59]))], g, d⟩) := fun t o x b g d => by
    unfold doctype
    simp only [St.to, Nat.reduceAdd, f8, f9, f11, f13]
    rw [show (⟨D.toArray⟩ : ByteArray).size + 1 = (m + 11) + 1 + 1 by rw [size_ev, hm], fd]
    simp only [Bool.and_self, if_true, f37, f39, f41]
  have s1 : beside ⟨D.toArray⟩ ⟨0, [], [], [], 0, [], 0, false⟩ false = .ok (true, ⟨s.length + 38, [], [], [], 0, [([108, 116, 45, 101], (s ++ [38, 108, 116, 45, 101, 59]))], 0, false⟩) := by
    unfold beside
    simp only [f3, f4, f5, f6, ft, Bool.false_eq_true, Bool.or_self, if_true, if_false]
  have hx : ∀ (at_ : Bool) (p : Nat), expandN [([108, 116, 45, 101], (s ++ [38, 108, 116, 45, 101, 59]))] at_ p 8 [] [108, 116, 45, 101] [] 0 = .error (6, p) := fun at_ p => by
    have h7 : ∀ o' k', expandN [([108, 116, 45, 101], (s ++ [38, 108, 116, 45, 101, 59]))] at_ p 7 ([] ++ [[108, 116, 45, 101]]) [108, 116, 45, 101] o' k' = .error (6, p) := fun o' k' => by
      unfold expandN
      rw [plainL]
      simp [List.lookup]
    unfold expandN
    rw [plainL]
    simp only [List.lookup, beq_self_eq_true]
    rw [if_neg (by decide)]
    have := expandL_fine (fun e o' k' => expandN [([108, 116, 45, 101], (s ++ [38, 108, 116, 45, 101, 59]))] at_ p 7 ([] ++ [[108, 116, 45, 101]]) e o' k') at_ p s [38, 108, 116, 45, 101, 59] 6 [] 0 h0 (by omega)
    rw [show ((s ++ [38, 108, 116, 45, 101, 59]) : Bytes).length = s.length + 6 by simp, this]
    have e2 : reference [38, 108, 116, 45, 101, 59] = some (6, [], [108, 116, 45, 101]) := hrf.1
    show (if (38 : UInt8) ≠ 38 then _ else _) = _
    rw [if_neg (by decide), e2]
    simp only
    rw [if_pos (by omega), if_pos (by simp), h7]
  have fa : ∀ p t o x b d, tagL ⟨D.toArray⟩ p (m + 11 + 1 + 1) ⟨s.length + 40, t, o, x, b, [([108, 116, 45, 101], (s ++ [38, 108, 116, 45, 101, 59]))], 0, d⟩ [] = .ok ([], ⟨s.length + 40, t, o, x, b, [([108, 116, 45, 101], (s ++ [38, 108, 116, 45, 101, 59]))], 0, d⟩) := fun p t o x b d => by
    unfold tagL
    simp only [f53, f54, f55, f56, size_ev, Bool.true_or, if_true]
  have s2 : beside ⟨D.toArray⟩ ⟨s.length + 38, [], [], [], 0, [([108, 116, 45, 101], (s ++ [38, 108, 116, 45, 101, 59]))], 0, false⟩ true = .ok (true, ⟨s.length + 41, [⟨2, [97], [], []⟩], [[97]], [], 0, [([108, 116, 45, 101], (s ++ [38, 108, 116, 45, 101, 59]))], 0, false⟩) := by
    have fg : tag ⟨D.toArray⟩ ⟨s.length + 38, [], [], [], 0, [([108, 116, 45, 101], (s ++ [38, 108, 116, 45, 101, 59]))], 0, false⟩ = .ok ((), ⟨s.length + 41, [⟨2, [97], [], []⟩], [[97]], [], 0, [([108, 116, 45, 101], (s ++ [38, 108, 116, 45, 101, 59]))], 0, false⟩) := by
      unfold tag
      simp only [f51, St.to, Nat.add_assoc, Nat.reduceAdd, if_true]
      rw [show (⟨D.toArray⟩ : ByteArray).size + 1 = m + 11 + 1 + 1 by rw [size_ev, hm], fa]
      simp [f56, flushAdd, flush, add, Nat.add_assoc]
    unfold beside
    simp only [f44, f45, f46, f47, f48, f49, f50, fg, Bool.not_true, Bool.or_self, Bool.false_eq_true, if_false]
  have s3 : content ⟨D.toArray⟩ ⟨s.length + 41, [⟨2, [97], [], []⟩], [[97]], [], 0, [([108, 116, 45, 101], (s ++ [38, 108, 116, 45, 101, 59]))], 0, false⟩ = .error (6, ((s.length + 41 : Nat) : Int)) := by
    unfold content
    simp only [f58, f59, f60, f62, f63, f64, f65, hx, Bool.false_eq_true, if_false, if_true]
  have hw : whole ⟨D.toArray⟩ St.start = .error (6, ((s.length + 41 : Nat) : Int)) := by
    unfold whole
    rw [show has _ St.start _ = _ from f0 _ _ _ _ _ _ _]
    simp only [Bool.false_and, Bool.false_eq_true, if_false]
    rw [show (⟨D.toArray⟩ : ByteArray).size + 1 = (m + 10) + 1 + 1 + 1 by rw [size_ev, hm]]
    rw [show parts ⟨D.toArray⟩ ((m + 10) + 1 + 1 + 1) St.start false = _ from parts_out (by rw [size_ev]; show 0 < _; omega) rfl s1, parts_out (by rw [size_ev]; simp only; omega) rfl s2]
    rw [parts_bad (by rw [size_ev]; simp only; omega) (by simp) s3]
  refine ⟨((s.length + 41 : Nat) : Int), ?_⟩
  unfold scan
  rw [if_neg (by omega), hb]
  simp only
  rw [hw]

theorem entLaw (s : Bytes) (h0 : s.all fine = true) (h3 : s.length ≤ 3000) : EntLaw s := ⟨fun b => by cases b; exact scanAE s h0 h3; exact scanAL s h0 h3, fun b => by cases b; exact scanBE s h0 h3; exact scanBL s h0 h3⟩
end Go.Proofs.YtahfcgjlcdbnjaaGreatDoor

