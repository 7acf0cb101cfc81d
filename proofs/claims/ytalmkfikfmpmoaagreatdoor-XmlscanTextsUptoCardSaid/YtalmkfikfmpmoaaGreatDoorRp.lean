/- Letters replaced: plain. -/
import Derived.Test.YtalmkfikfmpmoaaGreatDoorTxt
import Derived.Lib.TrimUEq
import Derived.Lib.ValidLaws
import Derived.Lib.MapLaws
import Derived.Lib.TrimAscii
import Derived.Lib.CutLaws
import Derived.Lib.Bytealg
namespace Go.Proofs.YtalmkfikfmpmoaaGreatDoor
open Go.RowKit

abbrev Pairs := List (UInt8 × Bytes)
/-- What a letter is replaced by. -/
def replB (ps : Pairs) (c : UInt8) : Bytes := match ps.find? (fun p => p.1 == c) with | some p => p.2 | none => [c]
def repl (ps : Pairs) (s : Bytes) : Bytes := s.flatMap (replB ps)
def growP (ps : Pairs) (s : Bytes) : Nat := (ps.map fun p => Lib.countByte s p.1 * (p.2.length - 1)).sum

theorem replB_mem {ps : Pairs} (hnd : (ps.map (·.1)).Nodup) {p : UInt8 × Bytes} (hp : p ∈ ps) : replB ps p.1 = p.2 := by
  unfold replB
  induction ps with
  | nil => cases hp
  | cons q ps ih =>
    simp only [List.map_cons, List.nodup_cons] at hnd
    rcases List.mem_cons.1 hp with rfl | hp
    · simp
    · have hne : (q.1 == p.1) = false := by
        rw [beq_eq_false_iff_ne]
        intro he
        exact hnd.1 (he ▸ List.mem_map_of_mem hp)
      rw [List.find?_cons, hne]
      exact ih hnd.2 hp
theorem replB_off {ps : Pairs} {c : UInt8} (h : ∀ p ∈ ps, p.1 ≠ c) : replB ps c = [c] := by
  unfold replB
  have : ps.find? (fun p => p.1 == c) = none := List.find?_eq_none.2 fun p hp => by simpa using h p hp
  rw [this]

theorem growP_nil (ps : Pairs) : growP ps [] = 0 := by
  unfold growP
  induction ps with
  | nil => rfl
  | cons p ps ih => simp only [List.map_cons, List.sum_cons, ih]; simp [Lib.countByte]

theorem growP_cons (ps : Pairs) (hnd : (ps.map (·.1)).Nodup) (c : UInt8) (s : Bytes) : growP ps (c :: s) = growP ps s + ((replB ps c).length - 1) := by
  have hcnt : ∀ k : UInt8, Lib.countByte (c :: s) k = Lib.countByte s k + (if c = k then 1 else 0) := fun k => by
    unfold Lib.countByte
    by_cases h : c = k <;> simp [h]
  unfold growP
  induction ps with
  | nil => simp [replB]
  | cons q ps ih =>
    simp only [List.map_cons, List.nodup_cons] at hnd
    simp only [List.map_cons, List.sum_cons]
    rw [ih hnd.2, hcnt]
    by_cases h : c = q.1
    · subst h
      have hoff : replB ps q.1 = [q.1] := replB_off fun p hp he => hnd.1 (he ▸ List.mem_map_of_mem hp)
      have hon : replB (q :: ps) q.1 = q.2 := by simp [replB]
      rw [hoff, hon]
      simp [Nat.add_mul]
      omega
    · have hb : (q.1 == c) = false := by rw [beq_eq_false_iff_ne]; exact Ne.symm h
      have : replB (q :: ps) c = replB ps c := by unfold replB; rw [List.find?_cons, hb]
      rw [this, if_neg h, Nat.add_zero]
      omega

theorem replB_pos {ps : Pairs} (hne : ∀ p ∈ ps, p.2 ≠ []) (c : UInt8) : 1 ≤ (replB ps c).length := by
  unfold replB
  split
  · rename_i p hp
    exact List.length_pos_iff.2 (hne p (List.mem_of_find?_eq_some hp))
  · simp

theorem repl_len {ps : Pairs} (hnd : (ps.map (·.1)).Nodup) (hne : ∀ p ∈ ps, p.2 ≠ []) : ∀ s : Bytes, (repl ps s).length = s.length + growP ps s
  | [] => by rw [growP_nil]; rfl
  | c :: s => by
    have ih := repl_len hnd hne s
    have hp := replB_pos hne c
    rw [growP_cons ps hnd]
    simp only [repl, List.flatMap_cons, List.length_append, List.length_cons] at ih ⊢
    omega

theorem repl_same {ps : Pairs} : ∀ {s : Bytes}, (∀ p ∈ ps, Lib.countByte s p.1 = 0) → repl ps s = s
  | [], _ => rfl
  | c :: s, h => by
    have hcnt : ∀ k : UInt8, Lib.countByte (c :: s) k = Lib.countByte s k + (if c = k then 1 else 0) := fun k => by
      unfold Lib.countByte
      by_cases h : c = k <;> simp [h]
    have hoff : replB ps c = [c] := replB_off fun p hp he => by
      have := h p hp
      rw [hcnt, if_pos he.symm] at this
      omega
    have ih := repl_same (ps := ps) (s := s) fun p hp => by have := h p hp; rw [hcnt] at this; omega
    simp only [repl, List.flatMap_cons] at ih ⊢
    rw [hoff, ih]; rfl

theorem growP_rev (ps : Pairs) (s : Bytes) : growP ps.reverse s = growP ps s := by
  unfold growP
  rw [List.map_reverse, List.sum_reverse]
theorem growP_snoc (ps : Pairs) (p : UInt8 × Bytes) (s : Bytes) : growP (ps ++ [p]) s = growP ps s + Lib.countByte s p.1 * (p.2.length - 1) := by
  simp [growP]

theorem repl_snoc (ps : Pairs) (s : Bytes) (c : UInt8) : repl ps (s ++ [c]) = repl ps s ++ replB ps c := by simp [repl]
theorem repl_le {ps : Pairs} {m : Nat} (hm : ∀ p ∈ ps, p.2.length ≤ m) (h1 : 1 ≤ m) : ∀ s : Bytes, (repl ps s).length ≤ m * s.length
  | [] => by simp [repl]
  | c :: s => by
    have ih := repl_le hm h1 s
    have : (replB ps c).length ≤ m := by
      unfold replB
      split
      · rename_i p hp; exact hm p (List.mem_of_find?_eq_some hp)
      · simpa using h1
    simp only [repl, List.flatMap_cons, List.length_append, List.length_cons, Nat.mul_add] at ih ⊢
    omega
theorem repl_mono {ps : Pairs} (s : Bytes) (i : Nat) : (repl ps (s.take i)).length ≤ (repl ps s).length := by
  have e : repl ps (s.take i ++ s.drop i) = repl ps (s.take i) ++ repl ps (s.drop i) := by simp only [repl, List.flatMap_append]
  rw [List.take_append_drop] at e
  rw [e, List.length_append]
  omega

def escPs : Pairs := [(38, [38, 97, 109, 112, 59]), (60, [38, 108, 116, 59]), (62, [38, 103, 116, 59]), (13, [38, 35, 49, 51, 59])]
def quoPs : Pairs := [(38, [38, 97, 109, 112, 59]), (60, [38, 108, 116, 59]), (34, [38, 113, 117, 111, 116, 59]), (9, [38, 35, 57, 59]), (10, [38, 35, 49, 48, 59]), (13, [38, 35, 49, 51, 59])]

theorem replB_esc (c : UInt8) : replB escPs c = escB c := by
  unfold replB escPs escB
  simp only [List.find?_cons, List.find?_nil]
  by_cases h1 : c = 38
  · subst h1; rfl
  by_cases h2 : c = 60
  · subst h2; rfl
  by_cases h3 : c = 62
  · subst h3; rfl
  by_cases h4 : c = 13
  · subst h4; rfl
  have e : ∀ k : UInt8, c ≠ k → (k == c) = false := fun k hk => by rw [beq_eq_false_iff_ne]; exact Ne.symm hk
  rw [e _ h1, e _ h2, e _ h3, e _ h4, if_neg h1, if_neg h2, if_neg h3, if_neg h4]
theorem replB_quo (c : UInt8) : replB quoPs c = quoB c := by
  unfold replB quoPs quoB
  simp only [List.find?_cons, List.find?_nil]
  by_cases h1 : c = 38
  · subst h1; rfl
  by_cases h2 : c = 60
  · subst h2; rfl
  by_cases h3 : c = 34
  · subst h3; rfl
  by_cases h4 : c = 9
  · subst h4; rfl
  by_cases h5 : c = 10
  · subst h5; rfl
  by_cases h6 : c = 13
  · subst h6; rfl
  have e : ∀ k : UInt8, c ≠ k → (k == c) = false := fun k hk => by rw [beq_eq_false_iff_ne]; exact Ne.symm hk
  rw [e _ h1, e _ h2, e _ h3, e _ h4, e _ h5, e _ h6, if_neg h1, if_neg h2, if_neg h3, if_neg h4, if_neg h5, if_neg h6]
theorem repl_esc (s : Bytes) : repl escPs s = esc s := by
  unfold repl esc
  rw [show replB escPs = escB from funext replB_esc]
theorem repl_quo (s : Bytes) : repl quoPs s = quo s := by
  unfold repl quo
  rw [show replB quoPs = quoB from funext replB_quo]
end Go.Proofs.YtalmkfikfmpmoaaGreatDoor
