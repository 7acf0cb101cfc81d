/- The plain law of XmlscanTexts. -/
import Derived.Test.YtahfcgjlcdbnjaaGreatDoorMWr3
namespace Go.Proofs.YtahfcgjlcdbnjaaGreatDoor
open Go.RowKit

def docT (s : Bytes) : Bytes := [60, 97, 32, 98, 61, 34] ++ quo s ++ [34, 62] ++ esc s ++ [60, 47, 97, 62]
def toksT (s : Bytes) : List Tok := if s = [] then [⟨2, [97], [([98], s)], []⟩, ⟨7, [97], [], []⟩] else [⟨2, [97], [([98], s)], []⟩, ⟨4, [], [], s⟩, ⟨7, [97], [], []⟩]

theorem write_toksT (s : Bytes) : write (toksT s) = docT s := by
  unfold toksT docT
  split
  · rename_i h; subst h; rfl
  · simp [write, wr, attrB]

theorem okL_toksT (s : Bytes) : okL (fun _ => true) [] false false (toksT s) = true ∧ deepOk 0 (toksT s) = true ∧ (toksT s).length ≤ 4096 := by
  have h1 : (split [97]).isSome = true := by kernel_rfl
  have h2 : (split [98]).isSome = true := by kernel_rfl
  unfold toksT
  split
  · simp [okL, right, attrsOk, h1, h2, deepOk]
  · rename_i h
    simp [okL, right, attrsOk, h1, h2, deepOk, h]

theorem scan_docT (s : Bytes) : scan (docT s) = if 32768 < (docT s).length then .error (6, 0) else match badAt (docT s).length (docT s) 0 with | some p => .error (4, p) | none => .ok (toksT s) := by
  obtain ⟨h1, h2, h3⟩ := okL_toksT s
  obtain ⟨σ', e1, e2⟩ := whole_write h1 h2 h3
  rw [write_toksT] at e1
  generalize docT s = D at *
  unfold scan
  by_cases hl : 32768 < D.length
  · rw [if_pos hl, if_pos hl]
  · rw [if_neg hl, if_neg hl]
    cases hb : badAt D.length D 0 with
    | some p => rfl
    | none => simp only [e1, e2]
end Go.Proofs.YtahfcgjlcdbnjaaGreatDoor

