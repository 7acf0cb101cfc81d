/- Contracts of Go's library as the scanner calls it; the library's tables as they lie in the first memory. -/
import Derived.Test.YtalmkfikfmpmoaaGreatDoorScn
namespace Go.Proofs.YtalmkfikfmpmoaaGreatDoor
open Go.RowKit

/-- The letters of "xml" and what they fold to. -/
def foldPairs : List (Nat × Nat) := [(120, 88), (88, 120), (109, 77), (77, 109), (108, 76), (76, 108)]

/-- The library's variables. -/
structure Glob (W : World) : Prop where
  tabs : Lib.Utf8Tabs 0 1 W
  maxLen : ∃ m, W.cell? ⟨5, 0, none⟩ = some (.int .i64 m)
  fold : ∀ p ∈ foldPairs, W.cell? ⟨2, p.1, none⟩ = some (.int .u16 p.2)

section
variable {W w : World} {L : List Asn}

theorem Glob.at_ (g : Glob W) (x : Hold W w L) : Lib.Utf8Tabs 0 1 w :=
  ⟨fun c hc => x.oldCell (g.tabs.1 c hc), fun i hi => ⟨x.oldCell (g.tabs.2 i hi).1, x.oldCell (g.tabs.2 i hi).2⟩⟩

theorem Glob.len (g : Glob W) (x : Hold W w L) : ∃ m, w.cell? ⟨5, 0, none⟩ = some (.int .i64 m) := by
  obtain ⟨m, h⟩ := g.maxLen
  exact ⟨m, x.oldCell h⟩

theorem Glob.carry (g : Glob W) (x : Hold W w L) : Glob w := ⟨g.at_ x, g.len x, fun p hp => x.oldCell (g.fold p hp)⟩

/-- The four blanks. -/
def blankSet : Bytes := [9, 10, 13, 32]
/-- A text without blanks at its begin. -/
def trimB (l : Bytes) : Bytes := Lib.trimLeftS l blankSet

theorem trimLeft_any (l : Bytes) : Calls Tryz.prog 99 #[str l, str blankSet] w fun e w' => e = .returned (str (trimB l)) ∧ Below w.heap.size w w' := by
  have := Any.strings_TrimLeft_laid Tryz.lays161 (by kernel_rfl) ⟨l.toArray⟩ ⟨blankSet.toArray⟩ w (by decide) (by
    intro j b h
    have h : blankSet[j]? = some b := h
    have : b ∈ blankSet := List.mem_of_getElem? h
    revert this
    unfold blankSet
    simp only [List.mem_cons, List.not_mem_nil, or_false]
    rintro (rfl | rfl | rfl | rfl) <;> decide)
  exact this

theorem cut_any (g : Glob W) (x : Hold W w L) (l t : Bytes) (hl : l.length < 4294967281) :
    Calls Tryz.prog 115 #[str l, str t] w fun e w' => e = .returned (.tuple #[str (Lib.cut l t).1, str (Lib.cut l t).2.1, .bool (Lib.cut l t).2.2]) ∧ ∃ n, w' = w.drewN n := by
  obtain ⟨m, hm⟩ := g.len x
  exact Tryz.strings_Cut ⟨l.toArray⟩ ⟨t.toArray⟩ m w (by simpa [ByteArray.size] using hl) hm

theorem contains_any (g : Glob W) (x : Hold W w L) (l t : Bytes) (hl : l.length < 4294967281) :
    Calls Tryz.prog 96 #[str l, str t] w fun e w' => e = .returned (.bool (Lib.contains l t)) ∧ w' = w := by
  obtain ⟨m, hm⟩ := g.len x
  exact Tryz.strings_Contains ⟨l.toArray⟩ ⟨t.toArray⟩ m w (by simpa [ByteArray.size] using hl) hm

theorem cutPrefix_any (l t : Bytes) :
    Calls Tryz.prog 69 #[str l, str t] w fun e w' => e = .returned (.tuple #[str (Lib.trimPrefix l t), .bool (Lib.hasPrefix l t)]) ∧ w' = w :=
  Tryz.strings_CutPrefix ⟨l.toArray⟩ ⟨t.toArray⟩ w

/-- The rune at a text's begin, and its bytes. -/
def dec (l : Bytes) : Nat × Nat := if l = [] then (65533, 0) else Lib.decodeL l

theorem decodeGo_eq (l : Bytes) : Lib.decodeGo ⟨l.toArray⟩ = dec l := by
  unfold Lib.decodeGo dec Lib.decodeL
  have : (⟨l.toArray⟩ : ByteArray).size = l.length := by simp [ByteArray.size]
  rw [this]
  by_cases h : l = []
  · subst h; rfl
  · rw [if_neg (by simpa using h), if_neg h]

theorem decode_any (g : Glob W) (x : Hold W w L) (l : Bytes) :
    Calls Tryz.prog 22 #[str l] w fun e w' => e = .returned (.tuple #[.int .i32 (dec l).1, .int .i64 (dec l).2]) ∧ Below w.heap.size w w' := by
  have := Tryz.utf8_DecodeRuneInString ⟨l.toArray⟩ w (g.at_ x)
  rw [decodeGo_eq] at this
  exact this

theorem valid_any (g : Glob W) (x : Hold W w L) (l : Bytes) (hl : l.length ≤ 9223372036854775807) :
    Calls Tryz.prog 136 #[str l] w fun e w' => e = .returned (.bool (Lib.validD l)) ∧ Below w.heap.size w w' :=
  Any.utf8_ValidString Tryz.lays196 ⟨l.toArray⟩ w (by simpa [ByteArray.size] using hl) (g.at_ x)
end
end Go.Proofs.YtalmkfikfmpmoaaGreatDoor
