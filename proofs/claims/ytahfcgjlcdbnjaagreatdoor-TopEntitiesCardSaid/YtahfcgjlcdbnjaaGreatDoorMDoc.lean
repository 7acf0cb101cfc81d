/- A whole document: what its parts come to, as plain functions on the scanner's state; what they keep. -/
import Derived.Test.YtahfcgjlcdbnjaaGreatDoorMPi
namespace Go.Proofs.YtahfcgjlcdbnjaaGreatDoor
open Go.RowKit

/-- The references in an entity's text: 0: all are well; 1: one is none; 2: not said. -/
def refsN : Bytes → Nat
  | [] => 0
  | c :: l => if c = 38 then (if refWild (c :: l) then 2 else match reference (c :: l) with | none => 1 | some _ => refsN l) else refsN l

theorem refsN_ok : ∀ {l : Bytes}, refsN l = 0 → RefsOk l
  | [], _ => by intro i hi; simp at hi
  | c :: l, h => by
    unfold refsN at h
    intro i hi
    cases i with
    | zero =>
      simp at hi
      subst hi
      rw [if_pos rfl] at h
      simp only [List.drop_zero]
      split at h
      · cases h
      · rename_i hw
        split at h
        · cases h
        · rename_i r hr
          exact ⟨by rw [hr]; simp, by simpa using hw⟩
    | succ i =>
      have hl : refsN l = 0 := by
        split at h
        · split at h
          · cases h
          · split at h
            · cases h
            · exact h
        · exact h
      simpa using refsN_ok hl i (by simpa using hi)

section
variable {s : ByteArray} {σ : St}
theorem has_pos {t : Bytes} (h : has s σ t = true) (hk : Ok s σ) : σ.pos + t.length ≤ s.size := by
  have h1 := hasPrefix_length h
  rw [rest_length] at h1
  have := hk.pos
  omega
theorem quoted_le (h : Ok s σ) : (quoted s σ).1.1.length ≤ 32768 := by
  unfold quoted
  simp only
  split
  · unfold upto
    refine Nat.le_trans (cut_length_le _ _) ?_
    rw [rest_length]
    have := h.sign.size
    omega
  · simp

end

abbrev entityB : Bytes := [60, 33, 69, 78, 84, 73, 84, 89]
abbrev doctypeB : Bytes := [60, 33, 68, 79, 67, 84, 89, 80, 69]
abbrev commB : Bytes := [60, 33, 45, 45]
abbrev cdataB : Bytes := [60, 33, 91, 67, 68, 65, 84, 65, 91]
abbrev xmldB : Bytes := [60, 63, 120, 109, 108]

/-- The declaration of an entity is passed. -/
def entity (s : ByteArray) (σ : St) : M Unit :=
  let a := blanks s (σ.to (σ.pos + 8))
  let n := name s a.2
  let b := blanks s n.2
  let q := quoted s b.2
  let d := blanks s q.2
  if a.1 && n.1.2 && b.1 && q.1.2 then
    if ascii q.1.1 then
      if hasAny q.1.1 [60, 37] then .error (5, σ.pos)
      else
        let e := eat s d.2 [62]
        if e.1 then
          if refsN q.1.1 = 0 then .ok ((), if (e.2.ents.lookup n.1.1).isSome then e.2 else { e.2 with ents := e.2.ents ++ [(n.1.1, q.1.1)] })
          else if refsN q.1.1 = 1 then .error (5, σ.pos) else .error wild
        else .error (5, σ.pos)
    else .error wild
  else .error (5, σ.pos)

/-- The declarations in a document type. -/
def decls (s : ByteArray) : Nat → St → M Unit
  | 0, _ => .error wild
  | n + 1, σ =>
    let b := (blanks s σ).2
    if has s b commB then (match comment s b false with | .error x => .error x | .ok (_, σ') => decls s n σ')
    else if has s b [60, 63] then (match pi s b false with | .error x => .error x | .ok (_, σ') => decls s n σ')
    else if has s b entityB then (match entity s b with | .error x => .error x | .ok (_, σ') => decls s n σ')
    else .ok ((), b)

/-- A document type is passed. -/
def doctype (s : ByteArray) (σ : St) : M Unit :=
  let a := blanks s (σ.to (σ.pos + 9))
  let q := qname s a.2
  if a.1 && q.1.2 then
    let e := eat s (blanks s q.2).2 [91]
    if e.1 then
      match decls s (s.size + 1) e.2 with
      | .error x => .error x
      | .ok (_, σ1) =>
        let f := eat s σ1 [93]
        if f.1 then
          let h := eat s (blanks s f.2).2 [62]
          if h.1 then .ok ((), h.2) else .error (5, σ.pos)
        else .error (5, f.2.pos)
    else
      let h := eat s e.2 [62]
      if h.1 then .ok ((), h.2) else .error (5, σ.pos)
  else .error (5, σ.pos)

/-- What stands beside the element is passed. -/
def beside (s : ByteArray) (σ : St) (typed : Bool) : M Bool :=
  let b := blanks s σ
  if b.1 then .ok (typed, b.2)
  else if has s b.2 commB then (match comment s b.2 true with | .error x => .error x | .ok (_, σ') => .ok (typed, σ'))
  else if has s b.2 [60, 63] then (match pi s b.2 true with | .error x => .error x | .ok (_, σ') => .ok (typed, σ'))
  else if has s b.2 doctypeB then
    if typed || b.2.ended then .error (5, σ.pos)
    else (match doctype s b.2 with | .error x => .error x | .ok (_, σ') => .ok (true, σ'))
  else if !has s b.2 [60] || has s b.2 [60, 47] || has s b.2 [60, 33] || b.2.ended then .error (5, σ.pos)
  else (match tag s b.2 with | .error x => .error x | .ok (_, σ') => .ok (typed, σ'))

/-- What stands in an element is passed. -/
def content (s : ByteArray) (σ : St) : M Unit :=
  if has s σ [60, 47] then endTag s σ
  else if has s σ commB then comment s σ true
  else if has s σ [60, 63] then pi s σ true
  else
    let e := eat s σ cdataB
    if e.1 then
      let u := upto s e.2 [93, 93, 62]
      if u.1.2 then put u.2 u.1.1 σ.pos else .error (5, σ.pos)
    else if has s e.2 [60] then tag s e.2
    else if has s e.2 [38] then (match refM s e.2 false with | .error x => .error x | .ok (t, σ') => put σ' t σ.pos)
    else if has s e.2 [93, 93, 62] then .error (5, σ.pos)
    else (match put e.2 [(rest s σ).headD 0] σ.pos with | .error x => .error x | .ok (_, σ') => .ok ((), σ'.to (σ'.pos + 1)))

/-- The parts of a document, one behind the other. -/
def parts (s : ByteArray) : Nat → St → Bool → M Unit
  | 0, σ, _ => .ok ((), σ)
  | n + 1, σ, typed =>
    if σ.pos < s.size then
      if 0 < σ.opn.length then (match content s σ with | .error x => .error x | .ok (_, σ') => parts s n σ' typed)
      else (match beside s σ typed with | .error x => .error x | .ok (t, σ') => parts s n σ' t)
    else .ok ((), σ)

/-- Where a scanner begins. -/
def St.start : St := { pos := 0, toks := [], opn := [], text := [], beg := 0, ents := [], grown := 0, ended := false }

/-- A whole document. -/
def whole (s : ByteArray) (σ : St) : M Unit :=
  if has s σ xmldB && decide (6 ≤ s.size) && isBlank ((s.data.toList.getD 5 0).toNat : Int) then .error wild
  else match parts s (s.size + 1) σ false with
    | .error x => .error x
    | .ok (_, σ') => if σ'.ended && σ'.opn.length == 0 then .ok ((), σ') else .error (5, s.size)

/-- The first character that may not be: its place. -/
def badAt : Nat → Bytes → Nat → Option Nat
  | 0, _, _ => none
  | n + 1, l, p => if l = [] then none else
    if !isChar (Lib.decodeL l).1 || ((Lib.decodeL l).1 == 65533 && (Lib.decodeL l).2 == 1) then some p else badAt n (l.drop (Lib.decodeL l).2) (p + (Lib.decodeL l).2)

/-- A text's tokens: what Scan answers. -/
def scan (l : Bytes) : Except (Int × Int) (List Tok) :=
  if 32768 < l.length then .error (6, 0)
  else match badAt l.length l 0 with
    | some p => .error (4, p)
    | none => match whole ⟨l.toArray⟩ St.start with
      | .error x => .error x
      | .ok (_, σ) => .ok σ.toks
end Go.Proofs.YtahfcgjlcdbnjaaGreatDoor

