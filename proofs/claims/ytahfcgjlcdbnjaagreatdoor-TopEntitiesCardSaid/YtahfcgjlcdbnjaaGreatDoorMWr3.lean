/- What is written, scanned again: one token after the other. -/
import Derived.Test.YtahfcgjlcdbnjaaGreatDoorMUt
namespace Go.Proofs.YtahfcgjlcdbnjaaGreatDoor
open Go.RowKit

/-- Tokens as a text. -/
def attrB (p : Bytes × Bytes) : Bytes := 32 :: (p.1 ++ 61 :: 34 :: (quo p.2 ++ [34]))
def piB (t : Bytes) : Bytes := if t = [] then [] else 32 :: t
def wr (t : Tok) : Bytes :=
  if t.kind = 2 then 60 :: (t.name ++ (t.attrs.flatMap attrB ++ [62]))
  else if t.kind = 7 then 60 :: 47 :: (t.name ++ [62])
  else if t.kind = 4 then esc t.text
  else if t.kind = 5 then 60 :: 33 :: 45 :: 45 :: (t.text ++ [45, 45, 62])
  else 60 :: 63 :: (t.name ++ (piB t.text ++ [63, 62]))
def write (l : List Tok) : Bytes := l.flatMap wr

def isText (l : Bytes) : Bool := (badAt l.length l 0).isNone
def attrsOk (tx : Bytes → Bool) : List Bytes → List (Bytes × Bytes) → Bool
  | _, [] => true
  | seen, a :: l => (split a.1).isSome && tx a.2 && !seen.contains a.1 && attrsOk tx (seen ++ [a.1]) l
/-- May a token stand in a document, by itself? -/
def right (tx : Bytes → Bool) (t : Tok) : Bool :=
  tx t.text && (t.kind == 2 || t.attrs.isEmpty) &&
  (if t.kind = 2 ∨ t.kind = 7 then attrsOk tx [] t.attrs && (split t.name).isSome && t.text.isEmpty
   else if t.kind = 4 then t.name.isEmpty && !t.text.isEmpty
   else if t.kind = 5 then t.name.isEmpty && !Lib.contains (t.text ++ [45]) [45, 45]
   else if t.kind = 6 then isName t.name && !isXml t.name && !Lib.contains t.text [63, 62] && trimB t.text == t.text
   else false)
/-- Are tokens a document's, from open elements on? -/
def okL (tx : Bytes → Bool) : List Bytes → Bool → Bool → List Tok → Bool
  | opn, ended, _, [] => ended && opn.isEmpty
  | opn, ended, pt, t :: l => right tx t &&
    (if t.kind = 2 then !(opn.isEmpty && ended) && okL tx (opn ++ [t.name]) ended false l
     else if t.kind = 7 then opn.getLast? == some t.name && okL tx (opn.take (opn.length - 1)) (opn.length == 1) false l
     else if t.kind = 4 then !opn.isEmpty && !pt && okL tx opn ended true l
     else okL tx opn ended false l)
def deepOk : Nat → List Tok → Bool
  | _, [] => true
  | n, t :: l => if t.kind = 2 then decide (n < 32) && decide (t.attrs.length ≤ 64) && deepOk (n + 1) l else if t.kind = 7 then deepOk (n - 1) l else deepOk n l

theorem kinds {tx : Bytes → Bool} {t : Tok} (h : right tx t = true) : t.kind = 2 ∨ t.kind = 7 ∨ t.kind = 4 ∨ t.kind = 5 ∨ t.kind = 6 := by
  unfold right at h
  simp only [Bool.and_eq_true] at h
  have := h.2
  split at this
  · omega
  · split at this
    · omega
    · split at this
      · omega
      · split at this
        · omega
        · cases this

theorem index_of_occ {s : Bytes} : ∀ (t : Bytes) (j : Nat), Lib.occAt t s j = true → 0 ≤ Lib.index t s
  | [], j, h => by
    have hs : s = [] := by
      unfold Lib.occAt at h
      simpa using h
    subst hs
    decide
  | c :: t, j, h => by
    have he : Lib.index (c :: t) s = if s.isPrefixOf (c :: t) = true then 0 else if (Lib.index t s == -1) = true then -1 else Lib.index t s + 1 := by
      conv => lhs; unfold Lib.index
    rw [he]
    split
    · decide
    · rename_i hp
      cases j with
      | zero => exact absurd (show s.isPrefixOf (c :: t) = true from h) hp
      | succ j =>
        have := index_of_occ t j h
        rw [if_neg (by simp; omega)]
        omega

section
variable {tx : Bytes → Bool} {D : Bytes} {σ : St}

/-- The tokens with the text so far. -/
def fl (σ : St) : List Tok := if σ.text = [] then σ.toks else σ.toks ++ [⟨4, [], [], σ.text⟩]

theorem flushAdd_ok {t : Tok} {p : Int} (h : (fl σ).length < 4096) : flushAdd σ t p = .ok ((), { σ with toks := fl σ ++ [t], text := [] }) := by
  unfold fl at h ⊢
  unfold flushAdd flush
  by_cases ht : σ.text = []
  · rw [if_pos ht] at h ⊢
    simp only [ht, if_true]
    unfold add
    rw [if_pos h]
    cases σ; simp_all only
  · rw [if_neg ht] at h ⊢
    simp at h
    have h1 : σ.toks.length < 4096 := by omega
    simp only [ht, if_false]
    unfold add
    rw [if_pos h1]
    simp only
    rw [if_pos (by simpa using h)]

theorem to_to (a b : Nat) : (σ.to a).to b = σ.to b := rfl
theorem to_pos (a : Nat) : (σ.to a).pos = a := rfl
theorem flushAdd_to {t : Tok} {p : Int} {x : Nat} (h : (fl σ).length < 4096) : flushAdd (σ.to x) t p = .ok ((), { σ.to x with toks := fl σ ++ [t], text := [] }) := flushAdd_ok (σ := σ.to x) h
theorem pos_lt {a : UInt8} {r : Bytes} (h : D.drop σ.pos = a :: r) : σ.pos < D.length := drop_lt h

theorem qname_ev {n r : Bytes} {a : UInt8} (hn : (split n).isSome = true) (ha : stops a = true) (h : D.drop σ.pos = n ++ a :: r) :
    qname ⟨D.toArray⟩ σ = ((n, true), σ.to (σ.pos + n.length)) := by
  have hw : wordN true (D.drop σ.pos) = n.length := by rw [h, qname_word hn, word_stop true a r ha]; rfl
  unfold qname
  simp only [word_ev, hw]
  rw [h, List.take_left, hn]

theorem name_ev {n r : Bytes} {a : UInt8} (hn : isName n = true) (ha : stops a = true) (h : D.drop σ.pos = n ++ a :: r) :
    name ⟨D.toArray⟩ σ = ((n, true), σ.to (σ.pos + n.length)) := by
  have hw : wordN false (D.drop σ.pos) = n.length := by rw [h, name_word hn false a r ha]
  unfold name
  simp only [word_ev, hw]
  rw [h, List.take_left, hn]

theorem nb_not {a : UInt8} {r : Bytes} (h : ¬ (a = 9 ∨ a = 10 ∨ a = 13 ∨ a = 32)) : nb (a :: r) = 0 := by
  unfold nb; rw [if_neg h]

theorem blanks_no {a : UInt8} {r : Bytes} (hd : D.drop σ.pos = a :: r) (h : ¬ (a = 9 ∨ a = 10 ∨ a = 13 ∨ a = 32)) : blanks ⟨D.toArray⟩ σ = (false, σ) := by
  rw [blanks_ev (Nat.le_of_lt (drop_lt hd)), hd, nb_not h]; rfl

theorem blanks_one {a : UInt8} {r : Bytes} (hd : D.drop σ.pos = 32 :: a :: r) (h : ¬ (a = 9 ∨ a = 10 ∨ a = 13 ∨ a = 32)) : blanks ⟨D.toArray⟩ σ = (true, σ.to (σ.pos + 1)) := by
  have : nb (32 :: a :: r) = 1 := by
    show (if (32 : UInt8) = 9 ∨ _ then nb (a :: r) + 1 else 0) = 1
    rw [nb_not h]; simp
  rw [blanks_ev (Nat.le_of_lt (drop_lt hd)), hd, this]; rfl

theorem drop_one {a : UInt8} {r : Bytes} (h : D.drop σ.pos = a :: r) : D.drop (σ.to (σ.pos + 1)).pos = r := drop_more (a := [a]) h

theorem has_no {a x : UInt8} {l t : Bytes} (h : D.drop σ.pos = a :: l) (hx : x ≠ a) : has ⟨D.toArray⟩ σ (x :: t) = false := by
  rw [has_ev, h]
  simp [List.isPrefixOf, hx]
theorem has_no2 {a b x y : UInt8} {l t : Bytes} (h : D.drop σ.pos = a :: b :: l) (hx : y ≠ b) : has ⟨D.toArray⟩ σ (x :: y :: t) = false := by
  rw [has_ev, h]
  simp [List.isPrefixOf, hx]
theorem has_nil {x : UInt8} {t : Bytes} (h : D.drop σ.pos = []) : has ⟨D.toArray⟩ σ (x :: t) = false := by
  rw [has_ev, h]; rfl
theorem has_yes {t r : Bytes} (h : D.drop σ.pos = t ++ r) : has ⟨D.toArray⟩ σ t = true := by
  rw [has_ev, h, List.isPrefixOf_iff_prefix]; exact List.prefix_append _ _
theorem eat_yes {t r : Bytes} (h : D.drop σ.pos = t ++ r) : eat ⟨D.toArray⟩ σ t = (true, σ.to (σ.pos + t.length)) := by
  unfold eat; rw [has_yes h]; rfl
theorem eat_not {t : Bytes} (h : has ⟨D.toArray⟩ σ t = false) : eat ⟨D.toArray⟩ σ t = (false, σ) := by
  unfold eat; rw [h]; rfl

theorem equal_ev {a : UInt8} {r : Bytes} (hd : D.drop σ.pos = 61 :: a :: r) (h : ¬ (a = 9 ∨ a = 10 ∨ a = 13 ∨ a = 32)) : equal ⟨D.toArray⟩ σ = (true, σ.to (σ.pos + 1)) := by
  unfold equal
  rw [blanks_no hd (by decide)]
  simp only
  rw [eat_yes (t := [61]) (r := a :: r) hd]
  simp only
  rw [show ([61] : Bytes).length = 1 from rfl, blanks_no (drop_one hd) h]

theorem value_ev {v r : Bytes} (hd : D.drop σ.pos = 34 :: (quo v ++ 34 :: r)) : value ⟨D.toArray⟩ σ = .ok ((v, true), σ.to (σ.pos + ((quo v).length + 2))) := by
  have hl : v.length ≤ (quo v).length := by
    clear hd
    induction v with
    | nil => exact Nat.zero_le _
    | cons c v ih =>
      have : 1 ≤ (quoB c).length := by unfold quoB; (repeat' split) <;> simp
      simp only [quo, List.flatMap_cons, List.length_append, List.length_cons] at ih ⊢
      omega
  have hle : (D.drop σ.pos).length ≤ D.length := by simp
  rw [hd] at hle
  simp at hle
  unfold value sign
  rw [has_no hd (by decide), has_yes (t := [34]) hd]
  simp only [Bool.false_eq_true, if_false, if_true]
  rw [valueL_quo r v _ (σ.to (σ.pos + 1)) [] (drop_one hd) (by rw [size_ev]; omega)]
  simp [St.to, Nat.add_assoc, Nat.add_comm 1]

theorem head_not {a : UInt8} (h : headOk a = true) : ¬ (a = 9 ∨ a = 10 ∨ a = 13 ∨ a = 32) := by
  rintro (rfl | rfl | rfl | rfl) <;> exact absurd h (by decide)

theorem stop_61 : stops 61 = true := by decide
theorem stop_62 : stops 62 = true := by decide
theorem stop_32 : stops 32 = true := by decide
theorem stop_63 : stops 63 = true := by decide

theorem named_map (l : List (Bytes × Bytes)) (a : Bytes) : named l a = (l.map (·.1)).contains a := by
  unfold named
  induction l with
  | nil => rfl
  | cons p l ih => simp only [List.any_cons, List.map_cons, List.contains_cons, ih]; rw [Bool.beq_comm]

theorem tagL_wr (p : Int) (r : Bytes) : ∀ (az : List (Bytes × Bytes)) (n : Nat) (σ : St) (done : List (Bytes × Bytes)), D.drop σ.pos = az.flatMap attrB ++ 62 :: r → attrsOk tx (done.map (·.1)) az = true → az.length < n →
    tagL ⟨D.toArray⟩ p n σ done = .ok (done ++ az, σ.to (σ.pos + (az.flatMap attrB).length))
  | [], n + 1, σ, done, hd, _, _ => by
    have hd : D.drop σ.pos = 62 :: r := hd
    unfold tagL
    rw [blanks_no hd (by decide)]
    simp only
    rw [if_pos (by rw [size_ev]; exact drop_lt hd), has_yes (t := [62]) hd]
    simp [St.to]
  | (q, v) :: az, n + 1, σ, done, hd, ha, hn => by
    have hd : D.drop σ.pos = 32 :: (q ++ 61 :: 34 :: (quo v ++ 34 :: (az.flatMap attrB ++ 62 :: r))) := by rw [hd]; simp [attrB]
    simp only [attrsOk, Bool.and_eq_true, Bool.not_eq_true'] at ha
    obtain ⟨⟨⟨hq, _⟩, hs⟩, ha⟩ := ha
    obtain ⟨a, t, hqt, hh⟩ := qname_head hq
    simp only [List.length_cons] at hn
    have hb := blanks_one (σ := σ) (a := a) (r := t ++ 61 :: 34 :: (quo v ++ 34 :: (az.flatMap attrB ++ 62 :: r))) (by rw [hd, hqt]; rfl) (head_not hh)
    have hd1 := drop_one hd
    have hd1' : D.drop (σ.to (σ.pos + 1)).pos = a :: (t ++ 61 :: 34 :: (quo v ++ 34 :: (az.flatMap attrB ++ 62 :: r))) := by rw [hd1, hqt]; rfl
    have hq1 := qname_ev (σ := σ.to (σ.pos + 1)) hq stop_61 hd1
    have hd2 : D.drop (σ.to (σ.pos + 1 + q.length)).pos = 61 :: 34 :: (quo v ++ 34 :: (az.flatMap attrB ++ 62 :: r)) := drop_more hd1
    have he := equal_ev hd2 (by decide)
    have hd3 := drop_one hd2
    have hv := value_ev (σ := σ.to (σ.pos + 1 + q.length + 1)) hd3
    have hd4 : D.drop (σ.to (σ.pos + 1 + q.length + 1 + ((quo v).length + 2))).pos = az.flatMap attrB ++ 62 :: r := by
      have := drop_more (a := 34 :: (quo v ++ [34])) (b := az.flatMap attrB ++ 62 :: r) (show D.drop (σ.pos + 1 + q.length + 1) = _ by rw [show D.drop (σ.pos + 1 + q.length + 1) = _ from hd3]; simp)
      rw [← this]; simp [St.to, Nat.add_assoc]
    have hs' : named done q = false := by rw [named_map]; exact hs
    have ih := tagL_wr p r az n (σ.to (σ.pos + 1 + q.length + 1 + ((quo v).length + 2))) (done ++ [(q, v)]) hd4 (by simpa using ha) (by omega)
    unfold tagL
    rw [hb]
    simp only
    rw [if_pos (by rw [size_ev]; exact drop_lt hd1'), has_no hd1' (Ne.symm (headOk_ne hh (by decide))), has_no hd1' (Ne.symm (headOk_ne hh (by decide)))]
    simp only [Bool.or_self, Bool.false_eq_true, if_false]
    rw [hq1]
    simp only
    rw [show (σ.to (σ.pos + 1)).to ((σ.to (σ.pos + 1)).pos + q.length) = σ.to (σ.pos + 1 + q.length) from rfl, he]
    simp only [Bool.and_self, if_true, hs', Bool.false_eq_true, if_false]
    rw [show (σ.to (σ.pos + 1 + q.length)).to ((σ.to (σ.pos + 1 + q.length)).pos + 1) = σ.to (σ.pos + 1 + q.length + 1) from rfl, hv]
    simp only [if_true]
    rw [show (σ.to (σ.pos + 1 + q.length + 1)).to ((σ.to (σ.pos + 1 + q.length + 1)).pos + ((quo v).length + 2)) = σ.to (σ.pos + 1 + q.length + 1 + ((quo v).length + 2)) from rfl, ih]
    simp [St.to, attrB]
    omega
  | _, 0, _, _, _, _, hn => absurd hn (Nat.not_lt_zero _)

theorem attrs_len : ∀ az : List (Bytes × Bytes), az.length ≤ (az.flatMap attrB).length
  | [] => Nat.le_refl _
  | a :: az => by
    have := attrs_len az
    simp [attrB] at this ⊢
    omega

/-- A start tag. -/
theorem tag_wr {n r : Bytes} {az : List (Bytes × Bytes)} (hd : D.drop σ.pos = 60 :: (n ++ (az.flatMap attrB ++ 62 :: r))) (hn : (split n).isSome = true) (ha : attrsOk tx [] az = true)
    (ho : σ.opn.length < 32) (hm : az.length ≤ 64) (hf : (fl σ).length < 4096) :
    tag ⟨D.toArray⟩ σ = .ok ((), { σ with pos := σ.pos + (60 :: (n ++ (az.flatMap attrB ++ [62]))).length, toks := fl σ ++ [⟨2, n, az, []⟩], text := [], opn := σ.opn ++ [n] }) := by
  have hle : (D.drop σ.pos).length ≤ D.length := by simp
  rw [hd] at hle
  simp only [List.length_cons, List.length_append] at hle
  have hl := attrs_len az
  have hd1 := drop_one hd
  obtain ⟨a, r', hr', hs⟩ : ∃ a r', az.flatMap attrB ++ 62 :: r = a :: r' ∧ stops a = true := by
    cases az with
    | nil => exact ⟨62, r, rfl, stop_62⟩
    | cons p az => exact ⟨32, p.1 ++ 61 :: 34 :: (quo p.2 ++ [34]) ++ az.flatMap attrB ++ 62 :: r, by simp [attrB], stop_32⟩
  have hq := qname_ev (σ := σ.to (σ.pos + 1)) (a := a) (r := r') hn hs (by rw [hd1, hr'])
  have hd2 : D.drop (σ.to (σ.pos + 1 + n.length)).pos = az.flatMap attrB ++ 62 :: r := drop_more hd1
  have ht := tagL_wr (σ.pos : Int) r az (D.length + 1) _ [] hd2 ha (by omega)
  have hd3 : D.drop (σ.pos + 1 + n.length + (az.flatMap attrB).length) = 62 :: r := drop_more hd2
  unfold tag
  simp only [hq, if_true]
  rw [show (σ.to (σ.pos + 1)).to ((σ.to (σ.pos + 1)).pos + n.length) = σ.to (σ.pos + 1 + n.length) from rfl, size_ev, ht]
  simp only
  rw [if_pos (by simp [St.to]; omega)]
  simp only [to_to, to_pos]
  rw [flushAdd_to hf]
  simp only
  rw [has_no (a := 62) (l := r) (by simpa [St.to] using hd3) (by decide)]
  simp [St.to, fl, Nat.add_assoc]
  omega

/-- An end tag. -/
theorem end_wr {n r : Bytes} (hd : D.drop σ.pos = 60 :: 47 :: (n ++ 62 :: r)) (hn : (split n).isSome = true) (ho : (σ.opn.getLast? == some n) = true) (hf : (fl σ).length < 4096) :
    endTag ⟨D.toArray⟩ σ = .ok ((), { σ with pos := σ.pos + (60 :: 47 :: (n ++ [62])).length, toks := fl σ ++ [⟨7, n, [], []⟩], text := [], opn := σ.opn.take (σ.opn.length - 1), ended := σ.opn.length == 1 }) := by
  have hd1 : D.drop (σ.to (σ.pos + 2)).pos = n ++ 62 :: r := drop_more (a := [60, 47]) hd
  have hq := qname_ev (σ := σ.to (σ.pos + 2)) hn stop_62 hd1
  have hd2 : D.drop (σ.to (σ.pos + 2 + n.length)).pos = 62 :: r := drop_more hd1
  unfold endTag
  simp only [hq]
  rw [show (σ.to (σ.pos + 2)).to ((σ.to (σ.pos + 2)).pos + n.length) = σ.to (σ.pos + 2 + n.length) from rfl, blanks_no hd2 (by decide)]
  simp only
  rw [eat_yes (t := [62]) hd2]
  simp only [ho, Bool.and_self, if_true]
  simp only [to_to, to_pos]
  rw [flushAdd_to hf]
  simp [St.to, fl, Nat.add_assoc]
  try omega

theorem no_occ {t : Bytes} {a b : UInt8} (h : Lib.contains t [a, b] = false) : ∀ j, Lib.occAt t [a, b] j = false := by
  intro j
  cases hj : Lib.occAt t [a, b] j with
  | false => rfl
  | true =>
    have := index_of_occ t j hj
    unfold Lib.contains at h
    simp at h
    omega

theorem occ_two {l : Bytes} {a b : UInt8} {j : Nat} : Lib.occAt l [a, b] j = true ↔ l[j]? = some a ∧ l[j + 1]? = some b := by
  unfold Lib.occAt
  constructor
  · intro h
    obtain ⟨u, hu⟩ := List.isPrefixOf_iff_prefix.1 h
    have h0 : (l.drop j)[0]? = some a := by rw [← hu]; rfl
    have h1 : (l.drop j)[1]? = some b := by rw [← hu]; rfl
    exact ⟨by simpa using h0, by simpa using h1⟩
  · rintro ⟨h0, h1⟩
    have e : l.drop j = a :: b :: l.drop (j + 2) := by
      obtain ⟨l0, g0⟩ := List.getElem?_eq_some_iff.1 h0
      obtain ⟨l1, g1⟩ := List.getElem?_eq_some_iff.1 h1
      rw [List.drop_eq_getElem_cons l0, g0, List.drop_eq_getElem_cons l1, g1]
    rw [e]
    simp [List.isPrefixOf]

theorem cut_two {t r : Bytes} {a b : UInt8} (h : ∀ j, Lib.occAt (t ++ [a]) [a, b] j = false) : Lib.cut (t ++ a :: b :: r) [a, b] = (t, r, true) := by
  have hi : Lib.index (t ++ a :: b :: r) [a, b] = t.length := by
    refine Lib.index_first (i := t.length) (by simp) (by simp [Lib.occAt]) ?_
    intro j hj
    cases ho : Lib.occAt (t ++ a :: b :: r) [a, b] j with
    | false => rfl
    | true =>
      obtain ⟨h0, h1⟩ := occ_two.1 ho
      have : Lib.occAt (t ++ [a]) [a, b] j = true := by
        refine occ_two.2 ⟨?_, ?_⟩
        · rw [List.getElem?_append_left hj] at h0 ⊢; exact h0
        · rw [show t ++ a :: b :: r = (t ++ [a]) ++ b :: r by simp, List.getElem?_append_left (by simp; omega)] at h1; exact h1
      rw [h j] at this; cases this
  unfold Lib.cut
  rw [hi, if_pos (by omega)]
  simp

theorem upto_two {t r : Bytes} {a b : UInt8} (hd : D.drop σ.pos = t ++ a :: b :: r) (h : ∀ j, Lib.occAt (t ++ [a]) [a, b] j = false) : upto ⟨D.toArray⟩ σ [a, b] = ((t, true), σ.to (σ.pos + t.length + 2)) := by
  unfold upto
  rw [rest_ev, hd, cut_two h]
  rfl

/-- A comment. -/
theorem comment_wr {t r : Bytes} (hd : D.drop σ.pos = 60 :: 33 :: 45 :: 45 :: (t ++ 45 :: 45 :: 62 :: r)) (ht : Lib.contains (t ++ [45]) [45, 45] = false) (hf : (fl σ).length < 4096) :
    comment ⟨D.toArray⟩ σ true = .ok ((), { σ with pos := σ.pos + (60 :: 33 :: 45 :: 45 :: (t ++ [45, 45, 62])).length, toks := fl σ ++ [⟨5, [], [], t⟩], text := [] }) := by
  have hd1 : D.drop (σ.to (σ.pos + 4)).pos = t ++ 45 :: 45 :: 62 :: r := drop_more (a := [60, 33, 45, 45]) hd
  have hu := upto_two hd1 (no_occ ht)
  have hd2 : D.drop (σ.to (σ.pos + 4 + t.length + 2)).pos = 62 :: r := by
    have := drop_more (a := t ++ [45, 45]) (b := 62 :: r) (show D.drop (σ.pos + 4) = _ by rw [show D.drop (σ.pos + 4) = _ from hd1]; simp)
    rw [← this]; simp [St.to, Nat.add_assoc]
  unfold comment
  simp only [hu]
  rw [show (σ.to (σ.pos + 4)).to ((σ.to (σ.pos + 4)).pos + t.length + 2) = σ.to (σ.pos + 4 + t.length + 2) from rfl, eat_yes (t := [62]) hd2]
  simp only [Bool.and_self, if_true]
  simp only [to_to, to_pos]
  rw [flushAdd_to hf]
  simp [St.to, fl, Nat.add_assoc]
  try omega

theorem pi_occ {t : Bytes} (h : Lib.contains t [63, 62] = false) : ∀ j, Lib.occAt (piB t ++ [63]) [63, 62] j = false := by
  intro j
  cases ho : Lib.occAt (piB t ++ [63]) [63, 62] j with
  | false => rfl
  | true =>
    exfalso
    obtain ⟨h0, h1⟩ := occ_two.1 ho
    have hj : j + 1 < (piB t).length := by
      have hlt := (List.getElem?_eq_some_iff.1 h1).1
      simp at hlt
      rcases Nat.lt_or_ge (j + 1) (piB t).length with hl | hl
      · exact hl
      · rw [List.getElem?_append_right hl] at h1
        have : j + 1 - (piB t).length = 0 := by omega
        rw [this] at h1; simp at h1
    rw [List.getElem?_append_left (by omega)] at h0 h1
    by_cases hne : t = []
    · subst hne; simp [piB] at h0
    · unfold piB at h0 h1
      rw [if_neg hne] at h0 h1
      cases j with
      | zero => simp at h0
      | succ j =>
        have h0 : t[j]? = some 63 := by simpa using h0
        have h1 : t[j + 1]? = some 62 := by simpa using h1
        have := no_occ h j
        rw [occ_two.2 ⟨h0, h1⟩] at this; cases this

theorem trim_pi {t : Bytes} (h : trimB t = t) : trimB (piB t) = t := by
  unfold piB
  split
  · rename_i he; subst he; rfl
  · rename_i hne
    rw [trimB_nb] at h ⊢
    have : nb t = 0 := by
      have hl := congrArg List.length h
      have := List.length_pos_iff.2 hne
      simp at hl; omega
    show List.drop (if (32 : UInt8) = 9 ∨ _ then nb t + 1 else 0) _ = _
    rw [this]; simp

/-- A processing instruction. -/
theorem pi_wr {n t r : Bytes} (hd : D.drop σ.pos = 60 :: 63 :: (n ++ (piB t ++ 63 :: 62 :: r))) (hn : isName n = true) (hx : isXml n = false) (ht : Lib.contains t [63, 62] = false) (hb : trimB t = t) (hf : (fl σ).length < 4096) :
    pi ⟨D.toArray⟩ σ true = .ok ((), { σ with pos := σ.pos + (60 :: 63 :: (n ++ (piB t ++ [63, 62]))).length, toks := fl σ ++ [⟨6, n, [], t⟩], text := [] }) := by
  have hd1 : D.drop (σ.to (σ.pos + 2)).pos = n ++ (piB t ++ 63 :: 62 :: r) := drop_more (a := [60, 63]) hd
  obtain ⟨a, r', hr', hs⟩ : ∃ a r', piB t ++ 63 :: 62 :: r = a :: r' ∧ stops a = true := by
    unfold piB
    split
    · exact ⟨63, _, rfl, stop_63⟩
    · exact ⟨32, _, rfl, stop_32⟩
  have hq := name_ev (σ := σ.to (σ.pos + 2)) (a := a) (r := r') hn hs (by rw [hd1, hr'])
  have hd2 : D.drop (σ.to (σ.pos + 2 + n.length)).pos = piB t ++ 63 :: 62 :: r := drop_more hd1
  have hu := upto_two hd2 (pi_occ ht)
  unfold pi
  simp only [hq, hx, Bool.not_false, Bool.and_self, if_true]
  rw [show (σ.to (σ.pos + 2)).to ((σ.to (σ.pos + 2)).pos + n.length) = σ.to (σ.pos + 2 + n.length) from rfl, hu]
  simp only [trim_pi hb]
  rw [if_pos (by
    unfold piB
    split <;> simp)]
  simp only [to_to, to_pos]
  rw [flushAdd_to hf]
  simp [St.to, fl, Nat.add_assoc]
  try omega
end
end Go.Proofs.YtahfcgjlcdbnjaaGreatDoor
/- What is written, scanned again: a whole document. -/
namespace Go.Proofs.YtahfcgjlcdbnjaaGreatDoor
open Go.RowKit

section
variable {tx : Bytes → Bool} {D : Bytes} {σ : St}

/-- What may follow a text. -/
def After (r : Bytes) : Prop := r = [] ∨ ∃ r', r = 60 :: r'

theorem esc_no (s : Bytes) : (62 : UInt8) ∉ esc s := by
  induction s with
  | nil => simp [esc]
  | cons c s ih =>
    simp only [esc, List.flatMap_cons, List.mem_append, not_or] at ih ⊢
    refine ⟨?_, ih⟩
    unfold escB
    repeat' split
    all_goals simp
    rename_i h1 h2 h3 h4
    exact fun h => h3 h.symm

theorem no_end' (c : UInt8) (s r : Bytes) (hr : After r) : [93, 93, 62].isPrefixOf (c :: (esc s ++ r)) = false := by
  cases h : ([93, 93, 62] : Bytes).isPrefixOf (c :: (esc s ++ r)) with
  | false => rfl
  | true =>
    exfalso
    obtain ⟨u, hu⟩ := List.isPrefixOf_iff_prefix.1 h
    have h0 : (esc s ++ r)[0]? = some 93 := by
      have : (c :: (esc s ++ r))[1]? = some 93 := by rw [← hu]; rfl
      simpa using this
    have h1 : (esc s ++ r)[1]? = some 62 := by
      have : (c :: (esc s ++ r))[2]? = some 62 := by rw [← hu]; rfl
      simpa using this
    have hn := esc_no s
    generalize esc s = e at *
    match e with
    | [] =>
      rcases hr with rfl | ⟨r', rfl⟩ <;> simp at h0
    | [x] =>
      rcases hr with rfl | ⟨r', rfl⟩ <;> simp at h1
    | x :: y :: e =>
      have h1 : y = 62 := by simpa using h1
      subst h1
      simp at hn

/-- One letter of a text. -/
theorem content_esc' (c : UInt8) (s r : Bytes) (hr : After r) (hd : D.drop σ.pos = escB c ++ (esc s ++ r)) (ht : σ.toks.length < 4096) :
    ∃ b, content ⟨D.toArray⟩ σ = .ok ((), { σ with pos := σ.pos + (escB c).length, text := σ.text ++ [c], beg := b }) := by
  have hput : ∀ p : Nat, ∃ b, put σ [c] p = .ok ((), { σ with text := σ.text ++ [c], beg := b }) := fun p => by
    unfold put
    by_cases h : σ.text = []
    · rw [if_pos h, if_pos (.inr ht)]; exact ⟨p, by simp [h]⟩
    · rw [if_neg h]; exact ⟨σ.beg, rfl⟩
  by_cases hc : escB c = [c]
  · obtain ⟨n1, n2, n3, n4⟩ := escB_self hc
    rw [hc] at hd ⊢
    have hd : D.drop σ.pos = c :: (esc s ++ r) := hd
    obtain ⟨b, hb⟩ := hput σ.pos
    have hh : (rest ⟨D.toArray⟩ σ).headD 0 = c := by rw [rest_ev, hd]; rfl
    have h3 : has ⟨D.toArray⟩ σ [93, 93, 62] = false := by rw [has_ev, hd]; exact no_end' c s r hr
    refine ⟨b, ?_⟩
    unfold content eat
    simp only [has_cons hd (Ne.symm n2), has_cons hd (Ne.symm n1), h3, Bool.false_eq_true, if_false, hh, hb]
    rfl
  · obtain ⟨⟨l, hl⟩, hr⟩ := escB_ref c hc _ false hd
    have h38 : has ⟨D.toArray⟩ σ [38] = true := by rw [has_ev, hl]; rfl
    have hput' : ∃ b, put (σ.to (σ.pos + (escB c).length)) [c] σ.pos = .ok ((), { σ with pos := σ.pos + (escB c).length, text := σ.text ++ [c], beg := b }) := by
      unfold put
      by_cases h : σ.text = []
      · have h' : (σ.to (σ.pos + (escB c).length)).text = [] := h
        rw [if_pos h', if_pos (.inr ht)]; exact ⟨σ.pos, by simp [h, St.to]⟩
      · have h' : ¬ (σ.to (σ.pos + (escB c).length)).text = [] := h
        rw [if_neg h']; exact ⟨σ.beg, rfl⟩
    obtain ⟨b, hb⟩ := hput'
    refine ⟨b, ?_⟩
    unfold content eat
    simp only [has_cons hl (show (60 : UInt8) ≠ 38 by decide), h38, Bool.false_eq_true, if_false, if_true, hr, hb]

theorem escB_pos (c : UInt8) : 1 ≤ (escB c).length := by unfold escB; (repeat' split) <;> simp

theorem parts_esc' (t : Bool) (r : Bytes) (hr : After r) : ∀ (s : Bytes) (n : Nat) (σ : St), D.drop σ.pos = esc s ++ r → σ.toks.length < 4096 → 0 < σ.opn.length →
    ∃ b, parts ⟨D.toArray⟩ (n + s.length) σ t = parts ⟨D.toArray⟩ n { σ with pos := σ.pos + (esc s).length, text := σ.text ++ s, beg := b } t
  | [], n, σ, _, _, _ => ⟨σ.beg, by simp [esc]⟩
  | c :: s, n, σ, hd, ht, ho => by
    have hd : D.drop σ.pos = escB c ++ (esc s ++ r) := by rw [hd]; simp [esc]
    have hq : (esc (c :: s)).length = (escB c).length + (esc s).length := by simp [esc]
    have hlt : σ.pos < D.length := by
      by_cases hc : escB c = [c]
      · rw [hc] at hd; exact drop_lt (l := esc s ++ r) hd
      · exact drop_lt (escB_ref c hc _ false hd).1.choose_spec
    obtain ⟨b, hb⟩ := content_esc' c s r hr hd ht
    obtain ⟨b', ih⟩ := parts_esc' t r hr s n { σ with pos := σ.pos + (escB c).length, text := σ.text ++ [c], beg := b } (drop_more hd) ht ho
    refine ⟨b', ?_⟩
    rw [List.length_cons, ← Nat.add_assoc, parts_in (by rw [size_ev]; exact hlt) ho hb, ih, hq]
    simp [Nat.add_assoc]

theorem esc_len1 : ∀ s : Bytes, s.length ≤ (esc s).length
  | [] => Nat.le_refl _
  | c :: s => by
    have := esc_len1 s
    have := escB_pos c
    simp only [esc, List.flatMap_cons, List.length_append, List.length_cons] at *
    omega

/-- A token that is no text begins with <. -/
theorem wr_head {t : Tok} (h4 : t.kind ≠ 4) : ∃ r, wr t = 60 :: r := by
  unfold wr
  rw [if_neg h4]
  repeat' split
  all_goals exact ⟨_, rfl⟩

theorem write_after {opn : List Bytes} {e : Bool} {l : List Tok} (h : okL tx opn e true l = true) : After (write l) := by
  cases l with
  | nil => exact .inl rfl
  | cons t l =>
    unfold okL at h
    simp only [Bool.and_eq_true] at h
    obtain ⟨hr, h⟩ := h
    by_cases h4 : t.kind = 4
    · rw [if_neg (by omega), if_neg (by omega), if_pos h4] at h
      simp at h
    · obtain ⟨r, hr⟩ := wr_head h4
      exact .inr ⟨r ++ write l, by simp [write, hr]⟩

/-- What is said of a right tx token. -/
theorem right_el {t : Tok} (h : right tx t = true) (hk : t.kind = 2) : (split t.name).isSome = true ∧ attrsOk tx [] t.attrs = true ∧ t.text = [] := by
  unfold right at h
  simp only [hk, if_true, true_or, Bool.and_eq_true, List.isEmpty_iff] at h
  exact ⟨h.2.1.2, h.2.1.1, h.2.2⟩
theorem right_end {t : Tok} (h : right tx t = true) (hk : t.kind = 7) : (split t.name).isSome = true ∧ t.attrs = [] ∧ t.text = [] := by
  unfold right at h
  simp [hk] at h
  exact ⟨h.2.1.2, h.1.2, h.2.2⟩
theorem right_text {t : Tok} (h : right tx t = true) (hk : t.kind = 4) : t.name = [] ∧ t.attrs = [] ∧ t.text ≠ [] := by
  unfold right at h
  simp [hk] at h
  exact ⟨h.2.1, h.1.2, h.2.2⟩
theorem right_comment {t : Tok} (h : right tx t = true) (hk : t.kind = 5) : t.name = [] ∧ t.attrs = [] ∧ Lib.contains (t.text ++ [45]) [45, 45] = false := by
  unfold right at h
  simp [hk] at h
  exact ⟨h.2.1, h.1.2, h.2.2⟩
theorem right_pi {t : Tok} (h : right tx t = true) (hk : t.kind = 6) : isName t.name = true ∧ t.attrs = [] ∧ isXml t.name = false ∧ Lib.contains t.text [63, 62] = false ∧ trimB t.text = t.text := by
  unfold right at h
  simp [hk] at h
  exact ⟨h.2.1.1.1, h.1.2, h.2.1.1.2, h.2.1.2, h.2.2⟩

theorem tok_eq {t : Tok} {k : Int} {n : Bytes} {az : List (Bytes × Bytes)} {x : Bytes} (h1 : t.kind = k) (h2 : t.name = n) (h3 : t.attrs = az) (h4 : t.text = x) : t = ⟨k, n, az, x⟩ := by
  cases t; simp_all

/-- One token that is no text is passed: within an element or beside it. -/
theorem step_wr {t : Tok} {r : Bytes} (hk : t.kind ≠ 4) (hr : right tx t = true) (hd : D.drop σ.pos = wr t ++ r) (hf : (fl σ).length < 4096)
    (h2 : t.kind = 2 → (σ.opn.isEmpty && σ.ended) = false ∧ σ.opn.length < 32 ∧ t.attrs.length ≤ 64) (h7 : t.kind = 7 → (σ.opn.getLast? == some t.name) = true) (n : Nat) (typed : Bool) :
    parts ⟨D.toArray⟩ (n + 1) σ typed = parts ⟨D.toArray⟩ n { σ with pos := σ.pos + (wr t).length, toks := fl σ ++ [t], text := [], opn := if t.kind = 2 then σ.opn ++ [t.name] else if t.kind = 7 then σ.opn.take (σ.opn.length - 1) else σ.opn, ended := if t.kind = 7 then σ.opn.length == 1 else σ.ended } typed := by
  rcases kinds hr with k | k | k | k | k
  · obtain ⟨hn, ha, hx⟩ := right_el hr k
    obtain ⟨he, ho, hm⟩ := h2 k
    have hw : wr t = 60 :: (t.name ++ (t.attrs.flatMap attrB ++ [62])) := by unfold wr; rw [if_pos k]
    have ht := tok_eq k rfl rfl hx
    rw [hw] at hd
    have hd' : D.drop σ.pos = 60 :: (t.name ++ (t.attrs.flatMap attrB ++ 62 :: r)) := by rw [hd]; simp
    have hg := tag_wr hd' hn ha ho hm hf
    obtain ⟨a, q, hq, hh⟩ := qname_head hn
    have hd2 : D.drop σ.pos = 60 :: a :: (q ++ (t.attrs.flatMap attrB ++ 62 :: r)) := by rw [hd', hq]; rfl
    have hlt := drop_lt hd'
    have n33 : (33 : UInt8) ≠ a := Ne.symm (headOk_ne hh (by decide))
    have n47 : (47 : UInt8) ≠ a := Ne.symm (headOk_ne hh (by decide))
    have n63 : (63 : UInt8) ≠ a := Ne.symm (headOk_ne hh (by decide))
    have h60 : has ⟨D.toArray⟩ σ [60] = true := has_yes (t := [60]) hd'
    rw [← ht] at hg
    obtain ⟨S, hg, hS⟩ : ∃ S, tag ⟨D.toArray⟩ σ = .ok ((), S) ∧ S = _ := ⟨_, hg, rfl⟩
    by_cases hop : σ.opn = []
    · have hb : beside ⟨D.toArray⟩ σ typed = .ok (typed, S) := by
        unfold beside
        simp only [blanks_no hd' (by decide), has_no2 hd2 n33, has_no2 hd2 n63, has_no2 hd2 n47, h60, Bool.false_eq_true, if_false]
        have hen : σ.ended = false := by simpa [hop] using he
        simp only [hen, Bool.not_true, Bool.or_self, Bool.false_eq_true, if_false, hg]
      rw [parts_out (by rw [size_ev]; exact hlt) hop hb, hS]
      simp [k, hw]
    · have hc : content ⟨D.toArray⟩ σ = .ok ((), S) := by
        unfold content
        simp only [has_no2 hd2 n33, has_no2 hd2 n63, has_no2 hd2 n47, eat_not (has_no2 hd2 n33), h60, Bool.false_eq_true, if_false, if_true, hg]
      rw [parts_in (by rw [size_ev]; exact hlt) (List.length_pos_iff.2 hop) hc, hS]
      simp [k, hw]
  · obtain ⟨hn, ha, hx⟩ := right_end hr k
    have hw : wr t = 60 :: 47 :: (t.name ++ [62]) := by unfold wr; rw [if_neg (by omega), if_pos k]
    have ht := tok_eq k rfl ha hx
    rw [hw] at hd
    have hd' : D.drop σ.pos = 60 :: 47 :: (t.name ++ 62 :: r) := by rw [hd]; simp
    have ho := h7 k
    have hop : σ.opn ≠ [] := by
      rintro he
      rw [he] at ho; cases ho
    have hg := end_wr hd' hn ho hf
    rw [← ht] at hg
    obtain ⟨S, hg, hS⟩ : ∃ S, endTag ⟨D.toArray⟩ σ = .ok ((), S) ∧ S = _ := ⟨_, hg, rfl⟩
    have hc : content ⟨D.toArray⟩ σ = .ok ((), S) := by
      unfold content
      simp only [has_yes (t := [60, 47]) hd', if_true, hg]
    rw [parts_in (by rw [size_ev]; exact drop_lt hd') (List.length_pos_iff.2 hop) hc, hS]
    simp [k, hw]
  · exact absurd k hk
  · obtain ⟨hn, ha, hx⟩ := right_comment hr k
    have hw : wr t = 60 :: 33 :: 45 :: 45 :: (t.text ++ [45, 45, 62]) := by unfold wr; rw [if_neg (by omega), if_neg (by omega), if_neg (by omega), if_pos k]
    have ht := tok_eq k hn ha rfl
    rw [hw] at hd
    have hd' : D.drop σ.pos = 60 :: 33 :: 45 :: 45 :: (t.text ++ 45 :: 45 :: 62 :: r) := by rw [hd]; simp
    have hg := comment_wr hd' hx hf
    have hcm : has ⟨D.toArray⟩ σ commB = true := has_yes (t := commB) hd'
    rw [← ht] at hg
    obtain ⟨S, hg, hS⟩ : ∃ S, comment ⟨D.toArray⟩ σ true = .ok ((), S) ∧ S = _ := ⟨_, hg, rfl⟩
    by_cases hop : σ.opn = []
    · have hb : beside ⟨D.toArray⟩ σ typed = .ok (typed, S) := by
        unfold beside
        simp only [blanks_no hd' (by decide), hcm, Bool.false_eq_true, if_false, if_true, hg]
      rw [parts_out (by rw [size_ev]; exact drop_lt hd') hop hb, hS]
      simp [k, hw]
    · have hc : content ⟨D.toArray⟩ σ = .ok ((), S) := by
        unfold content
        simp only [has_no2 hd' (show (47 : UInt8) ≠ 33 by decide), hcm, Bool.false_eq_true, if_false, if_true, hg]
      rw [parts_in (by rw [size_ev]; exact drop_lt hd') (List.length_pos_iff.2 hop) hc, hS]
      simp [k, hw]
  · obtain ⟨hn, ha, hx, hi, hb⟩ := right_pi hr k
    have hw : wr t = 60 :: 63 :: (t.name ++ (piB t.text ++ [63, 62])) := by unfold wr; rw [if_neg (by omega), if_neg (by omega), if_neg (by omega), if_neg (by omega)]
    have ht := tok_eq k rfl ha rfl
    rw [hw] at hd
    have hd' : D.drop σ.pos = 60 :: 63 :: (t.name ++ (piB t.text ++ 63 :: 62 :: r)) := by rw [hd]; simp
    have hg := pi_wr hd' hn hx hi hb hf
    have hcm : has ⟨D.toArray⟩ σ [60, 63] = true := has_yes (t := [60, 63]) hd'
    rw [← ht] at hg
    obtain ⟨S, hg, hS⟩ : ∃ S, pi ⟨D.toArray⟩ σ true = .ok ((), S) ∧ S = _ := ⟨_, hg, rfl⟩
    by_cases hop : σ.opn = []
    · have hb : beside ⟨D.toArray⟩ σ typed = .ok (typed, S) := by
        unfold beside
        simp only [blanks_no hd' (by decide), has_no2 hd' (show (33 : UInt8) ≠ 63 by decide), hcm, Bool.false_eq_true, if_false, if_true, hg]
      rw [parts_out (by rw [size_ev]; exact drop_lt hd') hop hb, hS]
      simp [k, hw]
    · have hc : content ⟨D.toArray⟩ σ = .ok ((), S) := by
        unfold content
        simp only [has_no2 hd' (show (47 : UInt8) ≠ 63 by decide), has_no2 hd' (show (33 : UInt8) ≠ 63 by decide), hcm, Bool.false_eq_true, if_false, if_true, hg]
      rw [parts_in (by rw [size_ev]; exact drop_lt hd') (List.length_pos_iff.2 hop) hc, hS]
      simp [k, hw]

/-- What is written is scanned as it was. -/
theorem parts_write (typed : Bool) : ∀ (l : List Tok) (n : Nat) (σ : St), okL tx σ.opn σ.ended (decide (σ.text ≠ [])) l = true → deepOk σ.opn.length l = true → D.drop σ.pos = write l → (fl σ).length + l.length ≤ 4096 →
    (σ.opn = [] → σ.text = []) → (D.drop σ.pos).length < n → ∃ σ', parts ⟨D.toArray⟩ n σ typed = .ok ((), σ') ∧ σ'.ended = true ∧ σ'.opn = [] ∧ σ'.toks = fl σ ++ l
  | [], n, σ, hk, _, hd, _, ht, _ => by
    unfold okL at hk
    simp at hk
    have hp : ¬ σ.pos < (⟨D.toArray⟩ : ByteArray).size := by
      rw [size_ev]
      have := congrArg List.length hd
      simp [write] at this; omega
    refine ⟨σ, parts_end hp, hk.1, hk.2, ?_⟩
    unfold fl; rw [if_pos (ht hk.2)]; simp
  | t :: l, n, σ, hk, hde, hd, hf, ht, hn => by
    have hd : D.drop σ.pos = wr t ++ write l := by rw [hd]; simp [write]
    unfold okL at hk
    simp only [Bool.and_eq_true] at hk
    obtain ⟨hr, hk⟩ := hk
    simp only [List.length_cons] at hf
    by_cases h4 : t.kind = 4
    · obtain ⟨hnm, haz, hx⟩ := right_text hr h4
      have hw : wr t = esc t.text := by unfold wr; rw [if_neg (by omega), if_neg (by omega), if_pos h4]
      rw [if_neg (by omega), if_neg (by omega), if_pos h4] at hk
      simp only [Bool.and_eq_true, Bool.not_eq_true', decide_eq_false_iff_not, ne_eq, Decidable.not_not, List.isEmpty_eq_false_iff] at hk
      obtain ⟨⟨hop, htx⟩, hk⟩ := hk
      rw [hw] at hd
      have hfl : fl σ = σ.toks := by unfold fl; rw [if_pos htx]
      have hel := esc_len1 t.text
      have hlen : (D.drop σ.pos).length = (esc t.text).length + (write l).length := by rw [hd]; simp
      obtain ⟨m, hm⟩ : ∃ m, n = m + t.text.length := ⟨n - t.text.length, by omega⟩
      obtain ⟨b, hb⟩ := parts_esc' typed (write l) (write_after hk) t.text m σ hd (by rw [← hfl]; omega) (List.length_pos_iff.2 hop)
      unfold deepOk at hde
      rw [if_neg (by omega), if_neg (by omega)] at hde
      have hdd : D.drop (σ.pos + (esc t.text).length) = write l := drop_more hd
      obtain ⟨σ', e1, e2, e3, e4⟩ := parts_write typed l m { σ with pos := σ.pos + (esc t.text).length, text := σ.text ++ t.text, beg := b } (by simpa [htx, hx] using hk) hde hdd
        (by unfold fl; simp only [htx, List.nil_append, hx, if_false]; simp; rw [hfl] at hf; omega) (fun h => absurd h hop) (by rw [show D.drop (St.pos _) = _ from hdd]; omega)
      refine ⟨σ', ?_, e2, e3, ?_⟩
      · rw [hm, hb, e1]
      · rw [e4, hfl]
        have : fl { σ with pos := σ.pos + (esc t.text).length, text := σ.text ++ t.text, beg := b } = σ.toks ++ [t] := by
          unfold fl
          simp only [htx, List.nil_append, hx, if_false]
          rw [← tok_eq h4 hnm haz rfl]
        rw [this]; simp
    · have hdp : 1 ≤ (wr t).length := by obtain ⟨r, hr⟩ := wr_head h4; rw [hr]; simp
      have hlen : (D.drop σ.pos).length = (wr t).length + (write l).length := by rw [hd]; simp
      obtain ⟨m, rfl⟩ : ∃ m, n = m + 1 := ⟨n - 1, by omega⟩
      have hs := step_wr h4 hr hd (by omega) (fun k => by
          rw [if_pos k] at hk
          simp only [Bool.and_eq_true, Bool.not_eq_true'] at hk
          unfold deepOk at hde
          rw [if_pos k] at hde
          simp only [Bool.and_eq_true, decide_eq_true_eq] at hde
          exact ⟨hk.1, hde.1.1, hde.1.2⟩) (fun k => by
          rw [if_neg (by omega), if_pos k] at hk
          simp only [Bool.and_eq_true] at hk
          exact hk.1) m typed
      have hdd : D.drop (σ.pos + (wr t).length) = write l := drop_more hd
      obtain ⟨σ1, h1⟩ : ∃ σ1 : St, σ1 = { σ with pos := σ.pos + (wr t).length, toks := fl σ ++ [t], text := [], opn := if t.kind = 2 then σ.opn ++ [t.name] else if t.kind = 7 then σ.opn.take (σ.opn.length - 1) else σ.opn, ended := if t.kind = 7 then σ.opn.length == 1 else σ.ended } := ⟨_, rfl⟩
      rw [← h1] at hs
      have htx : σ1.text = [] := by rw [h1]
      have hfl : fl σ1 = fl σ ++ [t] := by
        have : fl σ1 = σ1.toks := by unfold fl; rw [if_pos htx]
        rw [this, h1]
      have hok : okL tx σ1.opn σ1.ended (decide (σ1.text ≠ [])) l = true ∧ deepOk σ1.opn.length l = true := by
        rw [htx, h1]
        simp only [ne_eq, not_true_eq_false, decide_false]
        unfold deepOk at hde
        rcases kinds hr with k | k | k | k | k
        · simp [k] at hk hde ⊢
          exact ⟨hk.2, hde.2⟩
        · simp [k] at hk hde ⊢
          refine ⟨by simpa using hk.2, ?_⟩
          exact hde
        · exact absurd k h4
        · simp [k] at hk hde ⊢
          exact ⟨hk, hde⟩
        · simp [k] at hk hde ⊢
          exact ⟨hk, hde⟩
      have hp1 : D.drop σ1.pos = write l := by rw [h1]; exact hdd
      obtain ⟨σ', e1, e2, e3, e4⟩ := parts_write typed l m σ1 hok.1 hok.2 hp1 (by rw [hfl]; simp; omega) (fun _ => htx) (by rw [hp1]; omega)
      exact ⟨σ', by rw [hs, e1], e2, e3, by rw [e4, hfl]; simp⟩
end
end Go.Proofs.YtahfcgjlcdbnjaaGreatDoor
/- What is written is a text of characters; it is scanned as it was. -/
namespace Go.Proofs.YtahfcgjlcdbnjaaGreatDoor
open Go.RowKit

theorem decodeN_fit (n n' b0 b1 b2 b3 c1 c2 c3 : Nat) (hv : ¬ ((Lib.decodeN n b0 b1 b2 b3).1 = 65533 ∧ (Lib.decodeN n b0 b1 b2 b3).2 = 1)) (hn : (Lib.decodeN n b0 b1 b2 b3).2 ≤ n')
    (e1 : 1 < (Lib.decodeN n b0 b1 b2 b3).2 → c1 = b1) (e2 : 2 < (Lib.decodeN n b0 b1 b2 b3).2 → c2 = b2) (e3 : 3 < (Lib.decodeN n b0 b1 b2 b3).2 → c3 = b3) :
    Lib.decodeN n' b0 c1 c2 c3 = Lib.decodeN n b0 b1 b2 b3 ∧ (1 < (Lib.decodeN n b0 b1 b2 b3).2 → 128 ≤ b0 ∧ 128 ≤ b1) ∧ (2 < (Lib.decodeN n b0 b1 b2 b3).2 → 128 ≤ b2) ∧ (3 < (Lib.decodeN n b0 b1 b2 b3).2 → 128 ≤ b3) ∧ (Lib.decodeN n b0 b1 b2 b3).2 ≤ 4 := by
  unfold Lib.decodeN at *
  by_cases h0 : b0 < 128
  · rw [if_pos h0] at hv hn e1 e2 e3 ⊢
    rw [if_pos h0]
    refine ⟨rfl, ?_, ?_, ?_, ?_⟩ <;> simp
  · rw [if_neg h0] at hv hn e1 e2 e3 ⊢
    rw [if_neg h0]
    by_cases h2 : b0 / 32 = 6 ∧ (1 < n ∧ b1 / 64 = 2)
    · rw [if_pos h2] at hv hn e1 e2 e3 ⊢
      split at hv
      · rename_i hg
        rw [if_pos hg] at hn e1 e2 e3 ⊢
        have := e1 (by simp); subst this
        rw [if_pos ⟨h2.1, by simp only at hn; omega, h2.2.2⟩, if_pos hg]
        refine ⟨rfl, fun _ => by omega, ?_, ?_, ?_⟩ <;> simp
      · exact absurd ⟨rfl, rfl⟩ hv
    · rw [if_neg h2] at hv hn e1 e2 e3 ⊢
      by_cases h3 : b0 / 16 = 14 ∧ (1 < n ∧ b1 / 64 = 2) ∧ (2 < n ∧ b2 / 64 = 2)
      · rw [if_pos h3] at hv hn e1 e2 e3 ⊢
        split at hv
        · rename_i hg
          rw [if_pos hg] at hn e1 e2 e3 ⊢
          have := e1 (by simp); subst this
          have := e2 (by simp); subst this
          rw [if_neg (by omega), if_pos ⟨h3.1, ⟨by simp only at hn; omega, h3.2.1.2⟩, by simp only at hn; omega, h3.2.2.2⟩, if_pos hg]
          refine ⟨rfl, fun _ => by omega, fun _ => by omega, ?_, ?_⟩ <;> simp
        · exact absurd ⟨rfl, rfl⟩ hv
      · rw [if_neg h3] at hv hn e1 e2 e3 ⊢
        by_cases h4 : b0 / 8 = 30 ∧ (1 < n ∧ b1 / 64 = 2) ∧ (2 < n ∧ b2 / 64 = 2) ∧ (3 < n ∧ b3 / 64 = 2)
        · rw [if_pos h4] at hv hn e1 e2 e3 ⊢
          split at hv
          · rename_i hg
            rw [if_pos hg] at hn e1 e2 e3 ⊢
            have := e1 (by simp); subst this
            have := e2 (by simp); subst this
            have := e3 (by simp); subst this
            rw [if_neg (by omega), if_neg (by omega), if_pos ⟨h4.1, ⟨by simp only at hn; omega, h4.2.1.2⟩, ⟨by simp only at hn; omega, h4.2.2.1.2⟩, by simp only at hn; omega, h4.2.2.2.2⟩, if_pos hg]
            exact ⟨rfl, fun _ => by omega, fun _ => by omega, fun _ => by omega, by simp⟩
          · exact absurd ⟨rfl, rfl⟩ hv
        · rw [if_neg h4] at hv
          exact absurd ⟨rfl, rfl⟩ hv

theorem decodeN_one {n b0 b1 b2 b3 : Nat} (h0 : ¬ b0 < 128) : (Lib.decodeN n b0 b1 b2 b3).2 = 1 → (Lib.decodeN n b0 b1 b2 b3).1 = 65533 := by
  unfold Lib.decodeN
  rw [if_neg h0]
  repeat' split
  all_goals simp

def badR (l : Bytes) : Bool := !isChar (Lib.decodeL l).1 || ((Lib.decodeL l).1 == 65533 && (Lib.decodeL l).2 == 1)

theorem badR_ok {l : Bytes} (h : badR l = false) : isChar (Lib.decodeL l).1 = true ∧ ¬ ((Lib.decodeL l).1 = 65533 ∧ (Lib.decodeL l).2 = 1) := by
  unfold badR at h
  simp at h
  exact ⟨h.1, fun hh => h.2 hh.1 hh.2⟩

theorem badAt_none : ∀ (n m : Nat) (l : Bytes) (p q : Nat), l.length ≤ n → l.length ≤ m → (badAt n l p).isNone = (badAt m l q).isNone
  | 0, m, l, p, q, h, _ => by
    have : l = [] := List.eq_nil_of_length_eq_zero (by omega)
    subst this
    cases m <;> simp [badAt]
  | n + 1, 0, l, p, q, _, h => by
    have : l = [] := List.eq_nil_of_length_eq_zero (by omega)
    subst this
    simp [badAt]
  | n + 1, m + 1, l, p, q, h1, h2 => by
    by_cases hl : l = []
    · subst hl; simp [badAt]
    · have hw := Lib.decodeL_width l
      have ih := badAt_none n m (l.drop (Lib.decodeL l).2) (p + (Lib.decodeL l).2) (q + (Lib.decodeL l).2) (by simp; omega) (by simp; omega)
      unfold badAt
      rw [if_neg hl, if_neg hl]
      split
      · rfl
      · exact ih

theorem isText_nil : isText [] = true := rfl
theorem isText_step {l : Bytes} (hl : l ≠ []) : isText l = if badR l then false else isText (l.drop (Lib.decodeL l).2) := by
  have hp : l.length = (l.length - 1) + 1 := by have := List.length_pos_iff.2 hl; omega
  have hw := Lib.decodeL_width l
  conv => lhs; unfold isText; rw [hp]; unfold badAt
  rw [if_neg hl]
  unfold badR
  split
  · rfl
  · exact badAt_none _ _ _ _ _ (by simp; omega) (Nat.le_refl _)

theorem isText_append : ∀ (n : Nat) (a b : Bytes), a.length ≤ n → isText a = true → isText (a ++ b) = isText b
  | 0, a, b, h, _ => by
    have : a = [] := List.eq_nil_of_length_eq_zero (by omega)
    subst this; rfl
  | n + 1, a, b, h, hv => by
    by_cases ha : a = []
    · subst ha; rfl
    · have hw := Lib.decodeL_width a
      have hle := Lib.decodeL_le a ha
      rw [isText_step ha] at hv
      split at hv
      · cases hv
      · rename_i hb
        have hb : badR a = false := by simpa using hb
        have hd := dec_more a b ha (badR_ok hb).2
        have hb' : badR (a ++ b) = false := by unfold badR at hb ⊢; rw [hd]; exact hb
        rw [isText_step (l := a ++ b) (by simp [ha]), hb', hd, List.drop_append_of_le_length hle]
        exact isText_append n _ b (by simp; omega) hv

theorem isText_app {a b : Bytes} (ha : isText a = true) (hb : isText b = true) : isText (a ++ b) = true := by
  rw [isText_append _ a b (Nat.le_refl _) ha]; exact hb

theorem isText_cons {c : UInt8} {l : Bytes} (hc : c.toNat < 128) (hi : isChar (c.toNat : Int) = true) : isText (c :: l) = isText l := by
  have hb : badR (c :: l) = false := by
    unfold badR
    rw [Lib.decodeL_ascii c l hc, hi]
    simp
    omega
  rw [isText_step (by simp), hb, Lib.decodeL_ascii c l hc]
  rfl

theorem goesOn_char {r : Int} (h : goesOn r = true) (h0 : 0 ≤ r) : isChar r = true := by
  unfold goesOn at h
  simp only [Bool.or_eq_true, beq_iff_eq, decide_eq_true_eq] at h
  have hb : begins r = true → isChar r = true := fun h => by
    unfold begins at h
    unfold isChar within chars
    split at h
    · simp at h ⊢; omega
    · unfold within beginsHigh at h; simp at h ⊢; omega
  rcases h with ((((h | h) | h) | h) | h) | h
  · exact hb h
  all_goals unfold isChar within chars
  · simp; omega
  · simp; omega
  · simp; omega
  · simp; omega
  · unfold within goesHigh at h; simp at h ⊢; omega

theorem isText_word : ∀ (n : Nat) (l : Bytes), l.length ≤ n → Lib.validD l = true → wordN false l = l.length → isText l = true
  | 0, l, h, _, _ => by
    have : l = [] := List.eq_nil_of_length_eq_zero (by omega)
    subst this; rfl
  | n + 1, l, h, hv, hw => by
    by_cases hl : l = []
    · subst hl; rfl
    · have hwd := Lib.decodeL_width l
      have hle := Lib.decodeL_le l hl
      rw [Lib.validD_step l hl] at hv
      split at hv
      · cases hv
      · rename_i hb
        rw [wordN_step false l hl] at hw
        split at hw
        · rename_i hg
          have hg : goesOn (Lib.decodeL l).1 = true := by simpa using hg
          have hb' : badR l = false := by
            unfold badR
            rw [goesOn_char hg (by omega)]
            simp
            exact fun x y => hb ⟨x, y⟩
          rw [isText_step hl, hb']
          exact isText_word n _ (by simp; omega) hv (by simp; omega)
        · have := List.length_pos_iff.2 hl; omega

theorem isText_name {l : Bytes} (h : isName l = true) : isText l = true := by
  obtain ⟨h1, _, _, h4⟩ := name_parts h
  exact isText_word _ l (Nat.le_refl _) h1 h4
theorem isText_qname {l : Bytes} (h : (split l).isSome = true) : isText l = true := by
  rcases split_parts h with h | ⟨a, b, rfl, ha, hb⟩
  · exact isText_name h
  · exact isText_app (isText_name ha) (by rw [isText_cons (by decide) (by decide)]; exact isText_name hb)

/-- A text's first character: its bytes, and what follows. -/
theorem first_char {l : Bytes} (hl : l ≠ []) (hb : badR l = false) : ∃ u r, l = u ++ r ∧ u.length = (Lib.decodeL l).2 ∧ (∀ x, Lib.decodeL (u ++ x) = Lib.decodeL l) ∧ ((∃ c, u = [c] ∧ c.toNat < 128) ∨ ∀ c ∈ u, 128 ≤ c.toNat) := by
  have hv := (badR_ok hb).2
  have hle := Lib.decodeL_le l hl
  have hw := Lib.decodeL_width l
  have hlen : (l.take (Lib.decodeL l).2).length = (Lib.decodeL l).2 := by simp; omega
  have hg : ∀ x i, i < (Lib.decodeL l).2 → ((l.take (Lib.decodeL l).2) ++ x).getD i 0 = l.getD i 0 := fun x i hi => by
    simp [List.getD, List.getElem?_append_left (by rw [hlen]; exact hi : i < (l.take (Lib.decodeL l).2).length), List.getElem?_take_of_lt hi]
  have key := fun x => decodeN_fit l.length ((l.take (Lib.decodeL l).2) ++ x).length (l.getD 0 0).toNat (l.getD 1 0).toNat (l.getD 2 0).toNat (l.getD 3 0).toNat
    (((l.take (Lib.decodeL l).2) ++ x).getD 1 0).toNat (((l.take (Lib.decodeL l).2) ++ x).getD 2 0).toNat (((l.take (Lib.decodeL l).2) ++ x).getD 3 0).toNat
    (by rw [← Lib.decodeL_N]; exact hv) (by rw [← Lib.decodeL_N, List.length_append, hlen]; omega)
    (fun h => by rw [← Lib.decodeL_N] at h; rw [hg x 1 h]) (fun h => by rw [← Lib.decodeL_N] at h; rw [hg x 2 h]) (fun h => by rw [← Lib.decodeL_N] at h; rw [hg x 3 h])
  refine ⟨l.take (Lib.decodeL l).2, l.drop (Lib.decodeL l).2, (List.take_append_drop _ _).symm, hlen, fun x => ?_, ?_⟩
  · have := (key x).1
    rw [← Lib.decodeL_N] at this
    rw [Lib.decodeL_N (l.take (Lib.decodeL l).2 ++ x), hg x 0 (by omega)]
    exact this
  · obtain ⟨_, k1, k2, k3, k4⟩ := key []
    rw [← Lib.decodeL_N] at k1 k2 k3 k4
    by_cases h1 : (Lib.decodeL l).2 = 1
    · left
      cases l with
      | nil => exact absurd rfl hl
      | cons c t =>
        refine ⟨c, by rw [h1]; rfl, ?_⟩
        by_cases h8 : c.toNat < 128
        · exact h8
        · exfalso
          apply hv
          refine ⟨?_, h1⟩
          rw [Lib.decodeL_N] at h1 ⊢
          exact decodeN_one (show ¬ ((c :: t).getD 0 0).toNat < 128 from h8) h1
    · right
      intro c hc
      obtain ⟨i, hi, rfl⟩ := List.mem_iff_getElem.1 hc
      rw [hlen] at hi
      have he : (l.take (Lib.decodeL l).2)[i] = l.getD i 0 := by
        simp [List.getD, List.getElem_take, List.getElem?_eq_getElem (show i < l.length by omega)]
      rw [he]
      match i, hi with
      | 0, _ => exact (k1 (by omega)).1
      | 1, hi => exact (k1 hi).2
      | 2, hi => exact k2 hi
      | 3, hi => exact k3 hi
      | i + 4, hi => omega

theorem escB_high {c : UInt8} (h : 128 ≤ c.toNat) : escB c = [c] := by
  have k : ∀ x : UInt8, x.toNat < 128 → c ≠ x := fun x hx he => by subst he; omega
  unfold escB
  rw [if_neg (k 38 (by decide)), if_neg (k 60 (by decide)), if_neg (k 62 (by decide)), if_neg (k 13 (by decide))]
theorem quoB_high {c : UInt8} (h : 128 ≤ c.toNat) : quoB c = [c] := by
  have k : ∀ x : UInt8, x.toNat < 128 → c ≠ x := fun x hx he => by subst he; omega
  unfold quoB
  rw [if_neg (k 38 (by decide)), if_neg (k 60 (by decide)), if_neg (k 34 (by decide)), if_neg (k 9 (by decide)), if_neg (k 10 (by decide)), if_neg (k 13 (by decide))]

theorem flat_high {f : UInt8 → Bytes} (hf : ∀ c : UInt8, 128 ≤ c.toNat → f c = [c]) : ∀ u : Bytes, (∀ c ∈ u, 128 ≤ c.toNat) → u.flatMap f = u
  | [], _ => rfl
  | c :: u, h => by
    rw [List.flatMap_cons, hf c (h c (by simp)), flat_high hf u fun x hx => h x (by simp [hx])]
    rfl

/-- A text whose letters below 128 are written otherwise. -/
theorem isText_flat {f : UInt8 → Bytes} (hf : ∀ c : UInt8, 128 ≤ c.toNat → f c = [c]) (hl : ∀ c : UInt8, c.toNat < 128 → isChar (c.toNat : Int) = true → isText (f c) = true) :
    ∀ (n : Nat) (l : Bytes), l.length ≤ n → isText l = true → isText (l.flatMap f) = true
  | 0, l, h, _ => by
    have : l = [] := List.eq_nil_of_length_eq_zero (by omega)
    subst this; rfl
  | n + 1, l, h, hv => by
    by_cases hne : l = []
    · subst hne; rfl
    · rw [isText_step hne] at hv
      split at hv
      · cases hv
      · rename_i hb
        have hb : badR l = false := by simpa using hb
        obtain ⟨u, r, he, hu, hd, hcase⟩ := first_char hne hb
        have hw := Lib.decodeL_width l
        have hr : l.drop (Lib.decodeL l).2 = r := by rw [← hu, he, List.drop_left]
        rw [hr] at hv
        have hln : l.length = u.length + r.length := by rw [he]; simp
        have ih := isText_flat hf hl n r (by omega) hv
        have hch := (badR_ok hb).1
        rw [he, List.flatMap_append]
        rcases hcase with ⟨c, rfl, h8⟩ | hi
        · refine isText_app ?_ ih
          rw [List.flatMap_cons, List.flatMap_nil, List.append_nil]
          refine hl c h8 ?_
          rw [← hd [], List.append_nil, Lib.decodeL_ascii c [] h8] at hch
          exact hch
        · rw [flat_high hf u hi]
          have hune : u ≠ [] := by rintro rfl; simp at hu; omega
          have hdu := hd []
          rw [List.append_nil] at hdu
          have hbu : badR u = false := by unfold badR at hb ⊢; rw [hdu]; exact hb
          refine isText_app ?_ ih
          rw [isText_step hune, hbu, hdu, ← hu]
          simp [isText_nil]

theorem isText_esc {l : Bytes} (h : isText l = true) : isText (esc l) = true :=
  isText_flat (fun _ => escB_high) (fun c h1 h2 => by
    unfold escB
    repeat' split
    all_goals first | decide | (rw [isText_cons h1 h2]; rfl)) _ l (Nat.le_refl _) h
theorem isText_quo {l : Bytes} (h : isText l = true) : isText (quo l) = true :=
  isText_flat (fun _ => quoB_high) (fun c h1 h2 => by
    unfold quoB
    repeat' split
    all_goals first | decide | (rw [isText_cons h1 h2]; rfl)) _ l (Nat.le_refl _) h

theorem isText_attrs : ∀ (seen : List Bytes) (az : List (Bytes × Bytes)), attrsOk isText seen az = true → isText (az.flatMap attrB) = true
  | _, [], _ => rfl
  | seen, a :: az, h => by
    simp only [attrsOk, Bool.and_eq_true] at h
    obtain ⟨⟨⟨h1, h2⟩, _⟩, h4⟩ := h
    rw [List.flatMap_cons]
    refine isText_app ?_ (isText_attrs _ az h4)
    unfold attrB
    rw [isText_cons (by decide) (by decide)]
    refine isText_app (isText_qname h1) ?_
    rw [isText_cons (by decide) (by decide), isText_cons (by decide) (by decide)]
    exact isText_app (isText_quo h2) (by decide)

theorem isText_wr {t : Tok} (h : right isText t = true) : isText (wr t) = true := by
  have ht : isText t.text = true := by unfold right at h; simp only [Bool.and_eq_true] at h; exact h.1.1
  unfold wr
  rcases kinds h with k | k | k | k | k
  · rw [if_pos k, isText_cons (by decide) (by decide)]
    obtain ⟨h1, h2, _⟩ := right_el h k
    exact isText_app (isText_qname h1) (isText_app (isText_attrs _ _ h2) (by decide))
  · rw [if_neg (by omega), if_pos k, isText_cons (by decide) (by decide), isText_cons (by decide) (by decide)]
    exact isText_app (isText_qname (right_end h k).1) (by decide)
  · rw [if_neg (by omega), if_neg (by omega), if_pos k]
    exact isText_esc ht
  · rw [if_neg (by omega), if_neg (by omega), if_neg (by omega), if_pos k, isText_cons (by decide) (by decide), isText_cons (by decide) (by decide), isText_cons (by decide) (by decide), isText_cons (by decide) (by decide)]
    exact isText_app ht (by decide)
  · rw [if_neg (by omega), if_neg (by omega), if_neg (by omega), if_neg (by omega), isText_cons (by decide) (by decide), isText_cons (by decide) (by decide)]
    refine isText_app (isText_name (right_pi h k).1) (isText_app ?_ (by decide))
    unfold piB
    split
    · rfl
    · rw [isText_cons (by decide) (by decide)]; exact ht

theorem okL_right : ∀ (l : List Tok) {opn : List Bytes} {e pt : Bool}, okL isText opn e pt l = true → ∀ t ∈ l, right isText t = true
  | [], _, _, _, _, t, ht => by cases ht
  | x :: l, opn, e, pt, h, t, ht => by
    unfold okL at h
    simp only [Bool.and_eq_true] at h
    obtain ⟨hr, h⟩ := h
    rcases List.mem_cons.1 ht with rfl | ht
    · exact hr
    · split at h
      · simp only [Bool.and_eq_true] at h; exact okL_right l h.2 t ht
      · split at h
        · simp only [Bool.and_eq_true] at h; exact okL_right l h.2 t ht
        · split at h
          · simp only [Bool.and_eq_true] at h; exact okL_right l h.2 t ht
          · exact okL_right l h t ht

theorem isText_write : ∀ l : List Tok, (∀ t ∈ l, right isText t = true) → isText (write l) = true
  | [], _ => rfl
  | t :: l, h => by
    show isText (wr t ++ write l) = true
    exact isText_app (isText_wr (h t (by simp))) (isText_write l fun x hx => h x (by simp [hx]))

/-- What is written has no declaration at its begin. -/
theorem no_decl {tx : Bytes → Bool} {l : List Tok} {D Q : Bytes} (h : okL tx [] false false l = true) (hD : write l = D ++ Q) :
    (has ⟨D.toArray⟩ St.start xmldB && decide (6 ≤ (⟨D.toArray⟩ : ByteArray).size) && isBlank ((D.getD 5 0).toNat : Int)) = false := by
  cases hx : (has ⟨D.toArray⟩ St.start xmldB && decide (6 ≤ (⟨D.toArray⟩ : ByteArray).size) && isBlank ((D.getD 5 0).toNat : Int)) with
  | false => rfl
  | true =>
    exfalso
    simp only [Bool.and_eq_true, decide_eq_true_eq] at hx
    obtain ⟨⟨h1, h2⟩, h3⟩ := hx
    rw [has_ev] at h1
    obtain ⟨u, hu⟩ := List.isPrefixOf_iff_prefix.1 h1
    have hu : D = 60 :: 63 :: 120 :: 109 :: 108 :: u := hu.symm
    rw [size_ev, hu] at h2
    cases u with
    | nil => simp at h2
    | cons x u =>
      have h3 : isBlank (x.toNat : Int) = true := by rw [hu] at h3; exact h3
      have hs : stops x = true := by
        unfold isBlank at h3
        simp at h3
        have : x = 32 ∨ x = 9 ∨ x = 10 ∨ x = 13 := by
          rcases h3 with ((h3 | h3) | h3) | h3
          · exact .inl (UInt8.toNat_inj.1 (by simp; omega))
          · exact .inr (.inl (UInt8.toNat_inj.1 (by simp; omega)))
          · exact .inr (.inr (.inl (UInt8.toNat_inj.1 (by simp; omega))))
          · exact .inr (.inr (.inr (UInt8.toNat_inj.1 (by simp; omega))))
        rcases this with rfl | rfl | rfl | rfl <;> decide
      cases l with
      | nil => rw [hu] at hD; simp [write] at hD
      | cons t l =>
        rw [hu] at hD
        have hD : wr t ++ write l = 60 :: 63 :: 120 :: 109 :: 108 :: x :: (u ++ Q) := hD
        unfold okL at h
        simp only [Bool.and_eq_true] at h
        obtain ⟨hr, h⟩ := h
        rcases kinds hr with k | k | k | k | k
        · obtain ⟨a, q, hq, hh⟩ := qname_head (right_el hr k).1
          unfold wr at hD
          rw [if_pos k, hq] at hD
          simp at hD
          exact absurd hD.1 (headOk_ne hh (by decide))
        · unfold wr at hD
          rw [if_neg (by omega), if_pos k] at hD
          simp at hD
        · rw [if_neg (by omega), if_neg (by omega), if_pos k] at h
          simp at h
        · unfold wr at hD
          rw [if_neg (by omega), if_neg (by omega), if_neg (by omega), if_pos k] at hD
          simp at hD
        · obtain ⟨hn, _, hxm, _, _⟩ := right_pi hr k
          unfold wr at hD
          rw [if_neg (by omega), if_neg (by omega), if_neg (by omega), if_neg (by omega)] at hD
          simp only [List.cons_append, List.cons.injEq, true_and, List.append_assoc] at hD
          obtain ⟨a, r', hr', hs'⟩ : ∃ a r', piB t.text ++ ([63, 62] ++ write l) = a :: r' ∧ stops a = true := by
            unfold piB
            split
            · exact ⟨63, _, rfl, stop_63⟩
            · exact ⟨32, _, rfl, stop_32⟩
          have hw : wordN false (t.name ++ (piB t.text ++ ([63, 62] ++ write l))) = t.name.length := by rw [hr']; exact name_word hn false a r' hs'
          have hw3 : wordN false (120 :: 109 :: 108 :: x :: (u ++ Q)) = 3 := by
            rw [wordN_cons _ _ _ (by decide), if_pos (by decide), wordN_cons _ _ _ (by decide), if_pos (by decide), wordN_cons _ _ _ (by decide), if_pos (by decide), word_stop false x _ hs]
          have hD2 : t.name ++ (piB t.text ++ ([63, 62] ++ write l)) = 120 :: 109 :: 108 :: x :: (u ++ Q) := by simpa using hD
          rw [hD2, hw3] at hw
          have hnm : t.name = [120, 109, 108] := by
            have := congrArg (List.take 3) hD2
            rw [hw, List.take_left, ← hw] at this
            exact this
          rw [hnm] at hxm
          exact absurd hxm (by decide)

theorem whole_write {tx : Bytes → Bool} {l : List Tok} (h : okL tx [] false false l = true) (hd : deepOk 0 l = true) (hl : l.length ≤ 4096) : ∃ σ', whole ⟨(write l).toArray⟩ St.start = .ok ((), σ') ∧ σ'.toks = l := by
  obtain ⟨σ', e1, e2, e3, e4⟩ := parts_write (D := write l) false l ((write l).length + 1) St.start h hd rfl (by simpa [fl, St.start] using hl) (fun _ => rfl) (by simp [St.start])
  refine ⟨σ', ?_, by rw [e4]; rfl⟩
  unfold whole
  rw [show ((has ⟨(write l).toArray⟩ St.start xmldB && decide (6 ≤ (⟨(write l).toArray⟩ : ByteArray).size) && isBlank (((write l).getD 5 0).toNat : Int)) = false) from no_decl (Q := []) h (by simp)]
  simp only [Bool.false_eq_true, if_false]
  rw [size_ev, e1]
  simp [e2, e3]

/-- What is written is scanned as it was. -/
theorem scan_write {l : List Tok} (h : okL isText [] false false l = true) (hd : deepOk 0 l = true) (hl : l.length ≤ 4096) (hs : (write l).length ≤ 32768) : scan (write l) = .ok l := by
  obtain ⟨σ', e1, e2⟩ := whole_write h hd hl
  have ht := isText_write l (okL_right l h)
  unfold scan
  rw [if_neg (by omega)]
  unfold isText at ht
  rw [Option.isNone_iff_eq_none] at ht
  rw [ht]
  simp only
  rw [e1]
  simp only
  rw [e2]
end Go.Proofs.YtahfcgjlcdbnjaaGreatDoor
