/- What is written, scanned again: one token after the other. -/
import Derived.Test.YtalmkfikfmpmoaaGreatDoorUt
namespace Go.Proofs.YtalmkfikfmpmoaaGreatDoor
open Go.RowKit

/-- Tokens as a text. -/
def attrB (p : Bytes × Bytes) : Bytes := 32 :: (p.1 ++ 61 :: 34 :: (quo p.2 ++ [34]))
def piB (t : Bytes) : Bytes := if t = [] then [] else 32 :: t
def wr (t : Tok) : Bytes :=
  if t.kind = 2 then 60 :: (t.name ++ (t.attrs.flatMap attrB ++ [62]))
  else if t.kind = 7 then 60 :: 47 :: (t.name ++ [62])
  else if t.kind = 4 then esc t.text
  else if t.kind = 5 then 60 :: 33 :: 45 :: 45 :: (t.text ++ [45, 45, 62])
  else 60 :: 63 :: (t.name ++ (piB t.text ++ [63, 62]))
def write (l : List Tok) : Bytes := l.flatMap wr

def isText (l : Bytes) : Bool := (badAt l.length l 0).isNone
def attrsOk (tx : Bytes → Bool) : List Bytes → List (Bytes × Bytes) → Bool
  | _, [] => true
  | seen, a :: l => (split a.1).isSome && tx a.2 && !seen.contains a.1 && attrsOk tx (seen ++ [a.1]) l
/-- May a token stand in a document, by itself? -/
def right (tx : Bytes → Bool) (t : Tok) : Bool :=
  tx t.text && (t.kind == 2 || t.attrs.isEmpty) &&
  (if t.kind = 2 ∨ t.kind = 7 then attrsOk tx [] t.attrs && (split t.name).isSome && t.text.isEmpty
   else if t.kind = 4 then t.name.isEmpty && !t.text.isEmpty
   else if t.kind = 5 then t.name.isEmpty && !Lib.contains (t.text ++ [45]) [45, 45]
   else if t.kind = 6 then isName t.name && !isXml t.name && !Lib.contains t.text [63, 62] && trimB t.text == t.text
   else false)
/-- Are tokens a document's, from open elements on? -/
def okL (tx : Bytes → Bool) : List Bytes → Bool → Bool → List Tok → Bool
  | opn, ended, _, [] => ended && opn.isEmpty
  | opn, ended, pt, t :: l => right tx t &&
    (if t.kind = 2 then !(opn.isEmpty && ended) && okL tx (opn ++ [t.name]) ended false l
     else if t.kind = 7 then opn.getLast? == some t.name && okL tx (opn.take (opn.length - 1)) (opn.length == 1) false l
     else if t.kind = 4 then !opn.isEmpty && !pt && okL tx opn ended true l
     else okL tx opn ended false l)
def deepOk : Nat → List Tok → Bool
  | _, [] => true
  | n, t :: l => if t.kind = 2 then decide (n < 32) && decide (t.attrs.length ≤ 64) && deepOk (n + 1) l else if t.kind = 7 then deepOk (n - 1) l else deepOk n l

theorem kinds {tx : Bytes → Bool} {t : Tok} (h : right tx t = true) : t.kind = 2 ∨ t.kind = 7 ∨ t.kind = 4 ∨ t.kind = 5 ∨ t.kind = 6 := by
  unfold right at h
  simp only [Bool.and_eq_true] at h
  have := h.2
  split at this
  · omega
  · split at this
    · omega
    · split at this
      · omega
      · split at this
        · omega
        · cases this

theorem index_of_occ {s : Bytes} : ∀ (t : Bytes) (j : Nat), Lib.occAt t s j = true → 0 ≤ Lib.index t s
  | [], j, h => by
    have hs : s = [] := by
      unfold Lib.occAt at h
      simpa using h
    subst hs
    decide
  | c :: t, j, h => by
    have he : Lib.index (c :: t) s = if s.isPrefixOf (c :: t) = true then 0 else if (Lib.index t s == -1) = true then -1 else Lib.index t s + 1 := by
      conv => lhs; unfold Lib.index
    rw [he]
    split
    · decide
    · rename_i hp
      cases j with
      | zero => exact absurd (show s.isPrefixOf (c :: t) = true from h) hp
      | succ j =>
        have := index_of_occ t j h
        rw [if_neg (by simp; omega)]
        omega

section
variable {tx : Bytes → Bool} {D : Bytes} {σ : St}

/-- The tokens with the text so far. -/
def fl (σ : St) : List Tok := if σ.text = [] then σ.toks else σ.toks ++ [⟨4, [], [], σ.text⟩]

theorem flushAdd_ok {t : Tok} {p : Int} (h : (fl σ).length < 4096) : flushAdd σ t p = .ok ((), { σ with toks := fl σ ++ [t], text := [] }) := by
  unfold fl at h ⊢
  unfold flushAdd flush
  by_cases ht : σ.text = []
  · rw [if_pos ht] at h ⊢
    simp only [ht, if_true]
    unfold add
    rw [if_pos h]
    cases σ; simp_all only
  · rw [if_neg ht] at h ⊢
    simp at h
    have h1 : σ.toks.length < 4096 := by omega
    simp only [ht, if_false]
    unfold add
    rw [if_pos h1]
    simp only
    rw [if_pos (by simpa using h)]

theorem to_to (a b : Nat) : (σ.to a).to b = σ.to b := rfl
theorem to_pos (a : Nat) : (σ.to a).pos = a := rfl
theorem flushAdd_to {t : Tok} {p : Int} {x : Nat} (h : (fl σ).length < 4096) : flushAdd (σ.to x) t p = .ok ((), { σ.to x with toks := fl σ ++ [t], text := [] }) := flushAdd_ok (σ := σ.to x) h
theorem pos_lt {a : UInt8} {r : Bytes} (h : D.drop σ.pos = a :: r) : σ.pos < D.length := drop_lt h

theorem qname_ev {n r : Bytes} {a : UInt8} (hn : (split n).isSome = true) (ha : stops a = true) (h : D.drop σ.pos = n ++ a :: r) :
    qname ⟨D.toArray⟩ σ = ((n, true), σ.to (σ.pos + n.length)) := by
  have hw : wordN true (D.drop σ.pos) = n.length := by rw [h, qname_word hn, word_stop true a r ha]; rfl
  unfold qname
  simp only [word_ev, hw]
  rw [h, List.take_left, hn]

theorem name_ev {n r : Bytes} {a : UInt8} (hn : isName n = true) (ha : stops a = true) (h : D.drop σ.pos = n ++ a :: r) :
    name ⟨D.toArray⟩ σ = ((n, true), σ.to (σ.pos + n.length)) := by
  have hw : wordN false (D.drop σ.pos) = n.length := by rw [h, name_word hn false a r ha]
  unfold name
  simp only [word_ev, hw]
  rw [h, List.take_left, hn]

theorem nb_not {a : UInt8} {r : Bytes} (h : ¬ (a = 9 ∨ a = 10 ∨ a = 13 ∨ a = 32)) : nb (a :: r) = 0 := by
  unfold nb; rw [if_neg h]

theorem blanks_no {a : UInt8} {r : Bytes} (hd : D.drop σ.pos = a :: r) (h : ¬ (a = 9 ∨ a = 10 ∨ a = 13 ∨ a = 32)) : blanks ⟨D.toArray⟩ σ = (false, σ) := by
  rw [blanks_ev (Nat.le_of_lt (drop_lt hd)), hd, nb_not h]; rfl

theorem blanks_one {a : UInt8} {r : Bytes} (hd : D.drop σ.pos = 32 :: a :: r) (h : ¬ (a = 9 ∨ a = 10 ∨ a = 13 ∨ a = 32)) : blanks ⟨D.toArray⟩ σ = (true, σ.to (σ.pos + 1)) := by
  have : nb (32 :: a :: r) = 1 := by
    show (if (32 : UInt8) = 9 ∨ _ then nb (a :: r) + 1 else 0) = 1
    rw [nb_not h]; simp
  rw [blanks_ev (Nat.le_of_lt (drop_lt hd)), hd, this]; rfl

theorem drop_one {a : UInt8} {r : Bytes} (h : D.drop σ.pos = a :: r) : D.drop (σ.to (σ.pos + 1)).pos = r := drop_more (a := [a]) h

theorem has_no {a x : UInt8} {l t : Bytes} (h : D.drop σ.pos = a :: l) (hx : x ≠ a) : has ⟨D.toArray⟩ σ (x :: t) = false := by
  rw [has_ev, h]
  simp [List.isPrefixOf, hx]
theorem has_no2 {a b x y : UInt8} {l t : Bytes} (h : D.drop σ.pos = a :: b :: l) (hx : y ≠ b) : has ⟨D.toArray⟩ σ (x :: y :: t) = false := by
  rw [has_ev, h]
  simp [List.isPrefixOf, hx]
theorem has_nil {x : UInt8} {t : Bytes} (h : D.drop σ.pos = []) : has ⟨D.toArray⟩ σ (x :: t) = false := by
  rw [has_ev, h]; rfl
theorem has_yes {t r : Bytes} (h : D.drop σ.pos = t ++ r) : has ⟨D.toArray⟩ σ t = true := by
  rw [has_ev, h, List.isPrefixOf_iff_prefix]; exact List.prefix_append _ _
theorem eat_yes {t r : Bytes} (h : D.drop σ.pos = t ++ r) : eat ⟨D.toArray⟩ σ t = (true, σ.to (σ.pos + t.length)) := by
  unfold eat; rw [has_yes h]; rfl
theorem eat_not {t : Bytes} (h : has ⟨D.toArray⟩ σ t = false) : eat ⟨D.toArray⟩ σ t = (false, σ) := by
  unfold eat; rw [h]; rfl

theorem equal_ev {a : UInt8} {r : Bytes} (hd : D.drop σ.pos = 61 :: a :: r) (h : ¬ (a = 9 ∨ a = 10 ∨ a = 13 ∨ a = 32)) : equal ⟨D.toArray⟩ σ = (true, σ.to (σ.pos + 1)) := by
  unfold equal
  rw [blanks_no hd (by decide)]
  simp only
  rw [eat_yes (t := [61]) (r := a :: r) hd]
  simp only
  rw [show ([61] : Bytes).length = 1 from rfl, blanks_no (drop_one hd) h]

theorem value_ev {v r : Bytes} (hd : D.drop σ.pos = 34 :: (quo v ++ 34 :: r)) : value ⟨D.toArray⟩ σ = .ok ((v, true), σ.to (σ.pos + ((quo v).length + 2))) := by
  have hl : v.length ≤ (quo v).length := by
    clear hd
    induction v with
    | nil => exact Nat.zero_le _
    | cons c v ih =>
      have : 1 ≤ (quoB c).length := by unfold quoB; (repeat' split) <;> simp
      simp only [quo, List.flatMap_cons, List.length_append, List.length_cons] at ih ⊢
      omega
  have hle : (D.drop σ.pos).length ≤ D.length := by simp
  rw [hd] at hle
  simp at hle
  unfold value sign
  rw [has_no hd (by decide), has_yes (t := [34]) hd]
  simp only [Bool.false_eq_true, if_false, if_true]
  rw [valueL_quo r v _ (σ.to (σ.pos + 1)) [] (drop_one hd) (by rw [size_ev]; omega)]
  simp [St.to, Nat.add_assoc, Nat.add_comm 1]

theorem head_not {a : UInt8} (h : headOk a = true) : ¬ (a = 9 ∨ a = 10 ∨ a = 13 ∨ a = 32) := by
  rintro (rfl | rfl | rfl | rfl) <;> exact absurd h (by decide)

theorem stop_61 : stops 61 = true := by decide
theorem stop_62 : stops 62 = true := by decide
theorem stop_32 : stops 32 = true := by decide
theorem stop_63 : stops 63 = true := by decide

theorem named_map (l : List (Bytes × Bytes)) (a : Bytes) : named l a = (l.map (·.1)).contains a := by
  unfold named
  induction l with
  | nil => rfl
  | cons p l ih => simp only [List.any_cons, List.map_cons, List.contains_cons, ih]; rw [Bool.beq_comm]

theorem tagL_wr (p : Int) (r : Bytes) : ∀ (az : List (Bytes × Bytes)) (n : Nat) (σ : St) (done : List (Bytes × Bytes)), D.drop σ.pos = az.flatMap attrB ++ 62 :: r → attrsOk tx (done.map (·.1)) az = true → az.length < n →
    tagL ⟨D.toArray⟩ p n σ done = .ok (done ++ az, σ.to (σ.pos + (az.flatMap attrB).length))
  | [], n + 1, σ, done, hd, _, _ => by
    have hd : D.drop σ.pos = 62 :: r := hd
    unfold tagL
    rw [blanks_no hd (by decide)]
    simp only
    rw [if_pos (by rw [size_ev]; exact drop_lt hd), has_yes (t := [62]) hd]
    simp [St.to]
  | (q, v) :: az, n + 1, σ, done, hd, ha, hn => by
    have hd : D.drop σ.pos = 32 :: (q ++ 61 :: 34 :: (quo v ++ 34 :: (az.flatMap attrB ++ 62 :: r))) := by rw [hd]; simp [attrB]
    simp only [attrsOk, Bool.and_eq_true, Bool.not_eq_true'] at ha
    obtain ⟨⟨⟨hq, _⟩, hs⟩, ha⟩ := ha
    obtain ⟨a, t, hqt, hh⟩ := qname_head hq
    simp only [List.length_cons] at hn
    have hb := blanks_one (σ := σ) (a := a) (r := t ++ 61 :: 34 :: (quo v ++ 34 :: (az.flatMap attrB ++ 62 :: r))) (by rw [hd, hqt]; rfl) (head_not hh)
    have hd1 := drop_one hd
    have hd1' : D.drop (σ.to (σ.pos + 1)).pos = a :: (t ++ 61 :: 34 :: (quo v ++ 34 :: (az.flatMap attrB ++ 62 :: r))) := by rw [hd1, hqt]; rfl
    have hq1 := qname_ev (σ := σ.to (σ.pos + 1)) hq stop_61 hd1
    have hd2 : D.drop (σ.to (σ.pos + 1 + q.length)).pos = 61 :: 34 :: (quo v ++ 34 :: (az.flatMap attrB ++ 62 :: r)) := drop_more hd1
    have he := equal_ev hd2 (by decide)
    have hd3 := drop_one hd2
    have hv := value_ev (σ := σ.to (σ.pos + 1 + q.length + 1)) hd3
    have hd4 : D.drop (σ.to (σ.pos + 1 + q.length + 1 + ((quo v).length + 2))).pos = az.flatMap attrB ++ 62 :: r := by
      have := drop_more (a := 34 :: (quo v ++ [34])) (b := az.flatMap attrB ++ 62 :: r) (show D.drop (σ.pos + 1 + q.length + 1) = _ by rw [show D.drop (σ.pos + 1 + q.length + 1) = _ from hd3]; simp)
      rw [← this]; simp [St.to, Nat.add_assoc]
    have hs' : named done q = false := by rw [named_map]; exact hs
    have ih := tagL_wr p r az n (σ.to (σ.pos + 1 + q.length + 1 + ((quo v).length + 2))) (done ++ [(q, v)]) hd4 (by simpa using ha) (by omega)
    unfold tagL
    rw [hb]
    simp only
    rw [if_pos (by rw [size_ev]; exact drop_lt hd1'), has_no hd1' (Ne.symm (headOk_ne hh (by decide))), has_no hd1' (Ne.symm (headOk_ne hh (by decide)))]
    simp only [Bool.or_self, Bool.false_eq_true, if_false]
    rw [hq1]
    simp only
    rw [show (σ.to (σ.pos + 1)).to ((σ.to (σ.pos + 1)).pos + q.length) = σ.to (σ.pos + 1 + q.length) from rfl, he]
    simp only [Bool.and_self, if_true, hs', Bool.false_eq_true, if_false]
    rw [show (σ.to (σ.pos + 1 + q.length)).to ((σ.to (σ.pos + 1 + q.length)).pos + 1) = σ.to (σ.pos + 1 + q.length + 1) from rfl, hv]
    simp only [if_true]
    rw [show (σ.to (σ.pos + 1 + q.length + 1)).to ((σ.to (σ.pos + 1 + q.length + 1)).pos + ((quo v).length + 2)) = σ.to (σ.pos + 1 + q.length + 1 + ((quo v).length + 2)) from rfl, ih]
    simp [St.to, attrB]
    omega
  | _, 0, _, _, _, _, hn => absurd hn (Nat.not_lt_zero _)

theorem attrs_len : ∀ az : List (Bytes × Bytes), az.length ≤ (az.flatMap attrB).length
  | [] => Nat.le_refl _
  | a :: az => by
    have := attrs_len az
    simp [attrB] at this ⊢
    omega

/-- A start tag. -/
theorem tag_wr {n r : Bytes} {az : List (Bytes × Bytes)} (hd : D.drop σ.pos = 60 :: (n ++ (az.flatMap attrB ++ 62 :: r))) (hn : (split n).isSome = true) (ha : attrsOk tx [] az = true)
    (ho : σ.opn.length < 32) (hm : az.length ≤ 64) (hf : (fl σ).length < 4096) :
    tag ⟨D.toArray⟩ σ = .ok ((), { σ with pos := σ.pos + (60 :: (n ++ (az.flatMap attrB ++ [62]))).length, toks := fl σ ++ [⟨2, n, az, []⟩], text := [], opn := σ.opn ++ [n] }) := by
  have hle : (D.drop σ.pos).length ≤ D.length := by simp
  rw [hd] at hle
  simp only [List.length_cons, List.length_append] at hle
  have hl := attrs_len az
  have hd1 := drop_one hd
  obtain ⟨a, r', hr', hs⟩ : ∃ a r', az.flatMap attrB ++ 62 :: r = a :: r' ∧ stops a = true := by
    cases az with
    | nil => exact ⟨62, r, rfl, stop_62⟩
    | cons p az => exact ⟨32, p.1 ++ 61 :: 34 :: (quo p.2 ++ [34]) ++ az.flatMap attrB ++ 62 :: r, by simp [attrB], stop_32⟩
  have hq := qname_ev (σ := σ.to (σ.pos + 1)) (a := a) (r := r') hn hs (by rw [hd1, hr'])
  have hd2 : D.drop (σ.to (σ.pos + 1 + n.length)).pos = az.flatMap attrB ++ 62 :: r := drop_more hd1
  have ht := tagL_wr (σ.pos : Int) r az (D.length + 1) _ [] hd2 ha (by omega)
  have hd3 : D.drop (σ.pos + 1 + n.length + (az.flatMap attrB).length) = 62 :: r := drop_more hd2
  unfold tag
  simp only [hq, if_true]
  rw [show (σ.to (σ.pos + 1)).to ((σ.to (σ.pos + 1)).pos + n.length) = σ.to (σ.pos + 1 + n.length) from rfl, size_ev, ht]
  simp only
  rw [if_pos (by simp [St.to]; omega)]
  simp only [to_to, to_pos]
  rw [flushAdd_to hf]
  simp only
  rw [has_no (a := 62) (l := r) (by simpa [St.to] using hd3) (by decide)]
  simp [St.to, fl, Nat.add_assoc]
  omega

/-- An end tag. -/
theorem end_wr {n r : Bytes} (hd : D.drop σ.pos = 60 :: 47 :: (n ++ 62 :: r)) (hn : (split n).isSome = true) (ho : (σ.opn.getLast? == some n) = true) (hf : (fl σ).length < 4096) :
    endTag ⟨D.toArray⟩ σ = .ok ((), { σ with pos := σ.pos + (60 :: 47 :: (n ++ [62])).length, toks := fl σ ++ [⟨7, n, [], []⟩], text := [], opn := σ.opn.take (σ.opn.length - 1), ended := σ.opn.length == 1 }) := by
  have hd1 : D.drop (σ.to (σ.pos + 2)).pos = n ++ 62 :: r := drop_more (a := [60, 47]) hd
  have hq := qname_ev (σ := σ.to (σ.pos + 2)) hn stop_62 hd1
  have hd2 : D.drop (σ.to (σ.pos + 2 + n.length)).pos = 62 :: r := drop_more hd1
  unfold endTag
  simp only [hq]
  rw [show (σ.to (σ.pos + 2)).to ((σ.to (σ.pos + 2)).pos + n.length) = σ.to (σ.pos + 2 + n.length) from rfl, blanks_no hd2 (by decide)]
  simp only
  rw [eat_yes (t := [62]) hd2]
  simp only [ho, Bool.and_self, if_true]
  simp only [to_to, to_pos]
  rw [flushAdd_to hf]
  simp [St.to, fl, Nat.add_assoc]
  try omega

theorem no_occ {t : Bytes} {a b : UInt8} (h : Lib.contains t [a, b] = false) : ∀ j, Lib.occAt t [a, b] j = false := by
  intro j
  cases hj : Lib.occAt t [a, b] j with
  | false => rfl
  | true =>
    have := index_of_occ t j hj
    unfold Lib.contains at h
    simp at h
    omega

theorem occ_two {l : Bytes} {a b : UInt8} {j : Nat} : Lib.occAt l [a, b] j = true ↔ l[j]? = some a ∧ l[j + 1]? = some b := by
  unfold Lib.occAt
  constructor
  · intro h
    obtain ⟨u, hu⟩ := List.isPrefixOf_iff_prefix.1 h
    have h0 : (l.drop j)[0]? = some a := by rw [← hu]; rfl
    have h1 : (l.drop j)[1]? = some b := by rw [← hu]; rfl
    exact ⟨by simpa using h0, by simpa using h1⟩
  · rintro ⟨h0, h1⟩
    have e : l.drop j = a :: b :: l.drop (j + 2) := by
      obtain ⟨l0, g0⟩ := List.getElem?_eq_some_iff.1 h0
      obtain ⟨l1, g1⟩ := List.getElem?_eq_some_iff.1 h1
      rw [List.drop_eq_getElem_cons l0, g0, List.drop_eq_getElem_cons l1, g1]
    rw [e]
    simp [List.isPrefixOf]

theorem cut_two {t r : Bytes} {a b : UInt8} (h : ∀ j, Lib.occAt (t ++ [a]) [a, b] j = false) : Lib.cut (t ++ a :: b :: r) [a, b] = (t, r, true) := by
  have hi : Lib.index (t ++ a :: b :: r) [a, b] = t.length := by
    refine Lib.index_first (i := t.length) (by simp) (by simp [Lib.occAt]) ?_
    intro j hj
    cases ho : Lib.occAt (t ++ a :: b :: r) [a, b] j with
    | false => rfl
    | true =>
      obtain ⟨h0, h1⟩ := occ_two.1 ho
      have : Lib.occAt (t ++ [a]) [a, b] j = true := by
        refine occ_two.2 ⟨?_, ?_⟩
        · rw [List.getElem?_append_left hj] at h0 ⊢; exact h0
        · rw [show t ++ a :: b :: r = (t ++ [a]) ++ b :: r by simp, List.getElem?_append_left (by simp; omega)] at h1; exact h1
      rw [h j] at this; cases this
  unfold Lib.cut
  rw [hi, if_pos (by omega)]
  simp

theorem upto_two {t r : Bytes} {a b : UInt8} (hd : D.drop σ.pos = t ++ a :: b :: r) (h : ∀ j, Lib.occAt (t ++ [a]) [a, b] j = false) : upto ⟨D.toArray⟩ σ [a, b] = ((t, true), σ.to (σ.pos + t.length + 2)) := by
  unfold upto
  rw [rest_ev, hd, cut_two h]
  rfl

/-- A comment. -/
theorem comment_wr {t r : Bytes} (hd : D.drop σ.pos = 60 :: 33 :: 45 :: 45 :: (t ++ 45 :: 45 :: 62 :: r)) (ht : Lib.contains (t ++ [45]) [45, 45] = false) (hf : (fl σ).length < 4096) :
    comment ⟨D.toArray⟩ σ true = .ok ((), { σ with pos := σ.pos + (60 :: 33 :: 45 :: 45 :: (t ++ [45, 45, 62])).length, toks := fl σ ++ [⟨5, [], [], t⟩], text := [] }) := by
  have hd1 : D.drop (σ.to (σ.pos + 4)).pos = t ++ 45 :: 45 :: 62 :: r := drop_more (a := [60, 33, 45, 45]) hd
  have hu := upto_two hd1 (no_occ ht)
  have hd2 : D.drop (σ.to (σ.pos + 4 + t.length + 2)).pos = 62 :: r := by
    have := drop_more (a := t ++ [45, 45]) (b := 62 :: r) (show D.drop (σ.pos + 4) = _ by rw [show D.drop (σ.pos + 4) = _ from hd1]; simp)
    rw [← this]; simp [St.to, Nat.add_assoc]
  unfold comment
  simp only [hu]
  rw [show (σ.to (σ.pos + 4)).to ((σ.to (σ.pos + 4)).pos + t.length + 2) = σ.to (σ.pos + 4 + t.length + 2) from rfl, eat_yes (t := [62]) hd2]
  simp only [Bool.and_self, if_true]
  simp only [to_to, to_pos]
  rw [flushAdd_to hf]
  simp [St.to, fl, Nat.add_assoc]
  try omega

theorem pi_occ {t : Bytes} (h : Lib.contains t [63, 62] = false) : ∀ j, Lib.occAt (piB t ++ [63]) [63, 62] j = false := by
  intro j
  cases ho : Lib.occAt (piB t ++ [63]) [63, 62] j with
  | false => rfl
  | true =>
    exfalso
    obtain ⟨h0, h1⟩ := occ_two.1 ho
    have hj : j + 1 < (piB t).length := by
      have hlt := (List.getElem?_eq_some_iff.1 h1).1
      simp at hlt
      rcases Nat.lt_or_ge (j + 1) (piB t).length with hl | hl
      · exact hl
      · rw [List.getElem?_append_right hl] at h1
        have : j + 1 - (piB t).length = 0 := by omega
        rw [this] at h1; simp at h1
    rw [List.getElem?_append_left (by omega)] at h0 h1
    by_cases hne : t = []
    · subst hne; simp [piB] at h0
    · unfold piB at h0 h1
      rw [if_neg hne] at h0 h1
      cases j with
      | zero => simp at h0
      | succ j =>
        have h0 : t[j]? = some 63 := by simpa using h0
        have h1 : t[j + 1]? = some 62 := by simpa using h1
        have := no_occ h j
        rw [occ_two.2 ⟨h0, h1⟩] at this; cases this

theorem trim_pi {t : Bytes} (h : trimB t = t) : trimB (piB t) = t := by
  unfold piB
  split
  · rename_i he; subst he; rfl
  · rename_i hne
    rw [trimB_nb] at h ⊢
    have : nb t = 0 := by
      have hl := congrArg List.length h
      have := List.length_pos_iff.2 hne
      simp at hl; omega
    show List.drop (if (32 : UInt8) = 9 ∨ _ then nb t + 1 else 0) _ = _
    rw [this]; simp

/-- A processing instruction. -/
theorem pi_wr {n t r : Bytes} (hd : D.drop σ.pos = 60 :: 63 :: (n ++ (piB t ++ 63 :: 62 :: r))) (hn : isName n = true) (hx : isXml n = false) (ht : Lib.contains t [63, 62] = false) (hb : trimB t = t) (hf : (fl σ).length < 4096) :
    pi ⟨D.toArray⟩ σ true = .ok ((), { σ with pos := σ.pos + (60 :: 63 :: (n ++ (piB t ++ [63, 62]))).length, toks := fl σ ++ [⟨6, n, [], t⟩], text := [] }) := by
  have hd1 : D.drop (σ.to (σ.pos + 2)).pos = n ++ (piB t ++ 63 :: 62 :: r) := drop_more (a := [60, 63]) hd
  obtain ⟨a, r', hr', hs⟩ : ∃ a r', piB t ++ 63 :: 62 :: r = a :: r' ∧ stops a = true := by
    unfold piB
    split
    · exact ⟨63, _, rfl, stop_63⟩
    · exact ⟨32, _, rfl, stop_32⟩
  have hq := name_ev (σ := σ.to (σ.pos + 2)) (a := a) (r := r') hn hs (by rw [hd1, hr'])
  have hd2 : D.drop (σ.to (σ.pos + 2 + n.length)).pos = piB t ++ 63 :: 62 :: r := drop_more hd1
  have hu := upto_two hd2 (pi_occ ht)
  unfold pi
  simp only [hq, hx, Bool.not_false, Bool.and_self, if_true]
  rw [show (σ.to (σ.pos + 2)).to ((σ.to (σ.pos + 2)).pos + n.length) = σ.to (σ.pos + 2 + n.length) from rfl, hu]
  simp only [trim_pi hb]
  rw [if_pos (by
    unfold piB
    split <;> simp)]
  simp only [to_to, to_pos]
  rw [flushAdd_to hf]
  simp [St.to, fl, Nat.add_assoc]
  try omega
end
end Go.Proofs.YtalmkfikfmpmoaaGreatDoor
