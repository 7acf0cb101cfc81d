/- A document that is cut short: each kind of token; the whole. -/
import Derived.Test.YtalmkfikfmpmoaaGreatDoorMCu
namespace Go.Proofs.YtalmkfikfmpmoaaGreatDoor
open Go.RowKit

section
variable {D : Bytes} {σ : St}

/-- An error in form, at a place within the text. -/
def Wrong {α : Type} (D : Bytes) (x : M α) : Prop := ∃ p : Int, x = .error (5, p) ∧ p ≤ D.length

theorem pos_of {P : Bytes} (hd : D.drop σ.pos = P) (hP : P ≠ []) : σ.pos + P.length = D.length ∧ σ.pos < D.length := by
  have h1 := congrArg List.length hd
  have h2 := List.length_pos_iff.2 hP
  simp at h1; omega

theorem split_nil : split [] = none := by kernel_rfl
theorem name_nil : isName [] = false := by kernel_rfl

/-- A tag whose name is none. -/
theorem tag_bad {x : UInt8} {r : Bytes} (hd : D.drop σ.pos = 60 :: r) (hr : r = [] ∨ ∃ r', r = x :: r' ∧ stops x = true) : Wrong D (tag ⟨D.toArray⟩ σ) := by
  have hq : (qname ⟨D.toArray⟩ (σ.to (σ.pos + 1))).1.2 = false := by
    have hd1 := drop_one hd
    have hw : wordN true (D.drop (σ.to (σ.pos + 1)).pos) = 0 := by
      rw [hd1]
      rcases hr with rfl | ⟨r', rfl, hs⟩
      · rfl
      · exact word_stop true _ _ hs
    unfold qname
    simp only [word_ev, hw, List.take_zero, split_nil]
    rfl
  refine ⟨σ.pos, ?_, by have := drop_lt hd; omega⟩
  unfold tag
  simp only [hq, Bool.false_eq_true, if_false]

/-- A start tag that is cut short. -/
theorem tag_cut {n R P : Bytes} {az : List (Bytes × Bytes)} (hd : D.drop σ.pos = 60 :: P) (he : n ++ (az.flatMap attrB ++ [62]) = P ++ R) (hR : R ≠ []) (hn : (split n).isSome = true) (ha : attrsOk isText [] az = true) (hv : Lib.validD P = true) : Wrong D (tag ⟨D.toArray⟩ σ) := by
  obtain ⟨hp1, hp2⟩ := pos_of hd (by simp)
  have hd1 := drop_one hd
  have hsz : (σ.to (σ.pos + 1)).pos + P.length = D.length := by show σ.pos + 1 + _ = _; simp at hp1; omega
  by_cases hl : P.length ≤ n.length
  · obtain ⟨w, hw, _⟩ := split_le he.symm hl
    have hq := qname_all (σ := σ.to (σ.pos + 1)) (n := P) (r := w) (by rw [← hw]; exact hn) hd1 hv
    obtain ⟨h1, h2⟩ := drop_all hd1 (by omega)
    refine ⟨σ.pos, ?_, by omega⟩
    unfold tag
    simp only [hq]
    cases (split P).isSome
    · simp
    · simp only [if_true]
      rw [show (σ.to (σ.pos + 1)).to ((σ.to (σ.pos + 1)).pos + P.length) = σ.to (σ.pos + 1 + P.length) from rfl, tagL_end (σ := σ.to (σ.pos + 1 + P.length)) _ _ _ h1 (by show σ.pos + 1 + _ ≤ _; exact Nat.le_of_eq h2)]
  · obtain ⟨P2, hP2, h3, h4⟩ := split_lt he.symm (by omega)
    rw [h3] at hd1 hv
    obtain ⟨a, r', hr', hs⟩ : ∃ a r', P2 = a :: r' ∧ stops a = true := by
      cases P2 with
      | nil => exact absurd rfl hP2
      | cons a r' =>
        refine ⟨a, r', rfl, ?_⟩
        cases az with
        | nil => simp at h4; rw [← h4.1]; exact stop_62
        | cons p az => simp [attrB] at h4; rw [← h4.1]; exact stop_32
    have hq := qname_ev (σ := σ.to (σ.pos + 1)) (a := a) (r := r') hn hs (by rw [hd1, hr'])
    have hd2 : D.drop (σ.to (σ.pos + 1 + n.length)).pos = P2 := drop_more hd1
    rw [validD_append _ _ P2 (Nat.le_refl _) (qname_valid hn)] at hv
    rw [h3] at hsz
    simp only [List.length_append] at hsz
    obtain ⟨p', e, hp'⟩ := tagL_cut (σ.pos : Int) (by omega) az (D.length + 1) (σ.to (σ.pos + 1 + n.length)) [] P2 R hd2 h4 hR ha (by show σ.pos + 1 + n.length ≤ _; have : (σ.to (σ.pos + 1)).pos = σ.pos + 1 := rfl; omega) hv
    refine ⟨p', ?_, hp'⟩
    unfold tag
    simp only [hq, if_true]
    rw [show (σ.to (σ.pos + 1)).to ((σ.to (σ.pos + 1)).pos + n.length) = σ.to (σ.pos + 1 + n.length) from rfl, size_ev, e]

/-- An end tag that is cut short. -/
theorem end_cut {n R P : Bytes} (hd : D.drop σ.pos = 60 :: 47 :: P) (he : n ++ [62] = P ++ R) (hR : R ≠ []) (hn : (split n).isSome = true) (hv : Lib.validD P = true) : Wrong D (endTag ⟨D.toArray⟩ σ) := by
  obtain ⟨hp1, hp2⟩ := pos_of hd (by simp)
  have hd1 : D.drop (σ.to (σ.pos + 2)).pos = P := drop_more (a := [60, 47]) hd
  have hl : P.length ≤ n.length := by
    have h1 := congrArg List.length he
    have h2 := List.length_pos_iff.2 hR
    simp only [List.length_append, List.length_cons, List.length_nil] at h1
    omega
  obtain ⟨w, hw, _⟩ := split_le he.symm hl
  have hq := qname_all (σ := σ.to (σ.pos + 2)) (n := P) (r := w) (by rw [← hw]; exact hn) hd1 hv
  simp only [List.length_cons] at hp1
  obtain ⟨h1, h2⟩ := drop_all hd1 (by show σ.pos + 2 ≤ _; omega)
  refine ⟨σ.pos, ?_, by omega⟩
  unfold endTag
  simp only [hq]
  rw [show (σ.to (σ.pos + 2)).to ((σ.to (σ.pos + 2)).pos + P.length) = σ.to (σ.pos + 2 + P.length) from rfl, blanks_nil (σ := σ.to (σ.pos + 2 + P.length)) h1 (by show σ.pos + 2 + _ ≤ _; exact Nat.le_of_eq h2)]
  simp only
  rw [eat_not (has_nil h1)]
  simp

/-- A comment that is cut short. -/
theorem comment_cut {t R P : Bytes} (k : Bool) (hd : D.drop σ.pos = 60 :: 33 :: 45 :: 45 :: P) (he : t ++ [45, 45, 62] = P ++ R) (hR : R ≠ []) (ht : Lib.contains (t ++ [45]) [45, 45] = false) : Wrong D (comment ⟨D.toArray⟩ σ k) := by
  obtain ⟨hp1, hp2⟩ := pos_of hd (by simp)
  have hd1 : D.drop (σ.to (σ.pos + 4)).pos = P := drop_more (a := [60, 33, 45, 45]) hd
  refine ⟨σ.pos, ?_, by omega⟩
  have key : ((upto ⟨D.toArray⟩ (σ.to (σ.pos + 4)) [45, 45]).1.2 && (eat ⟨D.toArray⟩ (upto ⟨D.toArray⟩ (σ.to (σ.pos + 4)) [45, 45]).2 [62]).1) = false := by
    cases hc : (Lib.cut P [45, 45]).2.2 with
    | false =>
      unfold upto
      rw [rest_ev, hd1, hc]; rfl
    | true =>
      have hj := cut_join hc
      generalize hca : (Lib.cut P [45, 45]).1 = a at *
      generalize hcb : (Lib.cut P [45, 45]).2.1 = b at *
      have hu : upto ⟨D.toArray⟩ (σ.to (σ.pos + 4)) [45, 45] = ((a, true), σ.to (σ.pos + 4 + a.length + 2)) := by
        unfold upto
        rw [rest_ev, hd1]
        simp only [hc, hca]
        rfl
      rw [hu]
      simp only [Bool.true_and]
      have hd2 : D.drop (σ.to (σ.pos + 4 + a.length + 2)).pos = b := by
        rw [hj] at hd1
        have := drop_more (a := a ++ [45, 45]) (b := b) (show D.drop (σ.pos + 4) = _ by rw [show D.drop (σ.pos + 4) = _ from hd1]; simp)
        rw [← this]; simp [St.to, Nat.add_assoc]
      have hb : has ⟨D.toArray⟩ (σ.to (σ.pos + 4 + a.length + 2)) [62] = false := by
        cases b with
        | nil => exact has_nil hd2
        | cons x b =>
          by_cases hx : x = 62
          · exfalso
            subst hx
            have h1 := congrArg List.length he
            have h2 := List.length_pos_iff.2 hR
            have h3 := congrArg List.length hj
            simp only [List.length_append, List.length_cons, List.length_nil] at h1 h3
            have ho : Lib.occAt (t ++ [45]) [45, 45] a.length = true := by
              rw [occ_two]
              have g : ∀ i, i < a.length + 2 → (t ++ [45])[i]? = P[i]? := fun i hi => by
                have e1 : (t ++ [45, 45, 62])[i]? = P[i]? := by rw [he, List.getElem?_append_left (by omega)]
                have e2 : ((t ++ [45]) ++ [45, 62])[i]? = (t ++ [45])[i]? := List.getElem?_append_left (by rw [List.length_append, List.length_cons, List.length_nil]; omega)
                rw [← e1, ← e2]; simp
              rw [g _ (by omega), g _ (by omega), hj]
              simp
            rw [no_occ ht] at ho
            cases ho
          · exact has_no hd2 (Ne.symm hx)
      rw [eat_not hb]
  unfold comment
  simp only [key]
  simp

theorem cut_miss {l : Bytes} {a b : UInt8} (h : ∀ j, Lib.occAt l [a, b] j = false) : (Lib.cut l [a, b]).2.2 = false := by
  have : Lib.index l [a, b] = -1 := Lib.index_none fun j _ => h j
  unfold Lib.cut
  rw [this, if_neg (by omega)]

/-- A processing instruction that is cut short. -/
theorem pi_cut {n t R P : Bytes} (k : Bool) (hd : D.drop σ.pos = 60 :: 63 :: P) (he : n ++ (piB t ++ [63, 62]) = P ++ R) (hR : R ≠ []) (hn : isName n = true) (ht : Lib.contains t [63, 62] = false) (hv : Lib.validD P = true) : Wrong D (pi ⟨D.toArray⟩ σ k) := by
  obtain ⟨hp1, hp2⟩ := pos_of hd (by simp)
  have hd1 : D.drop (σ.to (σ.pos + 2)).pos = P := drop_more (a := [60, 63]) hd
  refine ⟨σ.pos, ?_, by omega⟩
  have key : (upto ⟨D.toArray⟩ (name ⟨D.toArray⟩ (σ.to (σ.pos + 2))).2 [63, 62]).1.2 = false := by
    by_cases hl : P.length ≤ n.length
    · obtain ⟨w, hw, _⟩ := split_le he.symm hl
      have hq := name_all (σ := σ.to (σ.pos + 2)) (n := P) (r := w) (by rw [← hw]; exact hn) hd1 hv
      simp only [List.length_cons] at hp1
      obtain ⟨h1, _⟩ := drop_all hd1 (by show σ.pos + 2 ≤ _; omega)
      rw [hq]
      unfold upto
      rw [rest_ev, show D.drop (St.pos _) = [] from h1]
      rfl
    · obtain ⟨P2, hP2, h3, h4⟩ := split_lt he.symm (by omega)
      rw [h3] at hd1
      obtain ⟨a, r', hr', hs⟩ : ∃ a r', P2 = a :: r' ∧ stops a = true := by
        cases P2 with
        | nil => exact absurd rfl hP2
        | cons a r' =>
          refine ⟨a, r', rfl, ?_⟩
          by_cases htn : t = []
          · simp [piB, htn] at h4; rw [← h4.1]; exact stop_63
          · simp [piB, htn] at h4; rw [← h4.1]; exact stop_32
      have hq := name_ev (σ := σ.to (σ.pos + 2)) (a := a) (r := r') hn hs (by rw [hd1, hr'])
      have hd2 : D.drop (σ.to (σ.pos + 2 + n.length)).pos = P2 := drop_more hd1
      rw [hq]
      show (Lib.cut (D.drop (σ.pos + 2 + n.length)) [63, 62]).2.2 = false
      rw [show D.drop (σ.pos + 2 + n.length) = P2 from hd2]
      refine cut_miss fun j => ?_
      cases ho : Lib.occAt P2 [63, 62] j with
      | false => rfl
      | true =>
        exfalso
        obtain ⟨o1, o2⟩ := occ_two.1 ho
        have hj := (List.getElem?_eq_some_iff.1 o2).1
        have h1 := congrArg List.length h4
        have h2 := List.length_pos_iff.2 hR
        simp only [List.length_append, List.length_cons, List.length_nil] at h1
        have g : ∀ i, i < P2.length → (piB t ++ [63])[i]? = P2[i]? := fun i hi => by
          have e1 : (piB t ++ [63, 62])[i]? = P2[i]? := by rw [h4, List.getElem?_append_left hi]
          have e2 : ((piB t ++ [63]) ++ [62])[i]? = (piB t ++ [63])[i]? := List.getElem?_append_left (by rw [List.length_append, List.length_cons, List.length_nil]; omega)
          rw [← e1, ← e2]; simp
        have := pi_occ ht j
        rw [occ_two.2 ⟨by rw [g _ (by omega)]; exact o1, by rw [g _ hj]; exact o2⟩] at this
        cases this
  unfold pi
  simp only [key]
  split <;> simp

/-- One letter of a text, whatever follows but an end of CDATA. -/
theorem content_one (c : UInt8) (X : Bytes) (hd : D.drop σ.pos = escB c ++ X) (h3 : [93, 93, 62].isPrefixOf (c :: X) = false) (ht : σ.toks.length < 4096) :
    ∃ b, content ⟨D.toArray⟩ σ = .ok ((), { σ with pos := σ.pos + (escB c).length, text := σ.text ++ [c], beg := b }) := by
  have hput : ∀ p : Nat, ∃ b, put σ [c] p = .ok ((), { σ with text := σ.text ++ [c], beg := b }) := fun p => by
    unfold put
    by_cases h : σ.text = []
    · rw [if_pos h, if_pos (.inr ht)]; exact ⟨p, by simp [h]⟩
    · rw [if_neg h]; exact ⟨σ.beg, rfl⟩
  by_cases hc : escB c = [c]
  · obtain ⟨n1, n2, n3, n4⟩ := escB_self hc
    rw [hc] at hd ⊢
    have hd : D.drop σ.pos = c :: X := hd
    obtain ⟨b, hb⟩ := hput σ.pos
    have hh : (rest ⟨D.toArray⟩ σ).headD 0 = c := by rw [rest_ev, hd]; rfl
    have h3 : has ⟨D.toArray⟩ σ [93, 93, 62] = false := by rw [has_ev, hd]; exact h3
    refine ⟨b, ?_⟩
    unfold content eat
    simp only [has_cons hd (Ne.symm n2), has_cons hd (Ne.symm n1), h3, Bool.false_eq_true, if_false, hh, hb]
    rfl
  · obtain ⟨⟨l, hl⟩, hr⟩ := escB_ref c hc _ false hd
    have h38 : has ⟨D.toArray⟩ σ [38] = true := by rw [has_ev, hl]; rfl
    have hput' : ∃ b, put (σ.to (σ.pos + (escB c).length)) [c] σ.pos = .ok ((), { σ with pos := σ.pos + (escB c).length, text := σ.text ++ [c], beg := b }) := by
      unfold put
      by_cases h : σ.text = []
      · have h' : (σ.to (σ.pos + (escB c).length)).text = [] := h
        rw [if_pos h', if_pos (.inr ht)]; exact ⟨σ.pos, by simp [h, St.to]⟩
      · have h' : ¬ (σ.to (σ.pos + (escB c).length)).text = [] := h
        rw [if_neg h']; exact ⟨σ.beg, rfl⟩
    obtain ⟨b, hb⟩ := hput'
    refine ⟨b, ?_⟩
    unfold content eat
    simp only [has_cons hl (show (60 : UInt8) ≠ 38 by decide), h38, Bool.false_eq_true, if_false, if_true, hr, hb]

theorem no_end2 {c : UInt8} {X : Bytes} (h : (62 : UInt8) ∉ X) : [93, 93, 62].isPrefixOf (c :: X) = false := by
  cases hh : ([93, 93, 62] : Bytes).isPrefixOf (c :: X) with
  | false => rfl
  | true =>
    exfalso
    obtain ⟨u, hu⟩ := List.isPrefixOf_iff_prefix.1 hh
    have h1 : X[1]? = some 62 := by
      have : (c :: X)[2]? = some 62 := by rw [← hu]; rfl
      simpa using this
    exact h (List.mem_of_getElem? h1)

/-- A text that is cut short: an error, or the text's end within an element. -/
theorem text_cut (typed : Bool) : ∀ (s : Bytes) (n : Nat) (σ : St) (P R : Bytes), D.drop σ.pos = P → esc s = P ++ R → σ.toks.length < 4096 → 0 < σ.opn.length →
    Wrong D (parts ⟨D.toArray⟩ n σ typed) ∨ ∃ σ', parts ⟨D.toArray⟩ n σ typed = .ok ((), σ') ∧ 0 < σ'.opn.length
  | _, 0, σ, _, _, _, _, _, ho => .inr ⟨σ, rfl, ho⟩
  | s, n + 1, σ, [], R, hd, he, ht, ho => .inr ⟨σ, parts_end (by rw [size_ev]; exact drop_end hd), ho⟩
  | [], n + 1, σ, a :: P, R, hd, he, _, _ => by simp [esc] at he
  | c :: s, n + 1, σ, a :: P, R, hd, he, ht, ho => by
    have he : escB c ++ esc s = (a :: P) ++ R := by rw [← he]; simp [esc]
    have hlt := drop_lt hd
    by_cases hl : (escB c).length ≤ (a :: P).length
    · obtain ⟨P', h1, h2⟩ := split_le he hl
      have h62 : (62 : UInt8) ∉ P' := fun hm => esc_no s (by rw [h2]; exact List.mem_append_left _ hm)
      rw [h1] at hd
      obtain ⟨b, hb⟩ := content_one c P' hd (no_end2 h62) ht
      rw [parts_in (by rw [size_ev]; exact hlt) ho hb]
      exact text_cut typed s n _ P' R (drop_more hd) h2 ht ho
    · obtain ⟨u, hu, h1, _⟩ := split_lt he (by omega)
      obtain rfl := escB_first h1 hu
      have hno := mem_part h1 hu (escB_semi c)
      obtain ⟨r1, r2⟩ := ref_none hno
      left
      refine ⟨σ.pos, ?_, by omega⟩
      refine parts_bad (by rw [size_ev]; exact hlt) ho ?_
      have h38 : has ⟨D.toArray⟩ σ [38] = true := has_yes (t := [38]) hd
      unfold content eat
      simp only [has_no hd (show (60 : UInt8) ≠ 38 by decide), h38, Bool.false_eq_true, if_false, if_true]
      unfold refM
      rw [rest_ev, hd, r1, r2]
      rfl

theorem parts_out_bad {s : ByteArray} {n : Nat} {t : Bool} {x : Int × Int} (h : σ.pos < s.size) (ho : σ.opn = []) (hc : beside s σ t = .error x) : parts s (n + 1) σ t = .error x := by
  show (if σ.pos < s.size then _ else _) = _
  rw [if_pos h, if_neg (by rw [ho]; simp), hc]

/-- A token that is no text, cut short. -/
theorem token_cut {t : Tok} {P R : Bytes} (hk : t.kind ≠ 4) (hr : right isText t = true) (hd : D.drop σ.pos = P) (hP : P ≠ []) (he : wr t = P ++ R) (hR : R ≠ []) (hv : Lib.validD P = true)
    (h7 : t.kind = 7 → σ.opn ≠ []) (n : Nat) (typed : Bool) : Wrong D (parts ⟨D.toArray⟩ (n + 1) σ typed) := by
  obtain ⟨hp1, hp2⟩ := pos_of hd hP
  obtain ⟨r0, hr0⟩ := wr_head hk
  cases P with
  | nil => exact absurd rfl hP
  | cons a P =>
    have ha : a = 60 := by rw [hr0] at he; simp at he; exact he.1.symm
    subst ha
    rw [Lib.validD_cons 60 P (by decide)] at hv
    have hlt : σ.pos < (⟨D.toArray⟩ : ByteArray).size := by rw [size_ev]; exact hp2
    -- whichever of both is asked
    have fin : (∀ typed, Wrong D (beside ⟨D.toArray⟩ σ typed) ∨ σ.opn ≠ []) → (Wrong D (content ⟨D.toArray⟩ σ)) → Wrong D (parts ⟨D.toArray⟩ (n + 1) σ typed) := fun hb hc => by
      by_cases ho : σ.opn = []
      · rcases hb typed with ⟨p, e, hp⟩ | h
        · exact ⟨p, parts_out_bad hlt ho e, hp⟩
        · exact absurd ho h
      · obtain ⟨p, e, hp⟩ := hc
        exact ⟨p, parts_bad hlt (List.length_pos_iff.2 ho) e, hp⟩
    have h60 : has ⟨D.toArray⟩ σ [60] = true := has_yes (t := [60]) hd
    -- a single <
    have lone : P = [] → Wrong D (parts ⟨D.toArray⟩ (n + 1) σ typed) := fun hP0 => by
      subst hP0
      have h2 : ∀ x y : UInt8, ∀ t : Bytes, has ⟨D.toArray⟩ σ (x :: y :: t) = false := fun x y t => by rw [has_ev, hd]; simp [List.isPrefixOf]
      obtain ⟨p, e, hp⟩ := tag_bad (x := 0) hd (.inl rfl)
      refine fin (fun typed => .inl ?_) ⟨p, ?_, hp⟩
      · cases hen : σ.ended with
        | false =>
          refine ⟨p, ?_, hp⟩
          unfold beside
          simp only [blanks_no hd (by decide), h2, h60, hen, Bool.not_true, Bool.or_self, Bool.false_eq_true, if_false, e]
        | true =>
          refine ⟨σ.pos, ?_, by omega⟩
          unfold beside
          simp only [blanks_no hd (by decide), h2, h60, hen, Bool.not_true, Bool.or_true, Bool.false_eq_true, if_false, if_true]
      · unfold content
        simp only [h2, eat_not (h2 _ _ _), h60, Bool.false_eq_true, if_false, if_true, e]
    rcases kinds hr with k | k | k | k | k
    · obtain ⟨hn, haz, hx⟩ := right_el hr k
      have he : t.name ++ (t.attrs.flatMap attrB ++ [62]) = P ++ R := by unfold wr at he; rw [if_pos k] at he; simpa using he
      obtain ⟨b, q, hq, hh⟩ := qname_head hn
      cases P with
      | nil => exact lone rfl
      | cons c P =>
        have hcb : c = b := by rw [hq] at he; simp at he; exact he.1.symm
        subst hcb
        have n33 : (33 : UInt8) ≠ c := Ne.symm (headOk_ne hh (by decide))
        have n47 : (47 : UInt8) ≠ c := Ne.symm (headOk_ne hh (by decide))
        have n63 : (63 : UInt8) ≠ c := Ne.symm (headOk_ne hh (by decide))
        obtain ⟨p, e, hp⟩ := tag_cut hd he hR hn haz hv
        refine fin (fun typed => .inl ?_) ⟨p, ?_, hp⟩
        · cases hen : σ.ended with
          | false =>
            refine ⟨p, ?_, hp⟩
            unfold beside
            simp only [blanks_no hd (by decide), has_no2 hd n33, has_no2 hd n63, has_no2 hd n47, h60, hen, Bool.not_true, Bool.or_self, Bool.false_eq_true, if_false, e]
          | true =>
            refine ⟨σ.pos, ?_, by omega⟩
            unfold beside
            simp only [blanks_no hd (by decide), has_no2 hd n33, has_no2 hd n63, has_no2 hd n47, h60, hen, Bool.not_true, Bool.or_true, Bool.false_eq_true, if_false, if_true]
        · unfold content
          simp only [has_no2 hd n33, has_no2 hd n63, has_no2 hd n47, eat_not (has_no2 hd n33), h60, Bool.false_eq_true, if_false, if_true, e]
    · obtain ⟨hn, _, _⟩ := right_end hr k
      have he : 47 :: (t.name ++ [62]) = P ++ R := by unfold wr at he; rw [if_neg (by omega), if_pos k] at he; simpa using he
      cases P with
      | nil => exact lone rfl
      | cons c P =>
        have hc : c = 47 := by simp at he; exact he.1.symm
        subst hc
        have he : t.name ++ [62] = P ++ R := by simpa using he
        rw [Lib.validD_cons 47 P (by decide)] at hv
        obtain ⟨p, e, hp⟩ := end_cut hd he hR hn hv
        refine fin (fun _ => .inr (h7 k)) ⟨p, ?_, hp⟩
        unfold content
        simp only [has_yes (t := [60, 47]) hd, if_true, e]
    · exact absurd k hk
    · obtain ⟨_, _, hx⟩ := right_comment hr k
      have he : 33 :: 45 :: 45 :: (t.text ++ [45, 45, 62]) = P ++ R := by unfold wr at he; rw [if_neg (by omega), if_neg (by omega), if_neg (by omega), if_pos k] at he; simpa using he
      match P with
      | [] => exact lone rfl
      | c :: P =>
        have hc : c = 33 := by simp at he; exact he.1.symm
        subst hc
        have he : 45 :: 45 :: (t.text ++ [45, 45, 62]) = P ++ R := by simpa using he
        by_cases hfull : ∃ P', P = 45 :: 45 :: P'
        · obtain ⟨P', rfl⟩ := hfull
          have he : t.text ++ [45, 45, 62] = P' ++ R := by simpa using he
          obtain ⟨p, e, hp⟩ := comment_cut true hd he hR hx
          have hcm : has ⟨D.toArray⟩ σ commB = true := has_yes (t := commB) hd
          refine fin (fun typed => .inl ⟨p, ?_, hp⟩) ⟨p, ?_, hp⟩
          · unfold beside
            simp only [blanks_no hd (by decide), hcm, Bool.false_eq_true, if_false, if_true, e]
          · unfold content
            simp only [has_no2 hd (show (47 : UInt8) ≠ 33 by decide), hcm, Bool.false_eq_true, if_false, if_true, e]
        · have hs : P = [] ∨ P = [45] := by
            match P with
            | [] => exact .inl rfl
            | [x] => simp at he; rw [← he.1]; exact .inr rfl
            | x :: y :: P' => simp at he; exact absurd ⟨P', by rw [← he.1, ← he.2.1]⟩ hfull
          have hcm : has ⟨D.toArray⟩ σ commB = false := by rcases hs with rfl | rfl <;> (rw [has_ev, hd]; rfl)
          have hcd : has ⟨D.toArray⟩ σ cdataB = false := by rcases hs with rfl | rfl <;> (rw [has_ev, hd]; rfl)
          have hdt : has ⟨D.toArray⟩ σ doctypeB = false := by rcases hs with rfl | rfl <;> (rw [has_ev, hd]; rfl)
          obtain ⟨p, e, hp⟩ := tag_bad (x := 33) hd (.inr ⟨_, rfl, by decide⟩)
          refine fin (fun typed => .inl ⟨σ.pos, ?_, by omega⟩) ⟨p, ?_, hp⟩
          · unfold beside
            simp only [blanks_no hd (by decide), hcm, hdt, has_no2 hd (show (63 : UInt8) ≠ 33 by decide), h60, has_no2 hd (show (47 : UInt8) ≠ 33 by decide), has_yes (t := [60, 33]) hd, Bool.not_true, Bool.or_true, Bool.true_or, Bool.false_eq_true, if_false, if_true]
          · unfold content
            simp only [has_no2 hd (show (47 : UInt8) ≠ 33 by decide), has_no2 hd (show (63 : UInt8) ≠ 33 by decide), hcm, eat_not hcd, h60, Bool.false_eq_true, if_false, if_true, e]
    · obtain ⟨hn, _, hx, hi, hb⟩ := right_pi hr k
      have he : 63 :: (t.name ++ (piB t.text ++ [63, 62])) = P ++ R := by unfold wr at he; rw [if_neg (by omega), if_neg (by omega), if_neg (by omega), if_neg (by omega)] at he; simpa using he
      cases P with
      | nil => exact lone rfl
      | cons c P =>
        have hc : c = 63 := by simp at he; exact he.1.symm
        subst hc
        have he : t.name ++ (piB t.text ++ [63, 62]) = P ++ R := by simpa using he
        rw [Lib.validD_cons 63 P (by decide)] at hv
        obtain ⟨p, e, hp⟩ := pi_cut true hd he hR hn hi hv
        have hpi : has ⟨D.toArray⟩ σ [60, 63] = true := has_yes (t := [60, 63]) hd
        refine fin (fun typed => .inl ⟨p, ?_, hp⟩) ⟨p, ?_, hp⟩
        · unfold beside
          simp only [blanks_no hd (by decide), has_no2 hd (show (33 : UInt8) ≠ 63 by decide), hpi, Bool.false_eq_true, if_false, if_true, e]
        · unfold content
          simp only [has_no2 hd (show (47 : UInt8) ≠ 63 by decide), has_no2 hd (show (33 : UInt8) ≠ 63 by decide), hpi, Bool.false_eq_true, if_false, if_true, e]
end
end Go.Proofs.YtalmkfikfmpmoaaGreatDoor

