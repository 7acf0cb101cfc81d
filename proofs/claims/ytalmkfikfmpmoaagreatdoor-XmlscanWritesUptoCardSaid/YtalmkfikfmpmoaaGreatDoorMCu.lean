/- What is written and cut short is no document. -/
import Derived.Test.YtalmkfikfmpmoaaGreatDoorMWr3
namespace Go.Proofs.YtalmkfikfmpmoaaGreatDoor
open Go.RowKit

theorem isText_valid : ∀ (n : Nat) (l : Bytes), l.length ≤ n → isText l = true → Lib.validD l = true
  | 0, l, h, _ => by
    have : l = [] := List.eq_nil_of_length_eq_zero (by omega)
    subst this; rfl
  | n + 1, l, h, hv => by
    by_cases hl : l = []
    · subst hl; rfl
    · have hw := Lib.decodeL_width l
      rw [isText_step hl] at hv
      split at hv
      · cases hv
      · rename_i hb
        rw [Lib.validD_step l hl, if_neg (badR_ok (by simpa using hb)).2]
        exact isText_valid n _ (by simp; omega) hv

/-- A part that is not all of two. -/
theorem split_le {a b c d : Bytes} (h : a ++ b = c ++ d) (hl : a.length ≤ c.length) : ∃ u, c = a ++ u ∧ b = u ++ d := by
  rcases List.append_eq_append_iff.1 h with ⟨u, h1, h2⟩ | ⟨u, h1, h2⟩
  · exact ⟨u, h1, h2⟩
  · have : u = [] := by
      have := congrArg List.length h1
      simp at this
      exact List.eq_nil_of_length_eq_zero (by omega)
    subst this
    exact ⟨[], by simpa using h1.symm, by simpa using h2.symm⟩
theorem split_lt {a b c d : Bytes} (h : a ++ b = c ++ d) (hl : c.length < a.length) : ∃ u, u ≠ [] ∧ a = c ++ u ∧ d = u ++ b := by
  obtain ⟨u, h1, h2⟩ := split_le h.symm (Nat.le_of_lt hl)
  refine ⟨u, ?_, h1, h2⟩
  rintro rfl
  rw [h1] at hl; simp at hl

theorem ref_none {l : Bytes} (h : (59 : UInt8) ∉ l) : reference l = none ∧ refWild l = false := by
  have hc := cut_gone h
  unfold reference refWild
  rw [hc]
  exact ⟨rfl, rfl⟩

theorem quoB_semi (c : UInt8) : (59 : UInt8) ∉ (quoB c).dropLast := by
  unfold quoB
  repeat' split
  all_goals simp
theorem escB_semi (c : UInt8) : (59 : UInt8) ∉ (escB c).dropLast := by
  unfold escB
  repeat' split
  all_goals simp
theorem mem_part {l a b : Bytes} (h : l = a ++ b) (hb : b ≠ []) {x : UInt8} (hx : x ∉ l.dropLast) : x ∉ a := by
  intro hm
  apply hx
  rw [h, List.dropLast_append_of_ne_nil hb]
  exact List.mem_append_left _ hm
theorem quoB_first {c : UInt8} {a : UInt8} {u v : Bytes} (h : quoB c = (a :: u) ++ v) (hv : v ≠ []) : a = 38 := by
  have hl : quoB c ≠ [c] := by
    intro e
    rw [e] at h
    have h1 := congrArg List.length h
    have h2 := List.length_pos_iff.2 hv
    simp only [List.length_cons, List.length_nil, List.length_append] at h1
    omega
  unfold quoB at h hl
  repeat' split at h
  all_goals first | (simp at h; exact h.1.symm) | (exfalso; simp_all)
theorem escB_first {c : UInt8} {a : UInt8} {u v : Bytes} (h : escB c = (a :: u) ++ v) (hv : v ≠ []) : a = 38 := by
  have hl : escB c ≠ [c] := by
    intro e
    rw [e] at h
    have h1 := congrArg List.length h
    have h2 := List.length_pos_iff.2 hv
    simp only [List.length_cons, List.length_nil, List.length_append] at h1
    omega
  unfold escB at h hl
  repeat' split at h
  all_goals first | (simp at h; exact h.1.symm) | (exfalso; simp_all)

section
variable {tx : Bytes → Bool} {D : Bytes} {σ : St}

theorem drop_end {k : Nat} (h : D.drop k = []) : ¬ k < D.length := by
  intro hl
  have := congrArg List.length h
  simp at this; omega

theorem blanks_nil (h : D.drop σ.pos = []) (hp : σ.pos ≤ D.length) : blanks ⟨D.toArray⟩ σ = (false, σ) := by
  rw [blanks_ev hp, h]; rfl

theorem tagL_end (p : Int) (n : Nat) (az : List (Bytes × Bytes)) (h : D.drop σ.pos = []) (hp : σ.pos ≤ D.length) : tagL ⟨D.toArray⟩ p n σ az = .error (5, p) := by
  cases n with
  | zero => rfl
  | succ n =>
    unfold tagL
    rw [blanks_nil h hp]
    simp only
    rw [if_neg (by rw [size_ev]; exact drop_end h)]

theorem qname_all {n r : Bytes} (hn : (split (n ++ r)).isSome = true) (hd : D.drop σ.pos = n) (hv : Lib.validD n = true) :
    qname ⟨D.toArray⟩ σ = ((n, (split n).isSome), σ.to (σ.pos + n.length)) := by
  have hw : wordN true (D.drop σ.pos) = n.length := by rw [hd]; exact qname_part hn hv
  unfold qname
  simp only [word_ev, hw]
  rw [hd, List.take_length]

theorem name_all {n r : Bytes} (hn : isName (n ++ r) = true) (hd : D.drop σ.pos = n) (hv : Lib.validD n = true) :
    name ⟨D.toArray⟩ σ = ((n, isName n), σ.to (σ.pos + n.length)) := by
  have hw : wordN false (D.drop σ.pos) = n.length := by
    obtain ⟨h1, _, _, h4⟩ := name_parts hn
    rw [hd]; exact word_part _ n r (Nat.le_refl _) hv h1 h4
  unfold name
  simp only [word_ev, hw]
  rw [hd, List.take_length]

theorem drop_all {n : Bytes} (hd : D.drop σ.pos = n) (hp : σ.pos ≤ D.length) : D.drop (σ.pos + n.length) = [] ∧ σ.pos + n.length = D.length := by
  have hl := congrArg List.length hd
  simp at hl
  have : σ.pos + n.length = D.length := by omega
  exact ⟨by rw [this]; simp, this⟩

/-- An attribute is passed. -/
theorem tagL_step (p : Int) {q v r : Bytes} {n : Nat} {done : List (Bytes × Bytes)} (hd : D.drop σ.pos = attrB (q, v) ++ r) (hq : (split q).isSome = true) (hs : named done q = false) :
    tagL ⟨D.toArray⟩ p (n + 1) σ done = tagL ⟨D.toArray⟩ p n (σ.to (σ.pos + (attrB (q, v)).length)) (done ++ [(q, v)]) := by
  have hd : D.drop σ.pos = 32 :: (q ++ 61 :: 34 :: (quo v ++ 34 :: r)) := by rw [hd]; simp [attrB]
  obtain ⟨a, t, hqt, hh⟩ := qname_head hq
  have hb := blanks_one (σ := σ) (a := a) (r := t ++ 61 :: 34 :: (quo v ++ 34 :: r)) (by rw [hd, hqt]; rfl) (head_not hh)
  have hd1 := drop_one hd
  have hd1' : D.drop (σ.to (σ.pos + 1)).pos = a :: (t ++ 61 :: 34 :: (quo v ++ 34 :: r)) := by rw [hd1, hqt]; rfl
  have hq1 := qname_ev (σ := σ.to (σ.pos + 1)) hq stop_61 hd1
  have hd2 : D.drop (σ.to (σ.pos + 1 + q.length)).pos = 61 :: 34 :: (quo v ++ 34 :: r) := drop_more hd1
  have he := equal_ev hd2 (by decide)
  have hd3 := drop_one hd2
  have hv := value_ev (σ := σ.to (σ.pos + 1 + q.length + 1)) hd3
  conv => lhs; unfold tagL
  rw [hb]
  simp only
  rw [if_pos (by rw [size_ev]; exact drop_lt hd1'), has_no hd1' (Ne.symm (headOk_ne hh (by decide))), has_no hd1' (Ne.symm (headOk_ne hh (by decide)))]
  simp only [Bool.or_self, Bool.false_eq_true, if_false]
  rw [hq1]
  simp only
  rw [show (σ.to (σ.pos + 1)).to ((σ.to (σ.pos + 1)).pos + q.length) = σ.to (σ.pos + 1 + q.length) from rfl, he]
  simp only [Bool.and_self, if_true, hs, Bool.false_eq_true, if_false]
  rw [show (σ.to (σ.pos + 1 + q.length)).to ((σ.to (σ.pos + 1 + q.length)).pos + 1) = σ.to (σ.pos + 1 + q.length + 1) from rfl, hv]
  simp only [if_true]
  congr 1
  simp [St.to, attrB]
  omega

/-- An attribute's text that is cut short. -/
theorem valueL_cut : ∀ (v : Bytes) (n : Nat) (σ : St) (o V W : Bytes), D.drop σ.pos = V → quo v = V ++ W →
    (∃ x σ', valueL [34] ⟨D.toArray⟩ n σ o = .ok ((x, false), σ')) ∨ ∃ p : Int, valueL [34] ⟨D.toArray⟩ n σ o = .error (5, p) ∧ p ≤ D.length
  | _, 0, σ, _, _, _, _, _ => .inl ⟨[], σ, rfl⟩
  | v, n + 1, σ, o, [], W, hd, _ => by
    left
    refine ⟨[], σ, ?_⟩
    show (if σ.pos < _ then _ else _) = _
    rw [if_neg (by rw [size_ev]; exact drop_end hd)]
  | [], n + 1, σ, o, a :: V, W, hd, hq => by simp [quo] at hq
  | c :: v, n + 1, σ, o, a :: V, W, hd, hq => by
    have hq : quoB c ++ quo v = (a :: V) ++ W := by rw [← hq]; simp [quo]
    by_cases hl : (quoB c).length ≤ (a :: V).length
    · obtain ⟨V', h1, h2⟩ := split_le hq hl
      rw [h1] at hd
      have hdn := drop_more hd
      by_cases hc : quoB c = [c]
      · obtain ⟨n1, n2, n3, n4, n5, n6⟩ := quoB_self hc
        rw [hc] at hd hdn
        have hd : D.drop σ.pos = c :: V' := hd
        have hlt := drop_lt hd
        have hh : (rest ⟨D.toArray⟩ σ).headD 0 = c := by rw [rest_ev, hd]; rfl
        have ih := fun o' => valueL_cut v n (σ.to (σ.pos + 1)) o' V' W hdn h2
        have key : ∃ o', valueL [34] ⟨D.toArray⟩ (n + 1) σ o = valueL [34] ⟨D.toArray⟩ n (σ.to (σ.pos + 1)) o' := by
          by_cases hb : isBlank (c.toNat : Int) = true
          · refine ⟨o ++ [32], ?_⟩
            show (if σ.pos < _ then _ else _) = _
            rw [if_pos (by rw [size_ev]; exact hlt), if_neg (by rw [has_no hd (Ne.symm n3)]; simp), hh, if_neg n2, if_neg n1, if_pos hb]
          · refine ⟨o ++ [c], ?_⟩
            show (if σ.pos < _ then _ else _) = _
            rw [if_pos (by rw [size_ev]; exact hlt), if_neg (by rw [has_no hd (Ne.symm n3)]; simp), hh, if_neg n2, if_neg n1, if_neg hb]
        obtain ⟨o', e⟩ := key
        rw [e]
        exact ih o'
      · obtain ⟨⟨l, hl⟩, hr⟩ := quoB_ref c hc _ true hd
        have hlt := drop_lt hl
        have hh : (rest ⟨D.toArray⟩ σ).headD 0 = 38 := by rw [rest_ev, hl]; rfl
        have ih := valueL_cut v n (σ.to (σ.pos + (quoB c).length)) (o ++ [c]) V' W hdn h2
        have e : valueL [34] ⟨D.toArray⟩ (n + 1) σ o = valueL [34] ⟨D.toArray⟩ n (σ.to (σ.pos + (quoB c).length)) (o ++ [c]) := by
          show (if σ.pos < _ then _ else _) = _
          rw [if_pos (by rw [size_ev]; exact hlt), if_neg (by rw [has_no hl (by decide)]; simp), hh, if_neg (by decide), if_pos rfl, hr]
        rw [e]
        exact ih
    · obtain ⟨u, hu, h1, _⟩ := split_lt hq (by omega)
      obtain rfl := quoB_first h1 hu
      have hno := mem_part h1 hu (quoB_semi c)
      obtain ⟨r1, r2⟩ := ref_none hno
      have hlt := drop_lt hd
      have hh : (rest ⟨D.toArray⟩ σ).headD 0 = 38 := by rw [rest_ev, hd]; rfl
      right
      refine ⟨σ.pos, ?_, by omega⟩
      show (if σ.pos < _ then _ else _) = _
      rw [if_pos (by rw [size_ev]; exact hlt), if_neg (by rw [has_no hd (by decide)]; simp), hh, if_neg (by decide), if_pos rfl]
      unfold refM
      rw [rest_ev, hd, r1, r2]
      rfl

theorem attr_text {q v : Bytes} (hq : (split q).isSome = true) (hv : isText v = true) : isText (attrB (q, v)) = true := by
  have := isText_attrs [] [(q, v)] (by simp [attrsOk, hq, hv])
  simpa using this

/-- A tag's attributes that are cut short. -/
theorem tagL_cut (p : Int) (hp : p ≤ D.length) : ∀ (az : List (Bytes × Bytes)) (n : Nat) (σ : St) (done : List (Bytes × Bytes)) (P R : Bytes), D.drop σ.pos = P → az.flatMap attrB ++ [62] = P ++ R → R ≠ [] → attrsOk isText (done.map (·.1)) az = true → σ.pos ≤ D.length →
    Lib.validD P = true → ∃ p' : Int, tagL ⟨D.toArray⟩ p n σ done = .error (5, p') ∧ p' ≤ D.length
  | _, 0, σ, done, _, _, _, _, _, _, _, _ => ⟨p, rfl, hp⟩
  | [], n + 1, σ, done, P, R, hd, he, hR, _, hps, _ => by
    have : P = [] := by
      cases P with
      | nil => rfl
      | cons a P =>
        have h1 := congrArg List.length he
        have h2 := List.length_pos_iff.2 hR
        simp only [List.flatMap_nil, List.nil_append, List.length_cons, List.length_nil, List.length_append] at h1
        omega
    subst this
    exact ⟨p, tagL_end p _ _ hd hps, hp⟩
  | (q, v) :: az, n + 1, σ, done, P, R, hd, he, hR, ha, hps, hval => by
    have he : attrB (q, v) ++ (az.flatMap attrB ++ [62]) = P ++ R := by rw [← he]; simp
    simp only [attrsOk, Bool.and_eq_true, Bool.not_eq_true'] at ha
    obtain ⟨⟨⟨hq, htv⟩, hs⟩, ha⟩ := ha
    have hs' : named done q = false := by rw [named_map]; exact hs
    have hps : σ.pos + P.length = D.length := by
      have := congrArg List.length hd
      simp at this; omega
    by_cases hl : (attrB (q, v)).length ≤ P.length
    · obtain ⟨P', h1, h2⟩ := split_le he hl
      rw [h1] at hd hval hps
      rw [tagL_step p hd hq hs']
      have hv1 := isText_valid _ _ (Nat.le_refl _) (attr_text hq htv)
      rw [validD_append _ _ P' (Nat.le_refl _) hv1] at hval
      have hal : 1 ≤ (attrB (q, v)).length := by simp [attrB]
      simp only [List.length_append] at hps
      exact tagL_cut p hp az n _ _ P' R (drop_more hd) h2 hR (by simpa using ha) (by show σ.pos + _ ≤ _; omega) hval
    · obtain ⟨u, hu, h0, _⟩ := split_lt he (by omega)
      -- the attribute itself is cut
      cases P with
      | nil => exact ⟨p, tagL_end p _ _ hd (by simp at hps; omega), hp⟩
      | cons a P =>
        have h1 : 32 :: (q ++ 61 :: 34 :: (quo v ++ [34])) = a :: (P ++ u) := by simpa [attrB] using h0
        clear h0 he
        simp only [List.cons.injEq] at h1
        obtain ⟨rfl, h1⟩ := h1
        obtain ⟨b, t, hqt, hh⟩ := qname_head hq
        cases P with
        | nil =>
          have hb : blanks ⟨D.toArray⟩ σ = (true, σ.to (σ.pos + 1)) := by
            rw [blanks_ev (by simp at hps; omega), hd]; rfl
          refine ⟨p, ?_, hp⟩
          unfold tagL
          rw [hb]
          simp only
          rw [if_neg (by rw [size_ev]; simp at hps; show ¬ σ.pos + 1 < _; omega)]
        | cons b' P =>
          have hbb : b' = b := by rw [hqt] at h1; simp at h1; exact h1.1.symm
          subst hbb
          have hb := blanks_one hd (head_not hh)
          have hd1 := drop_one hd
          rw [Lib.validD_cons 32 _ (by decide)] at hval
          have hps1 : (σ.to (σ.pos + 1)).pos + (b' :: P).length = D.length := by show σ.pos + 1 + _ = _; simp at hps ⊢; omega
          have hlt1 : (σ.to (σ.pos + 1)).pos < D.length := drop_lt hd1
          have hd1' := hd1
          by_cases hl2 : (b' :: P).length ≤ q.length
          · -- the name is cut
            obtain ⟨w, hw, _⟩ := split_le h1.symm hl2
            have hqn := qname_all (σ := σ.to (σ.pos + 1)) (n := b' :: P) (r := w) (by rw [← hw]; exact hq) hd1 hval
            obtain ⟨he1, he2⟩ := drop_all hd1 (by omega)
            have heq : equal ⟨D.toArray⟩ (σ.to (σ.pos + 1 + (b' :: P).length)) = (false, σ.to (σ.pos + 1 + (b' :: P).length)) := by
              unfold equal
              rw [blanks_nil (σ := σ.to (σ.pos + 1 + (b' :: P).length)) he1 (by show σ.pos + 1 + _ ≤ _; exact Nat.le_of_eq he2)]
              simp only
              rw [eat_not (has_nil he1), blanks_nil (σ := σ.to (σ.pos + 1 + (b' :: P).length)) he1 (by show σ.pos + 1 + _ ≤ _; exact Nat.le_of_eq he2)]
            refine ⟨p, ?_, hp⟩
            conv => lhs; unfold tagL
            rw [hb]
            simp only
            rw [if_pos (by rw [size_ev]; exact hlt1), has_no hd1' (Ne.symm (headOk_ne hh (by decide))), has_no hd1' (Ne.symm (headOk_ne hh (by decide)))]
            simp only [Bool.or_self, Bool.false_eq_true, if_false]
            rw [hqn]
            simp only
            rw [show (σ.to (σ.pos + 1)).to ((σ.to (σ.pos + 1)).pos + (b' :: P).length) = σ.to (σ.pos + 1 + (b' :: P).length) from rfl, heq]
            simp
          · obtain ⟨P2, hP2, h3, h4⟩ := split_lt h1.symm (by omega)
            rw [h3] at hd1
            cases P2 with
            | nil => exact absurd rfl hP2
            | cons c P2 =>
              simp only [List.cons_append, List.cons.injEq] at h4
              obtain ⟨rfl, h4⟩ := h4
              have hqn := qname_ev (σ := σ.to (σ.pos + 1)) hq stop_61 hd1
              have hd2 : D.drop (σ.to (σ.pos + 1 + q.length)).pos = 61 :: P2 := drop_more hd1
              have hd3 := drop_one hd2
              have hlt2 := drop_lt hd2
              cases P2 with
              | nil =>
                have hd3 : D.drop (σ.to (σ.pos + 1 + q.length + 1)).pos = [] := hd3
                have heq : equal ⟨D.toArray⟩ (σ.to (σ.pos + 1 + q.length)) = (true, σ.to (σ.pos + 1 + q.length + 1)) := by
                  unfold equal
                  rw [blanks_no hd2 (by decide)]
                  simp only
                  rw [eat_yes (t := [61]) (r := []) hd2]
                  simp only
                  rw [show (σ.to (σ.pos + 1 + q.length)).to ((σ.to (σ.pos + 1 + q.length)).pos + ([61] : Bytes).length) = σ.to (σ.pos + 1 + q.length + 1) from rfl, blanks_nil hd3 (by show σ.pos + 1 + q.length + 1 ≤ _; exact hlt2)]
                refine ⟨p, ?_, hp⟩
                conv => lhs; unfold tagL
                rw [hb]
                simp only
                rw [if_pos (by rw [size_ev]; exact hlt1), has_no hd1' (Ne.symm (headOk_ne hh (by decide))), has_no hd1' (Ne.symm (headOk_ne hh (by decide)))]
                simp only [Bool.or_self, Bool.false_eq_true, if_false]
                rw [hqn]
                simp only
                rw [show (σ.to (σ.pos + 1)).to ((σ.to (σ.pos + 1)).pos + q.length) = σ.to (σ.pos + 1 + q.length) from rfl, heq]
                simp only [Bool.and_self, if_true, hs', Bool.false_eq_true, if_false]
                have : value ⟨D.toArray⟩ (σ.to (σ.pos + 1 + q.length + 1)) = .ok (([], false), σ.to (σ.pos + 1 + q.length + 1)) := by
                  unfold value sign
                  rw [has_nil hd3, has_nil hd3]
                  simp
                rw [this]
                simp
              | cons c2 P2 =>
                simp only [List.cons_append, List.cons.injEq] at h4
                obtain ⟨rfl, h4⟩ := h4
                have heq := equal_ev hd2 (by decide)
                have hd3 : D.drop (σ.to (σ.pos + 1 + q.length + 1)).pos = 34 :: P2 := hd3
                have hd4 := drop_one hd3
                have hlP : P2.length ≤ (quo v).length := by
                  have h5 := congrArg List.length h4
                  have h6 := List.length_pos_iff.2 hu
                  simp only [List.length_append, List.length_cons, List.length_nil] at h5
                  omega
                obtain ⟨w, hw, _⟩ := split_le h4.symm hlP
                have hval2 : value ⟨D.toArray⟩ (σ.to (σ.pos + 1 + q.length + 1)) = valueL [34] ⟨D.toArray⟩ (D.length + 1) (σ.to (σ.pos + 1 + q.length + 1 + 1)) [] := by
                  unfold value sign
                  rw [has_no hd3 (by decide), has_yes (t := [34]) hd3]
                  simp only [Bool.false_eq_true, if_false, if_true]
                  rfl
                rcases valueL_cut v (D.length + 1) (σ.to (σ.pos + 1 + q.length + 1 + 1)) [] P2 w hd4 hw with ⟨x, σ', e⟩ | ⟨p', e, hp'⟩
                · refine ⟨p, ?_, hp⟩
                  conv => lhs; unfold tagL
                  rw [hb]
                  simp only
                  rw [if_pos (by rw [size_ev]; exact hlt1), has_no hd1' (Ne.symm (headOk_ne hh (by decide))), has_no hd1' (Ne.symm (headOk_ne hh (by decide)))]
                  simp only [Bool.or_self, Bool.false_eq_true, if_false]
                  rw [hqn]
                  simp only
                  rw [show (σ.to (σ.pos + 1)).to ((σ.to (σ.pos + 1)).pos + q.length) = σ.to (σ.pos + 1 + q.length) from rfl, heq]
                  simp only [Bool.and_self, if_true, hs', Bool.false_eq_true, if_false]
                  rw [show (σ.to (σ.pos + 1 + q.length)).to ((σ.to (σ.pos + 1 + q.length)).pos + 1) = σ.to (σ.pos + 1 + q.length + 1) from rfl, hval2, e]
                  simp
                · refine ⟨p', ?_, hp'⟩
                  conv => lhs; unfold tagL
                  rw [hb]
                  simp only
                  rw [if_pos (by rw [size_ev]; exact hlt1), has_no hd1' (Ne.symm (headOk_ne hh (by decide))), has_no hd1' (Ne.symm (headOk_ne hh (by decide)))]
                  simp only [Bool.or_self, Bool.false_eq_true, if_false]
                  rw [hqn]
                  simp only
                  rw [show (σ.to (σ.pos + 1)).to ((σ.to (σ.pos + 1)).pos + q.length) = σ.to (σ.pos + 1 + q.length) from rfl, heq]
                  simp only [Bool.and_self, if_true, hs', Bool.false_eq_true, if_false]
                  rw [show (σ.to (σ.pos + 1 + q.length)).to ((σ.to (σ.pos + 1 + q.length)).pos + 1) = σ.to (σ.pos + 1 + q.length + 1) from rfl, hval2, e]
end
end Go.Proofs.YtalmkfikfmpmoaaGreatDoor

