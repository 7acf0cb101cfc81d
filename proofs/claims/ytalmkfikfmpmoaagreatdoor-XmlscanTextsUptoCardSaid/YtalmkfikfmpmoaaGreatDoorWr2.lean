/- What is written, scanned again: a whole document. -/
import Derived.Test.YtalmkfikfmpmoaaGreatDoorWr
namespace Go.Proofs.YtalmkfikfmpmoaaGreatDoor
open Go.RowKit

section
variable {tx : Bytes → Bool} {D : Bytes} {σ : St}

/-- What may follow a text. -/
def After (r : Bytes) : Prop := r = [] ∨ ∃ r', r = 60 :: r'

theorem esc_no (s : Bytes) : (62 : UInt8) ∉ esc s := by
  induction s with
  | nil => simp [esc]
  | cons c s ih =>
    simp only [esc, List.flatMap_cons, List.mem_append, not_or] at ih ⊢
    refine ⟨?_, ih⟩
    unfold escB
    repeat' split
    all_goals simp
    rename_i h1 h2 h3 h4
    exact fun h => h3 h.symm

theorem no_end' (c : UInt8) (s r : Bytes) (hr : After r) : [93, 93, 62].isPrefixOf (c :: (esc s ++ r)) = false := by
  cases h : ([93, 93, 62] : Bytes).isPrefixOf (c :: (esc s ++ r)) with
  | false => rfl
  | true =>
    exfalso
    obtain ⟨u, hu⟩ := List.isPrefixOf_iff_prefix.1 h
    have h0 : (esc s ++ r)[0]? = some 93 := by
      have : (c :: (esc s ++ r))[1]? = some 93 := by rw [← hu]; rfl
      simpa using this
    have h1 : (esc s ++ r)[1]? = some 62 := by
      have : (c :: (esc s ++ r))[2]? = some 62 := by rw [← hu]; rfl
      simpa using this
    have hn := esc_no s
    generalize esc s = e at *
    match e with
    | [] =>
      rcases hr with rfl | ⟨r', rfl⟩ <;> simp at h0
    | [x] =>
      rcases hr with rfl | ⟨r', rfl⟩ <;> simp at h1
    | x :: y :: e =>
      have h1 : y = 62 := by simpa using h1
      subst h1
      simp at hn

/-- One letter of a text. -/
theorem content_esc' (c : UInt8) (s r : Bytes) (hr : After r) (hd : D.drop σ.pos = escB c ++ (esc s ++ r)) (ht : σ.toks.length < 4096) :
    ∃ b, content ⟨D.toArray⟩ σ = .ok ((), { σ with pos := σ.pos + (escB c).length, text := σ.text ++ [c], beg := b }) := by
  have hput : ∀ p : Nat, ∃ b, put σ [c] p = .ok ((), { σ with text := σ.text ++ [c], beg := b }) := fun p => by
    unfold put
    by_cases h : σ.text = []
    · rw [if_pos h, if_pos (.inr ht)]; exact ⟨p, by simp [h]⟩
    · rw [if_neg h]; exact ⟨σ.beg, rfl⟩
  by_cases hc : escB c = [c]
  · obtain ⟨n1, n2, n3, n4⟩ := escB_self hc
    rw [hc] at hd ⊢
    have hd : D.drop σ.pos = c :: (esc s ++ r) := hd
    obtain ⟨b, hb⟩ := hput σ.pos
    have hh : (rest ⟨D.toArray⟩ σ).headD 0 = c := by rw [rest_ev, hd]; rfl
    have h3 : has ⟨D.toArray⟩ σ [93, 93, 62] = false := by rw [has_ev, hd]; exact no_end' c s r hr
    refine ⟨b, ?_⟩
    unfold content eat
    simp only [has_cons hd (Ne.symm n2), has_cons hd (Ne.symm n1), h3, Bool.false_eq_true, if_false, hh, hb]
    rfl
  · obtain ⟨⟨l, hl⟩, hr⟩ := escB_ref c hc _ false hd
    have h38 : has ⟨D.toArray⟩ σ [38] = true := by rw [has_ev, hl]; rfl
    have hput' : ∃ b, put (σ.to (σ.pos + (escB c).length)) [c] σ.pos = .ok ((), { σ with pos := σ.pos + (escB c).length, text := σ.text ++ [c], beg := b }) := by
      unfold put
      by_cases h : σ.text = []
      · have h' : (σ.to (σ.pos + (escB c).length)).text = [] := h
        rw [if_pos h', if_pos (.inr ht)]; exact ⟨σ.pos, by simp [h, St.to]⟩
      · have h' : ¬ (σ.to (σ.pos + (escB c).length)).text = [] := h
        rw [if_neg h']; exact ⟨σ.beg, rfl⟩
    obtain ⟨b, hb⟩ := hput'
    refine ⟨b, ?_⟩
    unfold content eat
    simp only [has_cons hl (show (60 : UInt8) ≠ 38 by decide), h38, Bool.false_eq_true, if_false, if_true, hr, hb]

theorem escB_pos (c : UInt8) : 1 ≤ (escB c).length := by unfold escB; (repeat' split) <;> simp

theorem parts_esc' (t : Bool) (r : Bytes) (hr : After r) : ∀ (s : Bytes) (n : Nat) (σ : St), D.drop σ.pos = esc s ++ r → σ.toks.length < 4096 → 0 < σ.opn.length →
    ∃ b, parts ⟨D.toArray⟩ (n + s.length) σ t = parts ⟨D.toArray⟩ n { σ with pos := σ.pos + (esc s).length, text := σ.text ++ s, beg := b } t
  | [], n, σ, _, _, _ => ⟨σ.beg, by simp [esc]⟩
  | c :: s, n, σ, hd, ht, ho => by
    have hd : D.drop σ.pos = escB c ++ (esc s ++ r) := by rw [hd]; simp [esc]
    have hq : (esc (c :: s)).length = (escB c).length + (esc s).length := by simp [esc]
    have hlt : σ.pos < D.length := by
      by_cases hc : escB c = [c]
      · rw [hc] at hd; exact drop_lt (l := esc s ++ r) hd
      · exact drop_lt (escB_ref c hc _ false hd).1.choose_spec
    obtain ⟨b, hb⟩ := content_esc' c s r hr hd ht
    obtain ⟨b', ih⟩ := parts_esc' t r hr s n { σ with pos := σ.pos + (escB c).length, text := σ.text ++ [c], beg := b } (drop_more hd) ht ho
    refine ⟨b', ?_⟩
    rw [List.length_cons, ← Nat.add_assoc, parts_in (by rw [size_ev]; exact hlt) ho hb, ih, hq]
    simp [Nat.add_assoc]

theorem esc_len1 : ∀ s : Bytes, s.length ≤ (esc s).length
  | [] => Nat.le_refl _
  | c :: s => by
    have := esc_len1 s
    have := escB_pos c
    simp only [esc, List.flatMap_cons, List.length_append, List.length_cons] at *
    omega

/-- A token that is no text begins with <. -/
theorem wr_head {t : Tok} (h4 : t.kind ≠ 4) : ∃ r, wr t = 60 :: r := by
  unfold wr
  rw [if_neg h4]
  repeat' split
  all_goals exact ⟨_, rfl⟩

theorem write_after {opn : List Bytes} {e : Bool} {l : List Tok} (h : okL tx opn e true l = true) : After (write l) := by
  cases l with
  | nil => exact .inl rfl
  | cons t l =>
    unfold okL at h
    simp only [Bool.and_eq_true] at h
    obtain ⟨hr, h⟩ := h
    by_cases h4 : t.kind = 4
    · rw [if_neg (by omega), if_neg (by omega), if_pos h4] at h
      simp at h
    · obtain ⟨r, hr⟩ := wr_head h4
      exact .inr ⟨r ++ write l, by simp [write, hr]⟩

/-- What is said of a right tx token. -/
theorem right_el {t : Tok} (h : right tx t = true) (hk : t.kind = 2) : (split t.name).isSome = true ∧ attrsOk tx [] t.attrs = true ∧ t.text = [] := by
  unfold right at h
  simp only [hk, if_true, true_or, Bool.and_eq_true, List.isEmpty_iff] at h
  exact ⟨h.2.1.2, h.2.1.1, h.2.2⟩
theorem right_end {t : Tok} (h : right tx t = true) (hk : t.kind = 7) : (split t.name).isSome = true ∧ t.attrs = [] ∧ t.text = [] := by
  unfold right at h
  simp [hk] at h
  exact ⟨h.2.1.2, h.1.2, h.2.2⟩
theorem right_text {t : Tok} (h : right tx t = true) (hk : t.kind = 4) : t.name = [] ∧ t.attrs = [] ∧ t.text ≠ [] := by
  unfold right at h
  simp [hk] at h
  exact ⟨h.2.1, h.1.2, h.2.2⟩
theorem right_comment {t : Tok} (h : right tx t = true) (hk : t.kind = 5) : t.name = [] ∧ t.attrs = [] ∧ Lib.contains (t.text ++ [45]) [45, 45] = false := by
  unfold right at h
  simp [hk] at h
  exact ⟨h.2.1, h.1.2, h.2.2⟩
theorem right_pi {t : Tok} (h : right tx t = true) (hk : t.kind = 6) : isName t.name = true ∧ t.attrs = [] ∧ isXml t.name = false ∧ Lib.contains t.text [63, 62] = false ∧ trimB t.text = t.text := by
  unfold right at h
  simp [hk] at h
  exact ⟨h.2.1.1.1, h.1.2, h.2.1.1.2, h.2.1.2, h.2.2⟩

theorem tok_eq {t : Tok} {k : Int} {n : Bytes} {az : List (Bytes × Bytes)} {x : Bytes} (h1 : t.kind = k) (h2 : t.name = n) (h3 : t.attrs = az) (h4 : t.text = x) : t = ⟨k, n, az, x⟩ := by
  cases t; simp_all

/-- One token that is no text is passed: within an element or beside it. -/
theorem step_wr {t : Tok} {r : Bytes} (hk : t.kind ≠ 4) (hr : right tx t = true) (hd : D.drop σ.pos = wr t ++ r) (hf : (fl σ).length < 4096)
    (h2 : t.kind = 2 → (σ.opn.isEmpty && σ.ended) = false ∧ σ.opn.length < 32 ∧ t.attrs.length ≤ 64) (h7 : t.kind = 7 → (σ.opn.getLast? == some t.name) = true) (n : Nat) (typed : Bool) :
    parts ⟨D.toArray⟩ (n + 1) σ typed = parts ⟨D.toArray⟩ n { σ with pos := σ.pos + (wr t).length, toks := fl σ ++ [t], text := [], opn := if t.kind = 2 then σ.opn ++ [t.name] else if t.kind = 7 then σ.opn.take (σ.opn.length - 1) else σ.opn, ended := if t.kind = 7 then σ.opn.length == 1 else σ.ended } typed := by
  rcases kinds hr with k | k | k | k | k
  · obtain ⟨hn, ha, hx⟩ := right_el hr k
    obtain ⟨he, ho, hm⟩ := h2 k
    have hw : wr t = 60 :: (t.name ++ (t.attrs.flatMap attrB ++ [62])) := by unfold wr; rw [if_pos k]
    have ht := tok_eq k rfl rfl hx
    rw [hw] at hd
    have hd' : D.drop σ.pos = 60 :: (t.name ++ (t.attrs.flatMap attrB ++ 62 :: r)) := by rw [hd]; simp
    have hg := tag_wr hd' hn ha ho hm hf
    obtain ⟨a, q, hq, hh⟩ := qname_head hn
    have hd2 : D.drop σ.pos = 60 :: a :: (q ++ (t.attrs.flatMap attrB ++ 62 :: r)) := by rw [hd', hq]; rfl
    have hlt := drop_lt hd'
    have n33 : (33 : UInt8) ≠ a := Ne.symm (headOk_ne hh (by decide))
    have n47 : (47 : UInt8) ≠ a := Ne.symm (headOk_ne hh (by decide))
    have n63 : (63 : UInt8) ≠ a := Ne.symm (headOk_ne hh (by decide))
    have h60 : has ⟨D.toArray⟩ σ [60] = true := has_yes (t := [60]) hd'
    rw [← ht] at hg
    obtain ⟨S, hg, hS⟩ : ∃ S, tag ⟨D.toArray⟩ σ = .ok ((), S) ∧ S = _ := ⟨_, hg, rfl⟩
    by_cases hop : σ.opn = []
    · have hb : beside ⟨D.toArray⟩ σ typed = .ok (typed, S) := by
        unfold beside
        simp only [blanks_no hd' (by decide), has_no2 hd2 n33, has_no2 hd2 n63, has_no2 hd2 n47, h60, Bool.false_eq_true, if_false]
        have hen : σ.ended = false := by simpa [hop] using he
        simp only [hen, Bool.not_true, Bool.or_self, Bool.false_eq_true, if_false, hg]
      rw [parts_out (by rw [size_ev]; exact hlt) hop hb, hS]
      simp [k, hw]
    · have hc : content ⟨D.toArray⟩ σ = .ok ((), S) := by
        unfold content
        simp only [has_no2 hd2 n33, has_no2 hd2 n63, has_no2 hd2 n47, eat_not (has_no2 hd2 n33), h60, Bool.false_eq_true, if_false, if_true, hg]
      rw [parts_in (by rw [size_ev]; exact hlt) (List.length_pos_iff.2 hop) hc, hS]
      simp [k, hw]
  · obtain ⟨hn, ha, hx⟩ := right_end hr k
    have hw : wr t = 60 :: 47 :: (t.name ++ [62]) := by unfold wr; rw [if_neg (by omega), if_pos k]
    have ht := tok_eq k rfl ha hx
    rw [hw] at hd
    have hd' : D.drop σ.pos = 60 :: 47 :: (t.name ++ 62 :: r) := by rw [hd]; simp
    have ho := h7 k
    have hop : σ.opn ≠ [] := by
      rintro he
      rw [he] at ho; cases ho
    have hg := end_wr hd' hn ho hf
    rw [← ht] at hg
    obtain ⟨S, hg, hS⟩ : ∃ S, endTag ⟨D.toArray⟩ σ = .ok ((), S) ∧ S = _ := ⟨_, hg, rfl⟩
    have hc : content ⟨D.toArray⟩ σ = .ok ((), S) := by
      unfold content
      simp only [has_yes (t := [60, 47]) hd', if_true, hg]
    rw [parts_in (by rw [size_ev]; exact drop_lt hd') (List.length_pos_iff.2 hop) hc, hS]
    simp [k, hw]
  · exact absurd k hk
  · obtain ⟨hn, ha, hx⟩ := right_comment hr k
    have hw : wr t = 60 :: 33 :: 45 :: 45 :: (t.text ++ [45, 45, 62]) := by unfold wr; rw [if_neg (by omega), if_neg (by omega), if_neg (by omega), if_pos k]
    have ht := tok_eq k hn ha rfl
    rw [hw] at hd
    have hd' : D.drop σ.pos = 60 :: 33 :: 45 :: 45 :: (t.text ++ 45 :: 45 :: 62 :: r) := by rw [hd]; simp
    have hg := comment_wr hd' hx hf
    have hcm : has ⟨D.toArray⟩ σ commB = true := has_yes (t := commB) hd'
    rw [← ht] at hg
    obtain ⟨S, hg, hS⟩ : ∃ S, comment ⟨D.toArray⟩ σ true = .ok ((), S) ∧ S = _ := ⟨_, hg, rfl⟩
    by_cases hop : σ.opn = []
    · have hb : beside ⟨D.toArray⟩ σ typed = .ok (typed, S) := by
        unfold beside
        simp only [blanks_no hd' (by decide), hcm, Bool.false_eq_true, if_false, if_true, hg]
      rw [parts_out (by rw [size_ev]; exact drop_lt hd') hop hb, hS]
      simp [k, hw]
    · have hc : content ⟨D.toArray⟩ σ = .ok ((), S) := by
        unfold content
        simp only [has_no2 hd' (show (47 : UInt8) ≠ 33 by decide), hcm, Bool.false_eq_true, if_false, if_true, hg]
      rw [parts_in (by rw [size_ev]; exact drop_lt hd') (List.length_pos_iff.2 hop) hc, hS]
      simp [k, hw]
  · obtain ⟨hn, ha, hx, hi, hb⟩ := right_pi hr k
    have hw : wr t = 60 :: 63 :: (t.name ++ (piB t.text ++ [63, 62])) := by unfold wr; rw [if_neg (by omega), if_neg (by omega), if_neg (by omega), if_neg (by omega)]
    have ht := tok_eq k rfl ha rfl
    rw [hw] at hd
    have hd' : D.drop σ.pos = 60 :: 63 :: (t.name ++ (piB t.text ++ 63 :: 62 :: r)) := by rw [hd]; simp
    have hg := pi_wr hd' hn hx hi hb hf
    have hcm : has ⟨D.toArray⟩ σ [60, 63] = true := has_yes (t := [60, 63]) hd'
    rw [← ht] at hg
    obtain ⟨S, hg, hS⟩ : ∃ S, pi ⟨D.toArray⟩ σ true = .ok ((), S) ∧ S = _ := ⟨_, hg, rfl⟩
    by_cases hop : σ.opn = []
    · have hb : beside ⟨D.toArray⟩ σ typed = .ok (typed, S) := by
        unfold beside
        simp only [blanks_no hd' (by decide), has_no2 hd' (show (33 : UInt8) ≠ 63 by decide), hcm, Bool.false_eq_true, if_false, if_true, hg]
      rw [parts_out (by rw [size_ev]; exact drop_lt hd') hop hb, hS]
      simp [k, hw]
    · have hc : content ⟨D.toArray⟩ σ = .ok ((), S) := by
        unfold content
        simp only [has_no2 hd' (show (47 : UInt8) ≠ 63 by decide), has_no2 hd' (show (33 : UInt8) ≠ 63 by decide), hcm, Bool.false_eq_true, if_false, if_true, hg]
      rw [parts_in (by rw [size_ev]; exact drop_lt hd') (List.length_pos_iff.2 hop) hc, hS]
      simp [k, hw]

/-- What is written is scanned as it was. -/
theorem parts_write (typed : Bool) : ∀ (l : List Tok) (n : Nat) (σ : St), okL tx σ.opn σ.ended (decide (σ.text ≠ [])) l = true → deepOk σ.opn.length l = true → D.drop σ.pos = write l → (fl σ).length + l.length ≤ 4096 →
    (σ.opn = [] → σ.text = []) → (D.drop σ.pos).length < n → ∃ σ', parts ⟨D.toArray⟩ n σ typed = .ok ((), σ') ∧ σ'.ended = true ∧ σ'.opn = [] ∧ σ'.toks = fl σ ++ l
  | [], n, σ, hk, _, hd, _, ht, _ => by
    unfold okL at hk
    simp at hk
    have hp : ¬ σ.pos < (⟨D.toArray⟩ : ByteArray).size := by
      rw [size_ev]
      have := congrArg List.length hd
      simp [write] at this; omega
    refine ⟨σ, parts_end hp, hk.1, hk.2, ?_⟩
    unfold fl; rw [if_pos (ht hk.2)]; simp
  | t :: l, n, σ, hk, hde, hd, hf, ht, hn => by
    have hd : D.drop σ.pos = wr t ++ write l := by rw [hd]; simp [write]
    unfold okL at hk
    simp only [Bool.and_eq_true] at hk
    obtain ⟨hr, hk⟩ := hk
    simp only [List.length_cons] at hf
    by_cases h4 : t.kind = 4
    · obtain ⟨hnm, haz, hx⟩ := right_text hr h4
      have hw : wr t = esc t.text := by unfold wr; rw [if_neg (by omega), if_neg (by omega), if_pos h4]
      rw [if_neg (by omega), if_neg (by omega), if_pos h4] at hk
      simp only [Bool.and_eq_true, Bool.not_eq_true', decide_eq_false_iff_not, ne_eq, Decidable.not_not, List.isEmpty_eq_false_iff] at hk
      obtain ⟨⟨hop, htx⟩, hk⟩ := hk
      rw [hw] at hd
      have hfl : fl σ = σ.toks := by unfold fl; rw [if_pos htx]
      have hel := esc_len1 t.text
      have hlen : (D.drop σ.pos).length = (esc t.text).length + (write l).length := by rw [hd]; simp
      obtain ⟨m, hm⟩ : ∃ m, n = m + t.text.length := ⟨n - t.text.length, by omega⟩
      obtain ⟨b, hb⟩ := parts_esc' typed (write l) (write_after hk) t.text m σ hd (by rw [← hfl]; omega) (List.length_pos_iff.2 hop)
      unfold deepOk at hde
      rw [if_neg (by omega), if_neg (by omega)] at hde
      have hdd : D.drop (σ.pos + (esc t.text).length) = write l := drop_more hd
      obtain ⟨σ', e1, e2, e3, e4⟩ := parts_write typed l m { σ with pos := σ.pos + (esc t.text).length, text := σ.text ++ t.text, beg := b } (by simpa [htx, hx] using hk) hde hdd
        (by unfold fl; simp only [htx, List.nil_append, hx, if_false]; simp; rw [hfl] at hf; omega) (fun h => absurd h hop) (by rw [show D.drop (St.pos _) = _ from hdd]; omega)
      refine ⟨σ', ?_, e2, e3, ?_⟩
      · rw [hm, hb, e1]
      · rw [e4, hfl]
        have : fl { σ with pos := σ.pos + (esc t.text).length, text := σ.text ++ t.text, beg := b } = σ.toks ++ [t] := by
          unfold fl
          simp only [htx, List.nil_append, hx, if_false]
          rw [← tok_eq h4 hnm haz rfl]
        rw [this]; simp
    · have hdp : 1 ≤ (wr t).length := by obtain ⟨r, hr⟩ := wr_head h4; rw [hr]; simp
      have hlen : (D.drop σ.pos).length = (wr t).length + (write l).length := by rw [hd]; simp
      obtain ⟨m, rfl⟩ : ∃ m, n = m + 1 := ⟨n - 1, by omega⟩
      have hs := step_wr h4 hr hd (by omega) (fun k => by
          rw [if_pos k] at hk
          simp only [Bool.and_eq_true, Bool.not_eq_true'] at hk
          unfold deepOk at hde
          rw [if_pos k] at hde
          simp only [Bool.and_eq_true, decide_eq_true_eq] at hde
          exact ⟨hk.1, hde.1.1, hde.1.2⟩) (fun k => by
          rw [if_neg (by omega), if_pos k] at hk
          simp only [Bool.and_eq_true] at hk
          exact hk.1) m typed
      have hdd : D.drop (σ.pos + (wr t).length) = write l := drop_more hd
      obtain ⟨σ1, h1⟩ : ∃ σ1 : St, σ1 = { σ with pos := σ.pos + (wr t).length, toks := fl σ ++ [t], text := [], opn := if t.kind = 2 then σ.opn ++ [t.name] else if t.kind = 7 then σ.opn.take (σ.opn.length - 1) else σ.opn, ended := if t.kind = 7 then σ.opn.length == 1 else σ.ended } := ⟨_, rfl⟩
      rw [← h1] at hs
      have htx : σ1.text = [] := by rw [h1]
      have hfl : fl σ1 = fl σ ++ [t] := by
        have : fl σ1 = σ1.toks := by unfold fl; rw [if_pos htx]
        rw [this, h1]
      have hok : okL tx σ1.opn σ1.ended (decide (σ1.text ≠ [])) l = true ∧ deepOk σ1.opn.length l = true := by
        rw [htx, h1]
        simp only [ne_eq, not_true_eq_false, decide_false]
        unfold deepOk at hde
        rcases kinds hr with k | k | k | k | k
        · simp [k] at hk hde ⊢
          exact ⟨hk.2, hde.2⟩
        · simp [k] at hk hde ⊢
          refine ⟨by simpa using hk.2, ?_⟩
          exact hde
        · exact absurd k h4
        · simp [k] at hk hde ⊢
          exact ⟨hk, hde⟩
        · simp [k] at hk hde ⊢
          exact ⟨hk, hde⟩
      have hp1 : D.drop σ1.pos = write l := by rw [h1]; exact hdd
      obtain ⟨σ', e1, e2, e3, e4⟩ := parts_write typed l m σ1 hok.1 hok.2 hp1 (by rw [hfl]; simp; omega) (fun _ => htx) (by rw [hp1]; omega)
      exact ⟨σ', by rw [hs, e1], e2, e3, by rw [e4, hfl]; simp⟩
end
end Go.Proofs.YtalmkfikfmpmoaaGreatDoor
