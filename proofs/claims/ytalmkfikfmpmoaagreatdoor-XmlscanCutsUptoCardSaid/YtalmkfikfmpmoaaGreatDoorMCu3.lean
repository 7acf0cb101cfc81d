/- The plain law of XmlscanCuts. -/
import Derived.Test.YtalmkfikfmpmoaaGreatDoorMCu2
namespace Go.Proofs.YtalmkfikfmpmoaaGreatDoor
open Go.RowKit

theorem okL_after {tx : Bytes → Bool} : ∀ (l : List Tok) (pt : Bool), okL tx [] true pt l = true → ∀ t ∈ l, t.kind ≠ 7
  | [], _, _, t, ht => by cases ht
  | x :: l, pt, h, t, ht => by
    unfold okL at h
    simp only [Bool.and_eq_true] at h
    obtain ⟨hr, h⟩ := h
    rcases kinds hr with k | k | k | k | k
    · simp [k] at h
    · simp [k] at h
    · simp [k] at h
    · simp [k] at h
      rcases List.mem_cons.1 ht with rfl | ht
      · omega
      · exact okL_after l _ h t ht
    · simp [k] at h
      rcases List.mem_cons.1 ht with rfl | ht
      · omega
      · exact okL_after l _ h t ht

section
variable {D : Bytes} {σ : St}

/-- Not at an end. -/
def Live (σ : St) : Prop := (σ.ended && σ.opn.length == 0) = false

theorem live_of {l : List Tok} {pt : Bool} (h : okL isText σ.opn σ.ended pt l = true) (h7 : ∃ t ∈ l, t.kind = 7) : Live σ := by
  unfold Live
  cases he : σ.ended with
  | false => rfl
  | true =>
    cases ho : σ.opn with
    | cons a b => simp
    | nil =>
      exfalso
      rw [he, ho] at h
      obtain ⟨t, ht, k⟩ := h7
      exact okL_after l pt h t ht k

theorem parts_cut (typed : Bool) : ∀ (l : List Tok) (n : Nat) (σ : St) (P Q : Bytes), okL isText σ.opn σ.ended (decide (σ.text ≠ [])) l = true → deepOk σ.opn.length l = true → D.drop σ.pos = P → write l = P ++ Q → Q ≠ [] →
    (∃ l0 t, l = l0 ++ [t] ∧ t.kind = 7) → (fl σ).length + l.length ≤ 4096 → Lib.validD P = true → P.length < n →
    Wrong D (parts ⟨D.toArray⟩ n σ typed) ∨ ∃ σ', parts ⟨D.toArray⟩ n σ typed = .ok ((), σ') ∧ Live σ'
  | [], n, σ, P, Q, _, _, _, hw, hQ, _, _, _, _ => by
    exfalso
    have h1 := congrArg List.length hw
    have h2 := List.length_pos_iff.2 hQ
    simp only [write, List.flatMap_nil, List.length_nil, List.length_append] at h1
    omega
  | t :: l, n, σ, P, Q, hk, hde, hd, hw, hQ, hlast, hf, hv, hn => by
    have hw : wr t ++ write l = P ++ Q := by rw [← hw]; simp [write]
    have hlive : Live σ := live_of hk (by
      obtain ⟨l0, x, e, k⟩ := hlast
      exact ⟨x, by rw [e]; simp, k⟩)
    cases P with
    | nil => exact .inr ⟨σ, parts_end (by rw [size_ev]; exact drop_end hd), hlive⟩
    | cons a P =>
      unfold okL at hk
      simp only [Bool.and_eq_true] at hk
      obtain ⟨hr, hk⟩ := hk
      simp only [List.length_cons] at hf
      have htv := isText_valid _ _ (Nat.le_refl _) (isText_wr hr)
      by_cases hl : (wr t).length ≤ (a :: P).length
      · obtain ⟨P', h1, h2⟩ := split_le hw hl
        have hl' : ∃ l0 x, l = l0 ++ [x] ∧ x.kind = 7 := by
          obtain ⟨l0, x, e, k⟩ := hlast
          cases l0 with
          | nil =>
            have hnil : l = [] := by simp at e; exact e.2
            rw [hnil] at h2
            have h3 := congrArg List.length h2
            have h4 := List.length_pos_iff.2 hQ
            simp [write] at h3
            omega
          | cons y l0 =>
            simp at e
            exact ⟨l0, x, e.2, k⟩
        have hlen := congrArg List.length h1
        simp only [List.length_append] at hlen
        rw [h1] at hd hv
        rw [validD_append _ _ P' (Nat.le_refl _) htv] at hv
        by_cases h4 : t.kind = 4
        · obtain ⟨hnm, haz, hx⟩ := right_text hr h4
          have hwt : wr t = esc t.text := by unfold wr; rw [if_neg (by omega), if_neg (by omega), if_pos h4]
          rw [if_neg (by omega), if_neg (by omega), if_pos h4] at hk
          simp only [Bool.and_eq_true, Bool.not_eq_true', decide_eq_false_iff_not, ne_eq, Decidable.not_not, List.isEmpty_eq_false_iff] at hk
          obtain ⟨⟨hop, htx⟩, hk⟩ := hk
          rw [hwt] at hd hlen
          have hfl : fl σ = σ.toks := by unfold fl; rw [if_pos htx]
          have hel := esc_len1 t.text
          obtain ⟨m, rfl⟩ : ∃ m, n = m + t.text.length := ⟨n - t.text.length, by omega⟩
          have haft : After P' := by
            rcases write_after hk with h | ⟨r, h⟩
            · rw [h] at h2
              exact .inl (by
                have h3 := congrArg List.length h2
                simp only [List.length_nil, List.length_append] at h3
                exact List.eq_nil_of_length_eq_zero (by omega))
            · rw [h] at h2
              cases P' with
              | nil => exact .inl rfl
              | cons x P' => simp at h2; exact .inr ⟨P', by rw [h2.1]⟩
          obtain ⟨b, hb⟩ := parts_esc' typed P' haft t.text m σ hd (by rw [← hfl]; omega) (List.length_pos_iff.2 hop)
          unfold deepOk at hde
          rw [if_neg (by omega), if_neg (by omega)] at hde
          have hdd : D.drop (σ.pos + (esc t.text).length) = P' := drop_more hd
          rw [hb]
          exact parts_cut typed l m { σ with pos := σ.pos + (esc t.text).length, text := σ.text ++ t.text, beg := b } P' Q (by simpa [htx, hx] using hk) hde hdd h2 hQ hl'
            (by unfold fl; simp only [htx, List.nil_append, hx, if_false]; simp; rw [hfl] at hf; omega) hv (by omega)
        · have hdp : 1 ≤ (wr t).length := by obtain ⟨r, hr⟩ := wr_head h4; rw [hr]; simp
          obtain ⟨m, rfl⟩ : ∃ m, n = m + 1 := ⟨n - 1, by omega⟩
          have hs := step_wr h4 hr hd (by omega) (fun k => by
              rw [if_pos k] at hk
              simp only [Bool.and_eq_true, Bool.not_eq_true'] at hk
              unfold deepOk at hde
              rw [if_pos k] at hde
              simp only [Bool.and_eq_true, decide_eq_true_eq] at hde
              exact ⟨hk.1, hde.1.1, hde.1.2⟩) (fun k => by
              rw [if_neg (by omega), if_pos k] at hk
              simp only [Bool.and_eq_true] at hk
              exact hk.1) m typed
          have hdd : D.drop (σ.pos + (wr t).length) = P' := drop_more hd
          obtain ⟨σ1, h1⟩ : ∃ σ1 : St, σ1 = { σ with pos := σ.pos + (wr t).length, toks := fl σ ++ [t], text := [], opn := if t.kind = 2 then σ.opn ++ [t.name] else if t.kind = 7 then σ.opn.take (σ.opn.length - 1) else σ.opn, ended := if t.kind = 7 then σ.opn.length == 1 else σ.ended } := ⟨_, rfl⟩
          rw [← h1] at hs
          have htx : σ1.text = [] := by rw [h1]
          have hfl : fl σ1 = fl σ ++ [t] := by
            have : fl σ1 = σ1.toks := by unfold fl; rw [if_pos htx]
            rw [this, h1]
          have hok : okL isText σ1.opn σ1.ended (decide (σ1.text ≠ [])) l = true ∧ deepOk σ1.opn.length l = true := by
            rw [htx, h1]
            simp only [ne_eq, not_true_eq_false, decide_false]
            unfold deepOk at hde
            rcases kinds hr with k | k | k | k | k
            · simp [k] at hk hde ⊢
              exact ⟨hk.2, hde.2⟩
            · simp [k] at hk hde ⊢
              refine ⟨by simpa using hk.2, ?_⟩
              exact hde
            · exact absurd k h4
            · simp [k] at hk hde ⊢
              exact ⟨hk, hde⟩
            · simp [k] at hk hde ⊢
              exact ⟨hk, hde⟩
          have hp1 : D.drop σ1.pos = P' := by rw [h1]; exact hdd
          rw [hs]
          exact parts_cut typed l m σ1 P' Q hok.1 hok.2 hp1 h2 hQ hl' (by rw [hfl]; simp; omega) hv (by omega)
      · obtain ⟨u, hu, h1, _⟩ := split_lt hw (by omega)
        by_cases h4 : t.kind = 4
        · have hwt : wr t = esc t.text := by unfold wr; rw [if_neg (by omega), if_neg (by omega), if_pos h4]
          rw [if_neg (by omega), if_neg (by omega), if_pos h4] at hk
          simp only [Bool.and_eq_true, Bool.not_eq_true', decide_eq_false_iff_not, ne_eq, Decidable.not_not, List.isEmpty_eq_false_iff] at hk
          obtain ⟨⟨hop, htx⟩, hk⟩ := hk
          have hfl : fl σ = σ.toks := by unfold fl; rw [if_pos htx]
          rcases text_cut typed t.text n σ (a :: P) u hd (by rw [← hwt, h1]) (by rw [← hfl]; omega) (List.length_pos_iff.2 hop) with h | ⟨σ', e, ho⟩
          · exact .inl h
          · refine .inr ⟨σ', e, ?_⟩
            unfold Live
            have : (σ'.opn.length == 0) = false := by simp; intro hh; rw [hh] at ho; simp at ho
            rw [this]; simp
        · obtain ⟨m, rfl⟩ : ∃ m, n = m + 1 := ⟨n - 1, by omega⟩
          refine .inl (token_cut h4 hr hd (by simp) h1 hu hv (fun k => ?_) m typed)
          rw [if_neg (by omega), if_pos k] at hk
          simp only [Bool.and_eq_true] at hk
          intro ho
          rw [ho] at hk
          exact absurd hk.1 (by simp)
end

/-- A document that is cut short ahead of its element's end is none. -/
theorem scan_cut {l : List Tok} {D Q : Bytes} (h : okL isText [] false false l = true) (hd : deepOk 0 l = true) (hl : l.length ≤ 4096) (hs : (write l).length ≤ 32768) (hw : write l = D ++ Q) (hQ : Q ≠ []) (hlast : ∃ l0 t, l = l0 ++ [t] ∧ t.kind = 7) :
    (isText D = false → ∃ p, scan D = .error (4, p)) ∧ (isText D = true → ∃ p : Int, scan D = .error (5, p) ∧ p ≤ D.length) := by
  have hlen := congrArg List.length hw
  simp only [List.length_append] at hlen
  unfold scan
  rw [if_neg (by omega)]
  constructor
  · intro ht
    unfold isText at ht
    cases hb : badAt D.length D 0 with
    | none => rw [hb] at ht; cases ht
    | some p => exact ⟨p, rfl⟩
  · intro ht
    have hv := isText_valid _ D (Nat.le_refl _) ht
    unfold isText at ht
    rw [Option.isNone_iff_eq_none] at ht
    rw [ht]
    simp only
    have hno := no_decl h hw
    have hp := parts_cut (D := D) false l (D.length + 1) St.start D Q h hd rfl hw hQ hlast (by simpa [fl, St.start] using hl) hv (by omega)
    unfold whole
    rw [show ((has ⟨D.toArray⟩ St.start xmldB && decide (6 ≤ (⟨D.toArray⟩ : ByteArray).size) && isBlank ((D.getD 5 0).toNat : Int)) = false) from hno]
    simp only [Bool.false_eq_true, if_false]
    rw [size_ev]
    rcases hp with ⟨p, e, hpl⟩ | ⟨σ', e, hlv⟩
    · rw [e]
      exact ⟨p, rfl, hpl⟩
    · rw [e]
      unfold Live at hlv
      simp only [hlv, Bool.false_eq_true, if_false]
      exact ⟨D.length, rfl, Int.le_refl _⟩
end Go.Proofs.YtalmkfikfmpmoaaGreatDoor

