/- What the parts of a document keep: the bounds, the entities, the text so far. -/
import Derived.Test.YtahfcgjlcdbnjaaGreatDoorMDoc
namespace Go.Proofs.YtahfcgjlcdbnjaaGreatDoor
open Go.RowKit

/-- What stays true of a scanner. -/
structure Inv (s : ByteArray) (σ : St) : Prop where
  ok : Ok s σ
  ents : EntsOk σ.ents
  txt : σ.text.length ≤ 4 * σ.pos + σ.grown

section
variable {s : ByteArray} {σ σ' : St}

theorem Inv.kept (h : Inv s σ) (k : Kept σ σ') (ho : Ok s σ') (hg : σ.grown ≤ σ'.grown) : Inv s σ' :=
  ⟨ho, by rw [k.ents]; exact h.ents, by rw [k.text]; have := h.txt; have := k.pos; omega⟩

theorem Inv.to (h : Inv s σ) {p : Nat} (hp : σ.pos ≤ p) (hs : p ≤ s.size) : Inv s (σ.to p) :=
  h.kept (Kept.to σ p hp) (h.ok.to hs) (Nat.le_refl _)

theorem Inv.blanks (h : Inv s σ) : Inv s (blanks s σ).2 := h.kept (Kept.blanks h.ok) h.ok.blanks (Nat.le_refl _)
theorem Inv.eat (h : Inv s σ) (t : Bytes) : Inv s (eat s σ t).2 := h.kept (Kept.eat s σ t) (h.ok.eat t) (by unfold Go.Proofs.YtahfcgjlcdbnjaaGreatDoor.eat; split <;> exact Nat.le_refl _)
theorem Inv.qname (h : Inv s σ) : Inv s (qname s σ).2 := h.kept (Kept.qname s σ) h.ok.qname (Nat.le_refl _)
theorem Inv.name (h : Inv s σ) : Inv s (name s σ).2 := h.kept (Kept.name s σ) h.ok.name (Nat.le_refl _)

theorem Kept.upto (s : ByteArray) (σ : St) (t : Bytes) : Kept σ (upto s σ t).2 := by
  unfold Go.Proofs.YtahfcgjlcdbnjaaGreatDoor.upto
  simp only
  split
  · exact Kept.to σ _ (by omega)
  · exact Kept.rfl' σ
theorem upto_grown (s : ByteArray) (σ : St) (t : Bytes) : (upto s σ t).2.grown = σ.grown := by
  unfold upto
  simp only
  split <;> rfl
theorem Inv.upto (h : Inv s σ) (t : Bytes) : Inv s (upto s σ t).2 := h.kept (Kept.upto s σ t) (h.ok.upto t) (by rw [upto_grown]; exact Nat.le_refl _)
theorem sign_grown (s : ByteArray) (σ : St) : (sign s σ).2.grown = σ.grown := by
  unfold sign
  split
  · rfl
  · split <;> rfl
theorem Kept.quoted (s : ByteArray) (σ : St) : Kept σ (quoted s σ).2 := by
  unfold Go.Proofs.YtahfcgjlcdbnjaaGreatDoor.quoted
  simp only
  split
  · exact (Kept.sign s σ).trans (Kept.upto _ _ _)
  · exact Kept.sign s σ
theorem quoted_grown (s : ByteArray) (σ : St) : (quoted s σ).2.grown = σ.grown := by
  unfold quoted
  simp only
  split
  · rw [upto_grown, sign_grown]
  · exact sign_grown s σ
theorem Inv.quoted (h : Inv s σ) : Inv s (quoted s σ).2 := h.kept (Kept.quoted s σ) h.ok.quoted (by rw [quoted_grown]; exact Nat.le_refl _)

theorem Inv.flushAdd (h : Inv s σ) {t : Tok} {p : Int} (hf : flushAdd σ t p = .ok ((), σ')) : Inv s σ' := by
  obtain ⟨_, _, _, h4, h5, h6⟩ := flushAdd_parts hf
  exact ⟨h.ok.flushAdd hf, by rw [h4]; exact h.ents, by rw [h6]; simp⟩

theorem comment_inv (h : Inv s σ) (hp : σ.pos + 4 ≤ s.size) {keep : Bool} (hc : comment s σ keep = .ok ((), σ')) : Inv s σ' ∧ σ.pos < σ'.pos := by
  unfold comment at hc
  simp only at hc
  have h0 : Inv s (σ.to (σ.pos + 4)) := h.to (by omega) hp
  have h1 := (h0.upto [45, 45]).eat [62]
  have hpos : σ.pos + 4 ≤ (eat s (upto s (σ.to (σ.pos + 4)) [45, 45]).2 [62]).2.pos := Nat.le_trans (Kept.upto s (σ.to (σ.pos + 4)) [45, 45]).pos (Kept.eat s _ _).pos
  split at hc
  · split at hc
    · obtain ⟨_, hp2, _⟩ := flushAdd_parts hc
      exact ⟨h1.flushAdd hc, by rw [hp2]; omega⟩
    · cases hc
      exact ⟨h1, by omega⟩
  · cases hc

theorem pi_inv (h : Inv s σ) (hp : σ.pos + 2 ≤ s.size) {keep : Bool} (hc : pi s σ keep = .ok ((), σ')) : Inv s σ' ∧ σ.pos < σ'.pos := by
  unfold pi at hc
  simp only at hc
  have h0 : Inv s (σ.to (σ.pos + 2)) := h.to (by omega) hp
  have h1 := (h0.name).upto [63, 62]
  have hpos : σ.pos + 2 ≤ (upto s (name s (σ.to (σ.pos + 2))).2 [63, 62]).2.pos := Nat.le_trans (Kept.name s (σ.to (σ.pos + 2))).pos (Kept.upto s _ _).pos
  split at hc
  · split at hc
    · split at hc
      · obtain ⟨_, hp2, _⟩ := flushAdd_parts hc
        exact ⟨h1.flushAdd hc, by rw [hp2]; omega⟩
      · cases hc
        exact ⟨h1, by omega⟩
    · cases hc
  · cases hc

theorem entity_inv (h : Inv s σ) (hp : σ.pos + 8 ≤ s.size) (hc : entity s σ = .ok ((), σ')) : Inv s σ' ∧ σ.pos < σ'.pos := by
  unfold entity at hc
  simp only at hc
  have h0 : Inv s (σ.to (σ.pos + 8)) := h.to (by omega) hp
  have h1 := h0.blanks
  have h2 := h1.name
  have h3 := h2.blanks
  have h4 := h3.quoted
  have h5 := h4.blanks
  have h6 := h5.eat [62]
  have hpos := Nat.le_trans (Kept.blanks h0.ok).pos (Nat.le_trans (Kept.name s _).pos (Nat.le_trans (Kept.blanks h2.ok).pos (Nat.le_trans (Kept.quoted s _).pos (Nat.le_trans (Kept.blanks h4.ok).pos (Kept.eat s _ [62]).pos))))
  have hpos' : σ.pos + 8 ≤ _ := hpos
  have hql := quoted_le h3.ok
  generalize hqq : quoted s (blanks s (name s (blanks s (σ.to (σ.pos + 8))).2).2).2 = q at *
  split at hc
  · split at hc
    · split at hc
      · cases hc
      · split at hc
        · split at hc
          · rename_i hr
            cases hc
            split
            · exact ⟨h6, by omega⟩
            · refine ⟨⟨⟨h6.ok.size, h6.ok.pos, h6.ok.toks, h6.ok.opn, h6.ok.text, h6.ok.beg, h6.ok.grown⟩, ?_, h6.txt⟩, Nat.lt_of_lt_of_le (Nat.lt_add_of_pos_right (by decide)) hpos'⟩
              intro p hp
              rcases List.mem_append.1 hp with hp | hp
              · exact h6.ents p hp
              · simp at hp
                subst hp
                exact ⟨hql, refsN_ok hr⟩
          · split at hc
            · cases hc
            · cases hc
        · cases hc
    · cases hc
  · cases hc

theorem decls_inv (n : Nat) : ∀ (σ σ' : St), Inv s σ → decls s n σ = .ok ((), σ') → Inv s σ' ∧ σ.pos ≤ σ'.pos := by
  induction n with
  | zero => intro σ σ' _ h; cases h
  | succ n ih =>
    intro σ σ' h hc
    simp only [decls] at hc
    have hb := h.blanks
    have hk := (Kept.blanks h.ok).pos
    split at hc
    · rename_i hh
      split at hc
      · cases hc
      · rename_i σ1 h1
        have := comment_inv hb (has_pos hh hb.ok) h1
        have := ih _ _ this.1 hc
        exact ⟨this.1, by omega⟩
    · split at hc
      · rename_i hh
        split at hc
        · cases hc
        · rename_i σ1 h1
          have := pi_inv hb (has_pos hh hb.ok) h1
          have := ih _ _ this.1 hc
          exact ⟨this.1, by omega⟩
      · split at hc
        · rename_i hh
          split at hc
          · cases hc
          · rename_i σ1 h1
            have := entity_inv hb (has_pos hh hb.ok) h1
            have := ih _ _ this.1 hc
            exact ⟨this.1, by omega⟩
        · cases hc
          exact ⟨hb, hk⟩

theorem doctype_inv (h : Inv s σ) (hp : σ.pos + 9 ≤ s.size) (hc : doctype s σ = .ok ((), σ')) : Inv s σ' ∧ σ.pos < σ'.pos := by
  unfold doctype at hc
  simp only at hc
  have h0 : Inv s (σ.to (σ.pos + 9)) := h.to (by omega) hp
  have h1 := h0.blanks
  have h2 := h1.qname
  have h3 := h2.blanks
  have h4 := h3.eat [91]
  have hpos : σ.pos + 9 ≤ (eat s (blanks s (qname s (blanks s (σ.to (σ.pos + 9))).2).2).2 [91]).2.pos := Nat.le_trans (Kept.blanks h0.ok).pos (Nat.le_trans (Kept.qname s _).pos (Nat.le_trans (Kept.blanks h2.ok).pos (Kept.eat s _ [91]).pos))
  generalize (qname s (blanks s (σ.to (σ.pos + 9))).2) = q at *
  generalize eat s (blanks s q.2).2 [91] = e at *
  clear h0 h1 h2 h3
  split at hc
  · split at hc
    · split at hc
      · cases hc
      · rename_i σ1 hd
        have h5 := decls_inv _ _ _ h4 hd
        have h6 := h5.1.eat [93]
        have h7 := h6.blanks
        have h8 := h7.eat [62]
        have hp6 := (Kept.eat s σ1 [93]).pos
        have hp7 := (Kept.blanks h6.ok).pos
        have hp8 := (Kept.eat s (blanks s (eat s σ1 [93]).2).2 [62]).pos
        generalize eat s σ1 [93] = f at *
        generalize eat s (blanks s f.2).2 [62] = g at *
        split at hc
        · split at hc
          · obtain ⟨_, rfl⟩ := Prod.mk.inj (Except.ok.inj hc)
            exact ⟨h8, by omega⟩
          · cases hc
        · cases hc
    · have h5 := h4.eat [62]
      have hp5 := (Kept.eat s e.2 [62]).pos
      generalize eat s e.2 [62] = g at *
      split at hc
      · obtain ⟨_, rfl⟩ := Prod.mk.inj (Except.ok.inj hc)
        exact ⟨h5, by omega⟩
      · cases hc
  · cases hc

theorem tag_inv (h : Inv s σ) (hp : σ.pos + 1 ≤ s.size) (hc : tag s σ = .ok ((), σ')) : Inv s σ' ∧ σ.pos < σ'.pos := by
  unfold tag at hc
  simp only at hc
  have h0 : Inv s (σ.to (σ.pos + 1)) := h.to (by omega) hp
  have h1 := h0.qname
  have hpos : σ.pos + 1 ≤ (qname s (σ.to (σ.pos + 1))).2.pos := (Kept.qname s (σ.to (σ.pos + 1))).pos
  generalize qname s (σ.to (σ.pos + 1)) = q at *
  obtain ⟨⟨nm, ok⟩, σq⟩ := q
  simp only at hc h1 hpos
  split at hc
  · split at hc
    · cases hc
    · rename_i az σ1 htl
      obtain ⟨hok1, hk1, hlt1, hh1⟩ := tagL_parts _ _ _ _ _ _ htl h1.ok
      have hp1 := hk1.pos
      split at hc
      · rename_i hlim
        have ho32 : σ1.opn.length < 32 := by simp at hlim; exact hlim.1
        split at hc
        · cases hc
        · rename_i σ2 hfa
          obtain ⟨f1, f2, f3, f4, f5, f6⟩ := flushAdd_parts hfa
          have hok2 := hok1.flushAdd hfa
          have hen2 : EntsOk σ2.ents := by rw [f4, hk1.ents]; exact h1.ents
          split at hc
          · rename_i hh2
            have hs2 := hasPrefix_length hh2
            rw [rest_length] at hs2
            have hs2 : 2 ≤ s.size - σ2.pos := hs2
            split at hc
            · cases hc
            · rename_i σ3 had
              obtain ⟨hl3, rfl⟩ := add_parts had
              cases hc
              have hok3 := (hok2.to (p := σ2.pos + 2) (by omega)).add had
              exact ⟨⟨⟨hok3.size, hok3.pos, hok3.toks, hok3.opn, hok3.text, hok3.beg, hok3.grown⟩, hen2, by show σ2.text.length ≤ _; rw [f6]; simp⟩, by show σ.pos < σ2.pos + 2; omega⟩
          · rename_i hn2
            have hs1 : 1 ≤ s.size - σ2.pos := by rw [f2]; omega
            cases hc
            exact ⟨⟨⟨hok2.size, by show σ2.pos + 1 ≤ _; omega, hok2.toks, by show (σ2.opn ++ [nm]).length ≤ 32; rw [f1]; simp; omega, hok2.text, hok2.beg, hok2.grown⟩, hen2, by show σ2.text.length ≤ _; rw [f6]; simp⟩, by show σ.pos < σ2.pos + 1; omega⟩
      · cases hc
  · cases hc

theorem endTag_inv (h : Inv s σ) (hp : σ.pos + 2 ≤ s.size) (hc : endTag s σ = .ok ((), σ')) : Inv s σ' ∧ σ.pos < σ'.pos := by
  unfold endTag at hc
  simp only at hc
  have h0 : Inv s (σ.to (σ.pos + 2)) := h.to (by omega) hp
  have h1 := h0.qname.blanks.eat [62]
  have hpos := Nat.le_trans (Kept.qname s (σ.to (σ.pos + 2))).pos (Nat.le_trans (Kept.blanks h0.qname.ok).pos (Kept.eat s _ [62]).pos)
  have hpos' : σ.pos + 2 ≤ _ := hpos
  split at hc
  · split at hc
    · cases hc
    · rename_i σ2 hfa
      obtain ⟨f1, f2, f3, f4, f5, f6⟩ := flushAdd_parts hfa
      have h2 := h1.flushAdd hfa
      cases hc
      exact ⟨⟨⟨h2.ok.size, h2.ok.pos, h2.ok.toks, by show (σ2.opn.take _).length ≤ 32; have := h2.ok.opn; simp; omega, h2.ok.text, h2.ok.beg, h2.ok.grown⟩, h2.ents, h2.txt⟩, by show σ.pos < σ2.pos; omega⟩
  · cases hc

theorem put_inv {q σ1 : St} {t : Bytes} {p : Nat} (hq : Inv s q) (ht : q.text.length + t.length ≤ 4 * q.pos + q.grown) (hp : p ≤ s.size) (hc : put q t p = .ok ((), σ1)) : Inv s σ1 ∧ σ1.pos = q.pos := by
  have hb : q.text.length + t.length ≤ 1048576 := by have := hq.ok.pos; have := hq.ok.size; have := hq.ok.grown; omega
  unfold put at hc
  split at hc
  · split at hc
    · cases hc
      exact ⟨⟨⟨hq.ok.size, hq.ok.pos, hq.ok.toks, hq.ok.opn, by show t.length ≤ _; omega, hp, hq.ok.grown⟩, hq.ents, by show t.length ≤ 4 * q.pos + q.grown; omega⟩, rfl⟩
    · cases hc
  · cases hc
    exact ⟨⟨⟨hq.ok.size, hq.ok.pos, hq.ok.toks, hq.ok.opn, by show (q.text ++ t).length ≤ _; simp; omega, hq.ok.beg, hq.ok.grown⟩, hq.ents, by show (q.text ++ t).length ≤ 4 * q.pos + q.grown; simp; omega⟩, rfl⟩

/-- A reference's text is no longer than what it takes away and what entities came to. -/
theorem refM_len {attr : Bool} {t : Bytes} {σ' : St} (h : refM s σ attr = .ok (t, σ')) (hk : Ok s σ) :
    t.length + 4 * σ.pos + σ.grown ≤ 4 * σ'.pos + σ'.grown := by
  unfold refM at h
  split at h
  · cases h
  split at h
  · cases h
  · rename_i n u e hr
    obtain ⟨hn1, hn2, hu, _⟩ := reference_size hr
    split at h
    · cases h
      show _ ≤ 4 * (σ.pos + n) + σ.grown
      omega
    · split at h
      · cases h
      · rename_i o k hex
        cases h
        have := expandN_len0 _ _ _ _ _ _ _ _ _ _ hex hk.grown
        show _ ≤ 4 * (σ.pos + n) + k
        have h1 := this.1
        simp at h1
        omega

theorem refM_inv {attr : Bool} {t : Bytes} (h : Inv s σ) (hr : refM s σ attr = .ok (t, σ')) : Inv s σ' ∧ σ.pos < σ'.pos ∧ σ'.text = σ.text := by
  obtain ⟨h1, h2, h3, h4, h5, h6, h7, h8, h9⟩ := refM_parts hr h.ok
  have := refM_len hr h.ok
  exact ⟨⟨h1, by rw [h2]; exact h.ents, by rw [h7]; have := h.txt; omega⟩, h3, h7⟩

theorem eat_pos {t : Bytes} (h : (eat s σ t).1 = true) : (eat s σ t).2 = σ.to (σ.pos + t.length) := by
  unfold eat at h ⊢
  split
  · rfl
  · rename_i hh; rw [if_neg hh] at h; cases h
theorem eat_no {t : Bytes} (h : (eat s σ t).1 = false) : (eat s σ t).2 = σ := by
  unfold eat at h ⊢
  split
  · rename_i hh; rw [if_pos hh] at h; cases h
  · rfl

theorem content_inv (h : Inv s σ) (hp : σ.pos < s.size) (hc : content s σ = .ok ((), σ')) : Inv s σ' ∧ σ.pos < σ'.pos := by
  unfold content at hc
  simp only at hc
  split at hc
  · rename_i hh; exact endTag_inv h (has_pos hh h.ok) hc
  split at hc
  · rename_i hh; exact comment_inv h (has_pos hh h.ok) hc
  split at hc
  · rename_i hh; exact pi_inv h (has_pos hh h.ok) hc
  split at hc
  · rename_i he
    have hep := eat_pos he
    have h1 := h.eat cdataB
    have hl : (eat s σ cdataB).2.pos = σ.pos + 9 := by rw [hep]; rfl
    have htx : (eat s σ cdataB).2.text = σ.text := by rw [hep]; rfl
    have hgr : (eat s σ cdataB).2.grown = σ.grown := by rw [hep]; rfl
    generalize (eat s σ cdataB).2 = σe at *
    split at hc
    · rename_i hu
      have h2 := h1.upto [93, 93, 62]
      have hq : (upto s σe [93, 93, 62]).2.pos = σe.pos + (upto s σe [93, 93, 62]).1.1.length + 3 := by
        unfold upto at hu ⊢
        simp only at hu ⊢
        rw [if_pos hu]
        rfl
      have htx2 : (upto s σe [93, 93, 62]).2.text = σe.text := (Kept.upto s σe [93, 93, 62]).text
      have hgr2 := upto_grown s σe [93, 93, 62]
      have := put_inv h2 (by rw [htx2, htx, hgr2, hgr]; have := h.txt; omega) (Nat.le_of_lt hp) hc
      exact ⟨this.1, by omega⟩
    · cases hc
  · rename_i he
    have he' : (eat s σ cdataB).1 = false := by simpa using he
    rw [eat_no he'] at hc
    split at hc
    · exact tag_inv h hp hc
    split at hc
    · split at hc
      · cases hc
      · rename_i t σ1 hr
        have h1 := refM_inv h hr
        have := put_inv h1.1 (by rw [h1.2.2]; have := refM_len hr h.ok; have := h.txt; omega) (Nat.le_of_lt hp) hc
        exact ⟨this.1, by omega⟩
    split at hc
    · cases hc
    · split at hc
      · cases hc
      · rename_i σ1 hpt
        cases hc
        have hb : σ.text.length + 1 ≤ 1048576 := by have := h.txt; have := h.ok.pos; have := h.ok.size; have := h.ok.grown; omega
        have hx : σ1.pos = σ.pos ∧ σ1.grown = σ.grown ∧ σ1.ents = σ.ents ∧ σ1.text.length ≤ σ.text.length + 1 ∧ σ1.toks = σ.toks ∧ σ1.opn = σ.opn ∧ σ1.beg ≤ s.size := by
          unfold put at hpt
          split at hpt
          · split at hpt
            · cases hpt; exact ⟨rfl, rfl, rfl, by simp, rfl, rfl, Nat.le_of_lt hp⟩
            · cases hpt
          · cases hpt; exact ⟨rfl, rfl, rfl, by simp, rfl, rfl, h.ok.beg⟩
        obtain ⟨x1, x2, x3, x4, x5, x6, x7⟩ := hx
        refine ⟨⟨⟨h.ok.size, by show σ1.pos + 1 ≤ _; omega, by show σ1.toks.length ≤ _; rw [x5]; exact h.ok.toks, by show σ1.opn.length ≤ _; rw [x6]; exact h.ok.opn, by show σ1.text.length ≤ _; omega, x7, by show σ1.grown ≤ _; rw [x2]; exact h.ok.grown⟩, by show EntsOk σ1.ents; rw [x3]; exact h.ents, ?_⟩, by show σ.pos < σ1.pos + 1; omega⟩
        show σ1.text.length ≤ 4 * (σ1.pos + 1) + σ1.grown
        have := h.txt
        omega

theorem blanks_pos (h : (blanks s σ).1 = true) : σ.pos < (blanks s σ).2.pos := by
  unfold blanks at h ⊢
  simpa [St.to] using h

theorem beside_inv (h : Inv s σ) (_hp : σ.pos < s.size) {typed t : Bool} (hc : beside s σ typed = .ok (t, σ')) : Inv s σ' ∧ σ.pos < σ'.pos := by
  unfold beside at hc
  simp only at hc
  have hb := h.blanks
  have hk := (Kept.blanks h.ok).pos
  split at hc
  · rename_i h1
    cases hc
    exact ⟨hb, blanks_pos h1⟩
  split at hc
  · rename_i hh
    split at hc
    · cases hc
    · rename_i σ1 h1
      cases hc
      have := comment_inv hb (has_pos hh hb.ok) h1
      exact ⟨this.1, by omega⟩
  split at hc
  · rename_i hh
    split at hc
    · cases hc
    · rename_i σ1 h1
      cases hc
      have := pi_inv hb (has_pos hh hb.ok) h1
      exact ⟨this.1, by omega⟩
  split at hc
  · rename_i hh
    split at hc
    · cases hc
    · split at hc
      · cases hc
      · rename_i σ1 h1
        cases hc
        have := doctype_inv hb (has_pos hh hb.ok) h1
        exact ⟨this.1, by omega⟩
  split at hc
  · cases hc
  · rename_i hh
    have hh' : has s (blanks s σ).2 [60] = true := by
      cases hx : has s (blanks s σ).2 [60]
      · rw [hx] at hh; simp at hh
      · rfl
    split at hc
    · cases hc
    · rename_i σ1 h1
      cases hc
      have := tag_inv hb (has_pos hh' hb.ok) h1
      exact ⟨this.1, by omega⟩
end
end Go.Proofs.YtahfcgjlcdbnjaaGreatDoor

