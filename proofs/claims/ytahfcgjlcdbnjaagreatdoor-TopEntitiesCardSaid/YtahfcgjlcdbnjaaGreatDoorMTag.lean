/- The scanner's tag: what the passing of words keeps, and the tag's attributes. -/
import Derived.Test.YtahfcgjlcdbnjaaGreatDoorMVal2
import Derived.Test.YtahfcgjlcdbnjaaGreatDoorMScn5
namespace Go.Proofs.YtahfcgjlcdbnjaaGreatDoor
open Go.RowKit

/-- Beside its place and its growth a scanner's state is the same, and the place is no earlier. -/
structure Kept (σ σ' : St) : Prop where
  pos : σ.pos ≤ σ'.pos
  ents : σ'.ents = σ.ents
  opn : σ'.opn = σ.opn
  toks : σ'.toks = σ.toks
  text : σ'.text = σ.text
  beg : σ'.beg = σ.beg
  ended : σ'.ended = σ.ended

theorem Kept.rfl' (σ : St) : Kept σ σ := ⟨Nat.le_refl _, rfl, rfl, rfl, rfl, rfl, rfl⟩
theorem Kept.trans {a b c : St} (h : Kept a b) (k : Kept b c) : Kept a c :=
  ⟨Nat.le_trans h.pos k.pos, k.ents.trans h.ents, k.opn.trans h.opn, k.toks.trans h.toks, k.text.trans h.text, k.beg.trans h.beg, k.ended.trans h.ended⟩
theorem Kept.to (σ : St) (p : Nat) (hp : σ.pos ≤ p) : Kept σ (σ.to p) := ⟨hp, rfl, rfl, rfl, rfl, rfl, rfl⟩

section
variable {s : ByteArray} {σ : St}

theorem Kept.blanks (h : Ok s σ) : Kept σ (blanks s σ).2 := by
  refine Kept.to σ _ ?_
  have := trimB_le (rest s σ)
  rw [rest_length] at this
  have := h.pos
  omega
theorem Kept.eat (s : ByteArray) (σ : St) (t : Bytes) : Kept σ (eat s σ t).2 := by
  unfold Go.Proofs.YtahfcgjlcdbnjaaGreatDoor.eat
  split
  · exact Kept.to σ _ (Nat.le_add_right _ _)
  · exact Kept.rfl' σ
theorem Kept.qname (s : ByteArray) (σ : St) : Kept σ (qname s σ).2 := Kept.to σ _ (Nat.le_add_right _ _)
theorem Kept.name (s : ByteArray) (σ : St) : Kept σ (name s σ).2 := Kept.to σ _ (Nat.le_add_right _ _)
theorem Kept.equal (h : Ok s σ) : Kept σ (equal s σ).2 :=
  ((Kept.blanks h).trans (Kept.eat s _ _)).trans (Kept.blanks ((h.blanks).eat _))
theorem Kept.sign (s : ByteArray) (σ : St) : Kept σ (sign s σ).2 := by
  unfold Go.Proofs.YtahfcgjlcdbnjaaGreatDoor.sign
  split
  · exact Kept.to σ _ (Nat.le_add_right _ _)
  · split
    · exact Kept.to σ _ (Nat.le_add_right _ _)
    · exact Kept.rfl' σ
theorem Kept.refM {attr : Bool} {t : Bytes} {σ' : St} (h : refM s σ attr = .ok (t, σ')) (hk : Ok s σ) : Kept σ σ' := by
  obtain ⟨_, h2, h3, _, h5, h6, h7, h8, h9⟩ := refM_parts h hk
  exact ⟨Nat.le_of_lt h3, h2, h6, h5, h7, h8, h9⟩

theorem valueL_parts (sg : Bytes) (n : Nat) : ∀ (σ : St) (o : Bytes) (r : Bytes × Bool) (σ' : St), valueL sg s n σ o = .ok (r, σ') → Ok s σ → Ok s σ' ∧ Kept σ σ' := by
  induction n with
  | zero => intro σ o r σ' h hk; cases h; exact ⟨hk, Kept.rfl' _⟩
  | succ n ih =>
    intro σ o r σ' h hk
    simp only [valueL] at h
    split at h
    · rename_i hlt
      split at h
      · rename_i hh
        cases h
        have := hasPrefix_length hh
        rw [rest_length] at this
        exact ⟨hk.to (by omega), Kept.to σ _ (Nat.le_add_right _ _)⟩
      · split at h
        · cases h; exact ⟨hk, Kept.rfl' _⟩
        · split at h
          · split at h
            · cases h
            · rename_i t σ1 hr
              have hk1 := (refM_parts hr hk).1
              have h1 := ih _ _ _ _ h hk1
              exact ⟨h1.1, (Kept.refM hr hk).trans h1.2⟩
          · have hk1 : Ok s (σ.to (σ.pos + 1)) := hk.to (by omega)
            split at h
            all_goals
              have h1 := ih _ _ _ _ h hk1
              exact ⟨h1.1, (Kept.to σ _ (Nat.le_succ _)).trans h1.2⟩
    · cases h; exact ⟨hk, Kept.rfl' _⟩

theorem sign_pos (h : (sign s σ).1.2 = true) : σ.pos < (sign s σ).2.pos := by
  unfold sign at *
  split
  · exact Nat.lt_succ_self _
  · split
    · exact Nat.lt_succ_self _
    · rename_i h1 h2
      simp [h1, h2] at h

theorem value_parts {r : Bytes × Bool} {σ' : St} (h : value s σ = .ok (r, σ')) (hk : Ok s σ) : Ok s σ' ∧ Kept σ σ' ∧ (r.2 = true → σ.pos < σ'.pos) := by
  unfold value at h
  simp only at h
  split at h
  · rename_i hs
    have h1 := valueL_parts _ _ _ _ _ _ h hk.sign
    exact ⟨h1.1, (Kept.sign s σ).trans h1.2, fun _ => Nat.lt_of_lt_of_le (sign_pos hs) h1.2.pos⟩
  · cases h
    exact ⟨hk.sign, Kept.sign s σ, fun q => by cases q⟩

/-- A tag's attributes. -/
def tagL (s : ByteArray) (p : Int) : Nat → St → List (Bytes × Bytes) → M (List (Bytes × Bytes))
  | 0, _, _ => .error (5, p)
  | n + 1, σ, az =>
    if (blanks s σ).2.pos < s.size then
      if has s (blanks s σ).2 [62] || has s (blanks s σ).2 [47, 62] then .ok (az, (blanks s σ).2)
      else
        let q := qname s (blanks s σ).2
        let e := equal s q.2
        if (blanks s σ).1 && q.1.2 && e.1 then
          if named az q.1.1 then .error (5, p)
          else match value s e.2 with
            | .error x => .error x
            | .ok ((v, ok), σv) => if ok then tagL s p n σv (az ++ [(q.1.1, v)]) else .error (5, p)
        else .error (5, p)
    else .error (5, p)

theorem tagL_parts (p : Int) (n : Nat) : ∀ (σ : St) (az r : List (Bytes × Bytes)) (σ' : St), tagL s p n σ az = .ok (r, σ') → Ok s σ →
    Ok s σ' ∧ Kept σ σ' ∧ σ'.pos < s.size ∧ (has s σ' [62] || has s σ' [47, 62]) = true := by
  induction n with
  | zero => intro σ az r σ' h; cases h
  | succ n ih =>
    intro σ az r σ' h hk
    simp only [tagL] at h
    split at h
    · rename_i hlt
      split at h
      · rename_i hh
        cases h
        exact ⟨hk.blanks, Kept.blanks hk, hlt, hh⟩
      · split at h
        · split at h
          · cases h
          · split at h
            · cases h
            · rename_i v ok σv hv
              split at h
              · have hke := (hk.blanks.qname).equal
                have h0 := value_parts hv hke
                have h1 := ih _ _ _ _ h h0.1
                exact ⟨h1.1, ((((Kept.blanks hk).trans (Kept.qname s _)).trans (Kept.equal hk.blanks.qname)).trans h0.2.1).trans h1.2.1, h1.2.2⟩
              · cases h
        · cases h
    · cases h

/-- A tag is passed. -/
def tag (s : ByteArray) (σ : St) : M Unit :=
  let q := qname s (σ.to (σ.pos + 1))
  if q.1.2 then
    match tagL s σ.pos (s.size + 1) q.2 [] with
    | .error x => .error x
    | .ok (az, σ1) =>
      if σ1.opn.length < 32 && az.length ≤ 64 then
        match flushAdd σ1 ⟨2, q.1.1, az, []⟩ σ.pos with
        | .error x => .error x
        | .ok (_, σ2) =>
          if has s σ2 [47, 62] then
            match add (σ2.to (σ2.pos + 2)) ⟨7, q.1.1, [], []⟩ σ.pos with
            | .error x => .error x
            | .ok (_, σ3) => .ok ((), { σ3 with ended := σ3.ended || σ3.opn.length == 0 })
          else .ok ((), { σ2.to (σ2.pos + 1) with opn := σ2.opn ++ [q.1.1] })
      else .error (6, σ.pos)
  else .error (5, σ.pos)
end
end Go.Proofs.YtahfcgjlcdbnjaaGreatDoor

