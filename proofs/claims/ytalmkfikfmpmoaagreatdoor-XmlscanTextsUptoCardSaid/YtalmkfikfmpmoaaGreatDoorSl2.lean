/- More of the separation logic: pieces that are beside each other; a fact of the world that its own blocks bear. -/
import Derived.Test.YtalmkfikfmpmoaaGreatDoorLib
namespace Go.Proofs.YtalmkfikfmpmoaaGreatDoor
open Go.RowKit

/-- A fact of worlds that some blocks bear. -/
def ownOf (P : World → Prop) (S : List (Nat × Obj)) : Asn := Asn.star (Asn.pure (∀ w : World, (∀ p ∈ S, w.heap[p.1]? = some p.2) → P w)) (Asn.all (S.map fun p => Asn.pts p.1 p.2))
def Own (P : World → Prop) : Asn := Asn.ex (ownOf P)

section
variable {W w w' : World} {L M : List Asn}

theorem Hold.join (x : Hold W w L) (y : Hold w w' M) : Hold W w' (M ++ L) := by
  obtain ⟨o1, h1, a1, d1⟩ := x
  obtain ⟨o2, h2, a2, d2⟩ := y
  have hlt : W.heap.size ≤ w.heap.size := o1.size
  have k1 : ∀ k o, h1 k = some o → k < w.heap.size := fun k o h => (Array.getElem?_eq_some_iff.1 (d1 k o h).2).1
  refine ⟨o1.trans ⟨o2.os, o2.tape, o2.output, o2.size, fun k hk => o2.block k (by omega)⟩, fun k => (h2 k).or (h1 k), ?_, ?_⟩
  · refine Asn.spill M L _ ⟨h2, h1, a2, a1, ?_, ?_⟩
    · intro k o
      cases hk : h2 k with
      | none => simp [hk]
      | some o' =>
        have hn : h1 k = none := by
          cases hh : h1 k with
          | none => rfl
          | some o1 => have := k1 k o1 hh; have := (d2 k o' hk).1; omega
        simp [hn, hk]
    · intro k
      cases hk : h2 k with
      | none => exact .inl rfl
      | some o' =>
        right
        cases hh : h1 k with
        | none => rfl
        | some o1 => have := k1 k o1 hh; have := (d2 k o' hk).1; omega
  · intro k o hk
    have hk : (h2 k).or (h1 k) = some o := hk
    cases hk2 : h2 k with
    | none =>
      rw [hk2] at hk
      have hk : h1 k = some o := by simpa using hk
      have := d1 k o hk
      exact ⟨this.1, (o2.block k (k1 k o hk)).trans this.2⟩
    | some o' =>
      rw [hk2] at hk
      obtain rfl : o' = o := by simpa using hk
      have := d2 k o' hk2
      exact ⟨by omega, this.2⟩

theorem Asn.all_blocks : ∀ {S : List (Nat × Obj)} {h : PHeap}, Asn.all (S.map fun p => Asn.pts p.1 p.2) h → ∀ p ∈ S, h p.1 = some p.2
  | [], _, _, p, hp => by cases hp
  | q :: S, h, a, p, hp => by
    obtain ⟨h1, h2, b, c, e, d⟩ := a
    rcases List.mem_cons.1 hp with rfl | hp
    · exact (e _ _).2 (.inl ((b _ _).2 ⟨rfl, rfl⟩))
    · exact (e _ _).2 (.inr (Asn.all_blocks c p hp))

theorem Own.get {P : World → Prop} (x : Hold W w (Own P :: L)) : P w := by
  obtain ⟨S, x⟩ := x.ex
  obtain ⟨hp, x⟩ := x.sep.pure
  refine hp w fun p hpS => ?_
  obtain ⟨_, h, ⟨h1, h2, a, _, e, _⟩, d⟩ := x
  exact (d p.1 p.2 ((e _ _).2 (.inl (Asn.all_blocks a p hpS)))).2

theorem Own.none (x : Hold W w L) : Hold W w (Own (fun _ => True) :: L) :=
  Hold.ex' (P := ownOf fun _ => True) [] (Hold.sep' (Hold.pure' (fun _ _ => trivial) x.emp'))

theorem Own.mono {P Q : World → Prop} (x : Hold W w (Own P :: L)) (h : ∀ w, P w → Q w) : Hold W w (Own Q :: L) :=
  x.mono fun _ a => by
    obtain ⟨S, h1, h2, ⟨p, e⟩, b, r⟩ := a
    exact ⟨S, h1, h2, ⟨fun w hw => h w (p w hw), e⟩, b, r⟩

/-- One block more. -/
theorem Own.block {P Q : World → Prop} {b : Nat} {o : Obj} (x : Hold W w (Asn.pts b o :: Own P :: L)) (h : ∀ w : World, w.heap[b]? = some o → Q w) : Hold W w (Own (fun w => P w ∧ Q w) :: L) := by
  obtain ⟨S, x⟩ := x.f1.ex
  obtain ⟨hp, x⟩ := x.sep.pure
  have y := x.f1
  refine Hold.ex' (P := ownOf fun w => P w ∧ Q w) ((b, o) :: S) ?_
  refine Hold.sep' (Hold.pure' (fun w hw => ⟨hp w fun p hpS => hw p (by simp [hpS]), h w (hw (b, o) (by simp))⟩) ?_)
  exact y.sep'

theorem Own.both {P Q : World → Prop} (x : Hold W w (Own P :: Own Q :: L)) : Hold W w (Own (fun w => P w ∧ Q w) :: L) := by
  obtain ⟨S, x⟩ := x.ex
  obtain ⟨hp, x⟩ := x.sep.pure
  obtain ⟨S', x⟩ := x.f1.ex
  obtain ⟨hq, x⟩ := x.sep.pure
  refine Hold.ex' (P := ownOf fun w => P w ∧ Q w) (S ++ S') ?_
  refine Hold.sep' (Hold.pure' (fun w hw => ⟨hp w fun p hpS => hw p (by simp [hpS]), hq w fun p hpS => hw p (by simp [hpS])⟩) ?_)
  have y := x.f1.spill
  have z : Hold W w ((S.map fun p => Asn.pts p.1 p.2) ++ ((S'.map fun p => Asn.pts p.1 p.2) ++ L)) := y.imp fun h a => by
    have e : ∀ (As : List Asn) (B : Asn), Asn.all (As ++ B :: L) h → Asn.star (Asn.all As) (Asn.star B (Asn.all L)) h := fun As B a => Asn.soak As (B :: L) h a
    refine Asn.spill _ _ h (Asn.star_mono (fun _ b => b) (fun h b => Asn.spill _ _ h b) (e _ _ a))
  rw [← List.append_assoc, ← List.map_append] at z
  exact z.soak
end
end Go.Proofs.YtalmkfikfmpmoaaGreatDoor
