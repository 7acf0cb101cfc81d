/- A small separation logic over the model's heap: what is known of a world's memory is a list of assertions on pieces that do not meet; the rest of the list is the frame. -/
import Derived.WalkKit
import Derived.Deep.Draws
namespace Go.Proofs.YtalmkfikfmpmoaaGreatDoor
open Go.RowKit

/-- A piece of a heap. -/
def PHeap : Type := Nat → Option Obj
/-- What is said of a piece. -/
def Asn : Type := PHeap → Prop
namespace Asn
def emp : Asn := fun h => ∀ k, h k = none
def star (A B : Asn) : Asn := fun h => ∃ h1 h2 : PHeap, A h1 ∧ B h2 ∧ (∀ k o, h k = some o ↔ (h1 k = some o ∨ h2 k = some o)) ∧ ∀ k, h1 k = none ∨ h2 k = none
def pts (b : Nat) (o : Obj) : Asn := fun h => ∀ k o', h k = some o' ↔ (k = b ∧ o' = o)
def ex {α : Type} (A : α → Asn) : Asn := fun h => ∃ x, A x h
def pure (p : Prop) : Asn := fun h => p ∧ emp h
def all : List Asn → Asn
  | [] => emp
  | A :: L => star A (all L)
end Asn

/-- The heap's pieces in a world, beside what never turns since the world W: the streams, the tape, and all the memory that was there; the pieces lie behind that. -/
structure Hold (W w : World) (L : List Asn) : Prop where
  old : Below W.heap.size W w
  heap : ∃ h, Asn.all L h ∧ ∀ k o, h k = some o → W.heap.size ≤ k ∧ w.heap[k]? = some o

theorem Asn.star_comm {A B : Asn} {h : PHeap} (x : Asn.star A B h) : Asn.star B A h := by
  obtain ⟨h1, h2, a, b, e, d⟩ := x
  exact ⟨h2, h1, b, a, fun k o => (e k o).trans or_comm, fun k => (d k).symm⟩

theorem Asn.star_assoc {A B C : Asn} {h : PHeap} (x : Asn.star A (Asn.star B C) h) : Asn.star (Asn.star A B) C h := by
  obtain ⟨h1, h23, a, ⟨h2, h3, b, c, e', d'⟩, e, d⟩ := x
  have n2 : ∀ k, h23 k = none → h2 k = none := fun k hk => by
    cases h : h2 k with
    | none => rfl
    | some o => rw [(e' k o).2 (.inl h)] at hk; cases hk
  have n3 : ∀ k, h23 k = none → h3 k = none := fun k hk => by
    cases h : h3 k with
    | none => rfl
    | some o => rw [(e' k o).2 (.inr h)] at hk; cases hk
  refine ⟨fun k => (h1 k).or (h2 k), h3, ⟨h1, h2, a, b, ?_, ?_⟩, c, ?_, ?_⟩
  · intro k o
    rcases d k with z | z
    · simp [z]
    · simp [n2 k z]
  · intro k; rcases d k with z | z
    · exact .inl z
    · exact .inr (n2 k z)
  · intro k o
    rw [e k o, e' k o]
    rcases d k with z | z
    · simp [z]
    · simp [n2 k z, n3 k z]
  · intro k
    rcases d k with z | z
    · simp only [z, Option.none_or]; exact d' k
    · exact .inr (n3 k z)

theorem Asn.star_assoc' {A B C : Asn} {h : PHeap} (x : Asn.star (Asn.star A B) C h) : Asn.star A (Asn.star B C) h :=
  Asn.star_comm (Asn.star_assoc (Asn.star_comm (Asn.star_assoc (Asn.star_comm x))))

theorem Asn.star_mono {A A' B B' : Asn} {h : PHeap} (ha : ∀ h, A h → A' h) (hb : ∀ h, B h → B' h) (x : Asn.star A B h) : Asn.star A' B' h := by
  obtain ⟨h1, h2, a, b, r⟩ := x; exact ⟨h1, h2, ha _ a, hb _ b, r⟩

theorem Asn.star_emp {A : Asn} {h : PHeap} (x : Asn.star Asn.emp A h) : A h := by
  obtain ⟨h1, h2, a, b, e, d⟩ := x
  have : h = h2 := by
    funext k
    cases hk : h2 k with
    | some o => exact (e k o).2 (.inr hk)
    | none =>
      cases hh : h k with
      | none => rfl
      | some o => rcases (e k o).1 hh with z | z
                  · rw [a k] at z; cases z
                  · rw [hk] at z; cases z
  rw [this]; exact b

theorem Asn.emp_star {A : Asn} {h : PHeap} (x : A h) : Asn.star Asn.emp A h :=
  ⟨fun _ => none, h, fun _ => rfl, x, fun k o => by simp, fun k => .inl rfl⟩

theorem Asn.all_perm {L L' : List Asn} (p : L.Perm L') : ∀ h, Asn.all L h → Asn.all L' h := by
  induction p with
  | nil => exact fun _ h => h
  | cons A _ ih => exact fun h x => Asn.star_mono (fun _ a => a) ih x
  | swap A B l => exact fun h x => Asn.star_assoc' (Asn.star_mono (fun _ y => Asn.star_comm y) (fun _ y => y) (Asn.star_assoc x))
  | trans _ _ i1 i2 => exact fun h x => i2 h (i1 h x)

theorem Asn.spill : ∀ (As L : List Asn) (h : PHeap), Asn.star (Asn.all As) (Asn.all L) h → Asn.all (As ++ L) h
  | [], _, _, x => Asn.star_emp x
  | _ :: As, L, _, x => Asn.star_mono (fun _ a => a) (fun h b => Asn.spill As L h b) (Asn.star_assoc' x)
theorem Asn.soak : ∀ (As L : List Asn) (h : PHeap), Asn.all (As ++ L) h → Asn.star (Asn.all As) (Asn.all L) h
  | [], _, _, x => Asn.emp_star x
  | _ :: As, L, _, x => Asn.star_assoc (Asn.star_mono (fun _ a => a) (fun h b => Asn.soak As L h b) x)

namespace Hold
variable {W w : World} {L : List Asn} {A B C D E F G : Asn}

theorem mk' {w' : World} {L' : List Asn} (x : Hold W w L) (o : Below W.heap.size w w')
    (hh : ∀ h, Asn.all L h → (∀ k o, h k = some o → W.heap.size ≤ k ∧ w.heap[k]? = some o) → ∃ h', Asn.all L' h' ∧ ∀ k o, h' k = some o → W.heap.size ≤ k ∧ w'.heap[k]? = some o) : Hold W w' L' := by
  obtain ⟨a, h, d, e⟩ := x
  exact ⟨a.trans o, hh h d e⟩

theorem keep {w' : World} (o : w'.os = w.os) (t : w'.tape = w.tape) (p : w'.output = w.output) (hs : w.heap.size ≤ w'.heap.size) (hh : ∀ k, k < W.heap.size → w'.heap[k]? = w.heap[k]?) : Below W.heap.size w w' :=
  ⟨o, t, p, hs, hh⟩

theorem imp {L' : List Asn} (hL : ∀ h, Asn.all L h → Asn.all L' h) (x : Hold W w L) : Hold W w L' :=
  x.mk' (Below.refl _ _) fun h a b => ⟨h, hL h a, b⟩

theorem perm {L' : List Asn} (x : Hold W w L) (p : L.Perm L') : Hold W w L' := x.imp (Asn.all_perm p)

theorem f1 (x : Hold W w (A :: B :: L)) : Hold W w (B :: A :: L) := x.perm (List.Perm.swap _ _ _)
theorem f2 (x : Hold W w (A :: B :: C :: L)) : Hold W w (C :: A :: B :: L) :=
  x.perm ((List.Perm.cons _ (List.Perm.swap _ _ _)).trans (List.Perm.swap _ _ _))
theorem f3 (x : Hold W w (A :: B :: C :: D :: L)) : Hold W w (D :: A :: B :: C :: L) :=
  (x.perm (List.Perm.cons _ ((List.Perm.cons _ (List.Perm.swap _ _ _)).trans (List.Perm.swap _ _ _)))).f1
theorem f4 (x : Hold W w (A :: B :: C :: D :: E :: L)) : Hold W w (E :: A :: B :: C :: D :: L) :=
  (x.perm (List.Perm.cons _ ((List.Perm.cons _ ((List.Perm.cons _ (List.Perm.swap _ _ _)).trans (List.Perm.swap _ _ _))).trans (List.Perm.swap _ _ _)))).f1
/-- The first one goes behind the second, the third, .. -/
theorem b2 (x : Hold W w (A :: B :: C :: L)) : Hold W w (B :: C :: A :: L) := x.f2.f2
theorem b3 (x : Hold W w (A :: B :: C :: D :: L)) : Hold W w (B :: C :: D :: A :: L) := x.f3.f3.f3
theorem b4 (x : Hold W w (A :: B :: C :: D :: E :: L)) : Hold W w (B :: C :: D :: E :: A :: L) := x.f4.f4.f4.f4

theorem mono (hA : ∀ h, A h → B h) (x : Hold W w (A :: L)) : Hold W w (B :: L) :=
  x.imp fun h a => by
    have a : Asn.star A (Asn.all L) h := a
    exact Asn.star_mono hA (fun _ b => b) a

theorem drop (x : Hold W w (A :: L)) : Hold W w L :=
  x.mk' (Below.refl _ _) fun h a b => by
    obtain ⟨h1, h2, _, a2, e, _⟩ := a
    exact ⟨h2, a2, fun k o hk => b k o ((e k o).2 (.inr hk))⟩

theorem ex {α : Type} {P : α → Asn} (x : Hold W w (Asn.ex P :: L)) : ∃ a, Hold W w (P a :: L) := by
  obtain ⟨a, h, ⟨h1, h2, ⟨y, p⟩, r⟩, e⟩ := x
  exact ⟨y, a, h, ⟨h1, h2, p, r⟩, e⟩
theorem ex' {α : Type} {P : α → Asn} (a : α) (x : Hold W w (P a :: L)) : Hold W w (Asn.ex P :: L) := x.mono fun _ p => ⟨a, p⟩

theorem sep (x : Hold W w (Asn.star A B :: L)) : Hold W w (A :: B :: L) := x.imp fun h a => by
  have a : Asn.star (Asn.star A B) (Asn.all L) h := a
  exact Asn.star_assoc' a
theorem sep' (x : Hold W w (A :: B :: L)) : Hold W w (Asn.star A B :: L) := x.imp fun h a => by
  have a : Asn.star A (Asn.star B (Asn.all L)) h := a
  exact Asn.star_assoc a

/-- A list of pieces as one piece, and back. -/
theorem spill {As : List Asn} (x : Hold W w (Asn.all As :: L)) : Hold W w (As ++ L) := x.imp fun h a => by
  have a : Asn.star (Asn.all As) (Asn.all L) h := a
  exact Asn.spill As L h a
theorem soak {As : List Asn} (x : Hold W w (As ++ L)) : Hold W w (Asn.all As :: L) := x.imp fun h a => Asn.soak As L h a

theorem take_range (Ls : List Asn) (n : Nat) (h : n ≤ Ls.length) : (List.range n).map (fun i => Ls.getD i Asn.emp) = Ls.take n := by
  apply List.ext_getElem
  · simp [h]
  · intro i h1 h2
    simp at h1
    simp [List.getElem?_eq_getElem (show i < Ls.length by omega)]

/-- The pieces in another order: the first ones by their places. -/
theorem re {Ls : List Asn} (x : Hold W w Ls) (is : List Nat) (hp : is.isPerm (List.range is.length) = true := by decide) (hl : is.length ≤ Ls.length := by simp) :
    Hold W w (is.map (fun i => Ls.getD i Asn.emp) ++ Ls.drop is.length) := by
  refine x.perm ?_
  have h1 := (List.isPerm_iff.1 hp).map (fun i => Ls.getD i Asn.emp)
  rw [take_range Ls _ hl] at h1
  have h2 := h1.append_right (Ls.drop is.length)
  rw [List.take_append_drop] at h2
  exact h2.symm

/-- One piece more at the list's end. -/
theorem gulp {As : List Asn} (x : Hold W w (Asn.all As :: A :: L)) : Hold W w (Asn.all (As ++ [A]) :: L) := by
  have y := x.spill
  rw [show As ++ A :: L = (As ++ [A]) ++ L by simp] at y
  exact y.soak

theorem pure {p : Prop} (x : Hold W w (Asn.pure p :: L)) : p ∧ Hold W w L := by
  refine ⟨?_, x.drop⟩
  obtain ⟨_, h, ⟨h1, h2, ⟨y, _⟩, r⟩, e⟩ := x
  exact y
theorem pure' {p : Prop} (hp : p) (x : Hold W w L) : Hold W w (Asn.pure p :: L) := x.imp fun _ a => Asn.star_mono (fun _ b => ⟨hp, b⟩) (fun _ b => b) (Asn.emp_star a)

theorem emp' (x : Hold W w L) : Hold W w (Asn.emp :: L) := x.imp fun _ a => Asn.emp_star a

theorem block {b : Nat} {o : Obj} (x : Hold W w (Asn.pts b o :: L)) : w.heap[b]? = some o := by
  obtain ⟨_, h, ⟨h1, h2, p, _, e, _⟩, r⟩ := x
  exact (r b o ((e b o).2 (.inl ((p b o).2 ⟨rfl, rfl⟩)))).2

theorem far {b : Nat} {o : Obj} (x : Hold W w (Asn.pts b o :: L)) : W.heap.size ≤ b := by
  obtain ⟨_, h, ⟨h1, h2, p, _, e, _⟩, r⟩ := x
  exact (r b o ((e b o).2 (.inl ((p b o).2 ⟨rfl, rfl⟩)))).1

theorem cell {b : Nat} {cs : Array Value} {T : TypeId} {fz : Nat × Nat} (x : Hold W w (Asn.pts b (.cells cs T fz) :: L)) (i : Nat) : w.cell? ⟨b, i, none⟩ = cs[i]? := by
  simp [World.cell?, x.block]

theorem free {b : Nat} {cs : Array Value} {T : TypeId} (x : Hold W w (Asn.pts b (.cells cs T (0, 0)) :: L)) (i : Nat) : w.frozen? ⟨b, i, none⟩ = false := by
  simp [World.frozen?, x.block]

/-- Two blocks of two pieces are two. -/
theorem ne {b c : Nat} {o o' : Obj} (x : Hold W w (Asn.pts b o :: Asn.pts c o' :: L)) : b ≠ c := by
  rintro rfl
  obtain ⟨_, h, ⟨h1, h2, p, ⟨h3, h4, q, _, e', _⟩, e, d⟩, r⟩ := x
  have := (p b o).2 ⟨rfl, rfl⟩
  rcases d b with z | z
  · rw [z] at this; cases this
  · rw [(e' b o').2 (.inl ((q b o').2 ⟨rfl, rfl⟩))] at z; cases z

theorem lt (x : Hold W w L) : W.heap.size ≤ w.heap.size := x.old.size

theorem same {w' : World} (x : Hold W w L) (o : w'.os = w.os) (t : w'.tape = w.tape) (p : w'.output = w.output) (hh : w'.heap = w.heap) : Hold W w' L :=
  x.mk' ⟨o, t, p, by rw [hh]; exact Nat.le_refl _, fun k _ => by rw [hh]⟩ fun h a b => ⟨h, a, fun k o hk => by rw [hh]; exact b k o hk⟩
theorem drew (x : Hold W w L) : Hold W w.drew L := x.same rfl rfl rfl rfl
theorem drewN (x : Hold W w L) (n : Nat) : Hold W (w.drewN n) L := x.same rfl rfl rfl rfl

/-- What was there stands as it stood. -/
theorem kept {w' : World} (x : Hold W w L) (o : w'.os = w.os) (t : w'.tape = w.tape) (p : w'.output = w.output) (hs : w.heap.size ≤ w'.heap.size) (hh : ∀ k, k < w.heap.size → w'.heap[k]? = w.heap[k]?) : Hold W w' L :=
  x.mk' ⟨o, t, p, hs, fun k hk => hh k (Nat.lt_of_lt_of_le hk x.lt)⟩ fun h a b => ⟨h, a, fun k o hk => by have := b k o hk; refine ⟨this.1, ?_⟩; rw [hh k (Array.getElem?_eq_some_iff.1 this.2).1]; exact this.2⟩
theorem below {w' : World} (x : Hold W w L) (h : Below w.heap.size w w') : Hold W w' L := x.kept h.os h.tape h.output h.size h.block

/-- A new block. -/
theorem fresh {w' : World} {o : Obj} (x : Hold W w L) (os : w'.os = w.os) (t : w'.tape = w.tape) (p : w'.output = w.output) (hs : w.heap.size ≤ w'.heap.size)
    (hnew : w'.heap[w.heap.size]? = some o) (hh : ∀ k, k < w.heap.size → w'.heap[k]? = w.heap[k]?) : Hold W w' (Asn.pts w.heap.size o :: L) :=
  x.mk' ⟨os, t, p, hs, fun k hk => hh k (Nat.lt_of_lt_of_le hk x.lt)⟩ fun h a b => by
    have hn : h w.heap.size = none := by
      cases z : h w.heap.size with
      | none => rfl
      | some o => have := (b _ _ z).2; simp at this
    refine ⟨fun k => if k = w.heap.size then some o else h k, ⟨fun k => if k = w.heap.size then some o else none, h, ?_, a, ?_, ?_⟩, ?_⟩
    · intro k o'; by_cases hk : k = w.heap.size <;> simp [hk, eq_comm]
    · intro k o'
      by_cases hk : k = w.heap.size
      · simp [hk, hn]
      · simp [hk]
    · intro k
      by_cases hk : k = w.heap.size
      · right; rw [hk]; exact hn
      · left; simp [hk]
    · intro k o' hk
      by_cases hk' : k = w.heap.size
      · subst hk'; simp only [if_true] at hk; rw [← hk]; exact ⟨x.lt, hnew⟩
      · simp only [hk', if_false] at hk
        have := b k o' hk
        refine ⟨this.1, ?_⟩
        rw [hh k (Array.getElem?_eq_some_iff.1 this.2).1]; exact this.2

theorem alloc (x : Hold W w L) (o : Obj) : Hold W (w.alloc o) (Asn.pts w.heap.size o :: L) :=
  x.fresh rfl rfl rfl (by simp) (heap_alloc_new w _) fun k hk => Below.heap_alloc w _ k hk

/-- One block is another object behind the step; the others stand as they stood. -/
theorem put {w' : World} {b : Nat} {o o' : Obj} (x : Hold W w (Asn.pts b o :: L)) (os : w'.os = w.os) (t : w'.tape = w.tape) (p : w'.output = w.output) (hs : w.heap.size ≤ w'.heap.size)
    (hb : w'.heap[b]? = some o') (hh : ∀ k, k < w.heap.size → k ≠ b → w'.heap[k]? = w.heap[k]?) : Hold W w' (Asn.pts b o' :: L) := by
  have hfar := x.far
  refine x.mk' ⟨os, t, p, hs, fun k hk => hh k (Nat.lt_of_lt_of_le hk x.lt) (by omega)⟩ fun h a r => ?_
  obtain ⟨h1, h2, q, a2, e, d⟩ := a
  have hb2 : h2 b = none := by
    rcases d b with z | z
    · rw [(q b o).2 ⟨rfl, rfl⟩] at z; cases z
    · exact z
  refine ⟨fun k => if k = b then some o' else h2 k, ⟨fun k => if k = b then some o' else none, h2, ?_, a2, ?_, ?_⟩, ?_⟩
  · intro k o''; by_cases hk : k = b <;> simp [hk, eq_comm]
  · intro k o''
    by_cases hk : k = b
    · simp [hk, hb2]
    · simp [hk]
  · intro k
    by_cases hk : k = b
    · right; rw [hk]; exact hb2
    · left; simp [hk]
  · intro k o'' hk
    by_cases hk' : k = b
    · subst hk'; simp only [if_true] at hk; rw [← hk]; exact ⟨hfar, hb⟩
    · simp only [hk', if_false] at hk
      have := r k o'' ((e k o'').2 (.inr hk))
      refine ⟨this.1, ?_⟩
      rw [hh k (Array.getElem?_eq_some_iff.1 this.2).1 hk']; exact this.2

theorem set {b : Nat} {cs : Array Value} {T : TypeId} {fz : Nat × Nat} (x : Hold W w (Asn.pts b (.cells cs T fz) :: L)) (i : Nat) (v : Value) :
    Hold W (w.setCell ⟨b, i, none⟩ v) (Asn.pts b (.cells (cs.setIfInBounds i v) T fz) :: L) :=
  x.put rfl rfl rfl (by simp) (by simp [World.setCell, Array.getElem?_modify, x.block]) fun k _ hk => Below.heap_setCell _ _ _ _ hk

/-- A new block in a world that is not spelled as one. -/
theorem allocAt {w' : World} {o : Obj} {b : Nat} (x : Hold W w L) (hw : w' = w.alloc o) (hb : b = w.heap.size) : Hold W w' (Asn.pts b o :: L) := by subst hw; subst hb; exact x.alloc o

end Hold

theorem Hold.start (W : World) : Hold W W [] :=
  ⟨Below.refl _ _, fun _ => none, fun _ => rfl, fun _ _ h => by cases h⟩

/-- What was there in W reads as it did. -/
theorem Hold.oldCell {W w : World} {L : List Asn} (x : Hold W w L) {a : Addr} {v : Value} (h : W.cell? a = some v) : w.cell? a = some v :=
  (x.old.cell (World.block_lt_of_cell? W a h)).trans h
theorem Hold.oldBlock {W w : World} {L : List Asn} (x : Hold W w L) {b : Nat} {o : Obj} (h : W.heap[b]? = some o) : w.heap[b]? = some o :=
  (x.old.block b (Array.getElem?_eq_some_iff.1 h).1).trans h

end Go.Proofs.YtalmkfikfmpmoaaGreatDoor
