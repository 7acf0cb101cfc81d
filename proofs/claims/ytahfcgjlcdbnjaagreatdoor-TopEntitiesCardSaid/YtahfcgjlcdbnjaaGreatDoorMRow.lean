/- A small separation logic over the model's heap: what is known of a world's memory is a list of assertions on pieces that do not meet; the rest of the list is the frame. -/
import Derived.WalkKit
import Derived.Deep.Draws
import Derived.Maps.AppendAt
import Derived.Lib.AppendStr
import Derived.Deep.RegionHeld2
namespace Go.Proofs.YtahfcgjlcdbnjaaGreatDoor
open Go.RowKit

/-- A piece of a heap. -/
def PHeap : Type := Nat → Option Obj
/-- What is said of a piece. -/
def Asn : Type := PHeap → Prop
namespace Asn
def emp : Asn := fun h => ∀ k, h k = none
def star (A B : Asn) : Asn := fun h => ∃ h1 h2 : PHeap, A h1 ∧ B h2 ∧ (∀ k o, h k = some o ↔ (h1 k = some o ∨ h2 k = some o)) ∧ ∀ k, h1 k = none ∨ h2 k = none
def pts (b : Nat) (o : Obj) : Asn := fun h => ∀ k o', h k = some o' ↔ (k = b ∧ o' = o)
def ex {α : Type} (A : α → Asn) : Asn := fun h => ∃ x, A x h
def pure (p : Prop) : Asn := fun h => p ∧ emp h
def all : List Asn → Asn
  | [] => emp
  | A :: L => star A (all L)
end Asn

/-- The heap's pieces in a world, beside what never turns since the world W: the streams, the tape, and all the memory that was there; the pieces lie behind that. -/
structure Hold (W w : World) (L : List Asn) : Prop where
  old : Below W.heap.size W w
  heap : ∃ h, Asn.all L h ∧ ∀ k o, h k = some o → W.heap.size ≤ k ∧ w.heap[k]? = some o

theorem Asn.star_comm {A B : Asn} {h : PHeap} (x : Asn.star A B h) : Asn.star B A h := by
  obtain ⟨h1, h2, a, b, e, d⟩ := x
  exact ⟨h2, h1, b, a, fun k o => (e k o).trans or_comm, fun k => (d k).symm⟩

theorem Asn.star_assoc {A B C : Asn} {h : PHeap} (x : Asn.star A (Asn.star B C) h) : Asn.star (Asn.star A B) C h := by
  obtain ⟨h1, h23, a, ⟨h2, h3, b, c, e', d'⟩, e, d⟩ := x
  have n2 : ∀ k, h23 k = none → h2 k = none := fun k hk => by
    cases h : h2 k with
    | none => rfl
    | some o => rw [(e' k o).2 (.inl h)] at hk; cases hk
  have n3 : ∀ k, h23 k = none → h3 k = none := fun k hk => by
    cases h : h3 k with
    | none => rfl
    | some o => rw [(e' k o).2 (.inr h)] at hk; cases hk
  refine ⟨fun k => (h1 k).or (h2 k), h3, ⟨h1, h2, a, b, ?_, ?_⟩, c, ?_, ?_⟩
  · intro k o
    rcases d k with z | z
    · simp [z]
    · simp [n2 k z]
  · intro k; rcases d k with z | z
    · exact .inl z
    · exact .inr (n2 k z)
  · intro k o
    rw [e k o, e' k o]
    rcases d k with z | z
    · simp [z]
    · simp [n2 k z, n3 k z]
  · intro k
    rcases d k with z | z
    · simp only [z, Option.none_or]; exact d' k
    · exact .inr (n3 k z)

theorem Asn.star_assoc' {A B C : Asn} {h : PHeap} (x : Asn.star (Asn.star A B) C h) : Asn.star A (Asn.star B C) h :=
  Asn.star_comm (Asn.star_assoc (Asn.star_comm (Asn.star_assoc (Asn.star_comm x))))

theorem Asn.star_mono {A A' B B' : Asn} {h : PHeap} (ha : ∀ h, A h → A' h) (hb : ∀ h, B h → B' h) (x : Asn.star A B h) : Asn.star A' B' h := by
  obtain ⟨h1, h2, a, b, r⟩ := x; exact ⟨h1, h2, ha _ a, hb _ b, r⟩

theorem Asn.star_emp {A : Asn} {h : PHeap} (x : Asn.star Asn.emp A h) : A h := by
  obtain ⟨h1, h2, a, b, e, d⟩ := x
  have : h = h2 := by
    funext k
    cases hk : h2 k with
    | some o => exact (e k o).2 (.inr hk)
    | none =>
      cases hh : h k with
      | none => rfl
      | some o => rcases (e k o).1 hh with z | z
                  · rw [a k] at z; cases z
                  · rw [hk] at z; cases z
  rw [this]; exact b

theorem Asn.emp_star {A : Asn} {h : PHeap} (x : A h) : Asn.star Asn.emp A h :=
  ⟨fun _ => none, h, fun _ => rfl, x, fun k o => by simp, fun k => .inl rfl⟩

theorem Asn.all_perm {L L' : List Asn} (p : L.Perm L') : ∀ h, Asn.all L h → Asn.all L' h := by
  induction p with
  | nil => exact fun _ h => h
  | cons A _ ih => exact fun h x => Asn.star_mono (fun _ a => a) ih x
  | swap A B l => exact fun h x => Asn.star_assoc' (Asn.star_mono (fun _ y => Asn.star_comm y) (fun _ y => y) (Asn.star_assoc x))
  | trans _ _ i1 i2 => exact fun h x => i2 h (i1 h x)

theorem Asn.spill : ∀ (As L : List Asn) (h : PHeap), Asn.star (Asn.all As) (Asn.all L) h → Asn.all (As ++ L) h
  | [], _, _, x => Asn.star_emp x
  | _ :: As, L, _, x => Asn.star_mono (fun _ a => a) (fun h b => Asn.spill As L h b) (Asn.star_assoc' x)
theorem Asn.soak : ∀ (As L : List Asn) (h : PHeap), Asn.all (As ++ L) h → Asn.star (Asn.all As) (Asn.all L) h
  | [], _, _, x => Asn.emp_star x
  | _ :: As, L, _, x => Asn.star_assoc (Asn.star_mono (fun _ a => a) (fun h b => Asn.soak As L h b) x)

namespace Hold
variable {W w : World} {L : List Asn} {A B C D E F G : Asn}

theorem mk' {w' : World} {L' : List Asn} (x : Hold W w L) (o : Below W.heap.size w w')
    (hh : ∀ h, Asn.all L h → (∀ k o, h k = some o → W.heap.size ≤ k ∧ w.heap[k]? = some o) → ∃ h', Asn.all L' h' ∧ ∀ k o, h' k = some o → W.heap.size ≤ k ∧ w'.heap[k]? = some o) : Hold W w' L' := by
  obtain ⟨a, h, d, e⟩ := x
  exact ⟨a.trans o, hh h d e⟩

theorem keep {w' : World} (o : w'.os = w.os) (t : w'.tape = w.tape) (p : w'.output = w.output) (hs : w.heap.size ≤ w'.heap.size) (hh : ∀ k, k < W.heap.size → w'.heap[k]? = w.heap[k]?) : Below W.heap.size w w' :=
  ⟨o, t, p, hs, hh⟩

theorem imp {L' : List Asn} (hL : ∀ h, Asn.all L h → Asn.all L' h) (x : Hold W w L) : Hold W w L' :=
  x.mk' (Below.refl _ _) fun h a b => ⟨h, hL h a, b⟩

theorem perm {L' : List Asn} (x : Hold W w L) (p : L.Perm L') : Hold W w L' := x.imp (Asn.all_perm p)

theorem f1 (x : Hold W w (A :: B :: L)) : Hold W w (B :: A :: L) := x.perm (List.Perm.swap _ _ _)
theorem f2 (x : Hold W w (A :: B :: C :: L)) : Hold W w (C :: A :: B :: L) :=
  x.perm ((List.Perm.cons _ (List.Perm.swap _ _ _)).trans (List.Perm.swap _ _ _))
theorem f3 (x : Hold W w (A :: B :: C :: D :: L)) : Hold W w (D :: A :: B :: C :: L) :=
  (x.perm (List.Perm.cons _ ((List.Perm.cons _ (List.Perm.swap _ _ _)).trans (List.Perm.swap _ _ _)))).f1
theorem f4 (x : Hold W w (A :: B :: C :: D :: E :: L)) : Hold W w (E :: A :: B :: C :: D :: L) :=
  (x.perm (List.Perm.cons _ ((List.Perm.cons _ ((List.Perm.cons _ (List.Perm.swap _ _ _)).trans (List.Perm.swap _ _ _))).trans (List.Perm.swap _ _ _)))).f1
/-- The first one goes behind the second, the third, .. -/
theorem b2 (x : Hold W w (A :: B :: C :: L)) : Hold W w (B :: C :: A :: L) := x.f2.f2
theorem b3 (x : Hold W w (A :: B :: C :: D :: L)) : Hold W w (B :: C :: D :: A :: L) := x.f3.f3.f3
theorem b4 (x : Hold W w (A :: B :: C :: D :: E :: L)) : Hold W w (B :: C :: D :: E :: A :: L) := x.f4.f4.f4.f4

theorem mono (hA : ∀ h, A h → B h) (x : Hold W w (A :: L)) : Hold W w (B :: L) :=
  x.imp fun h a => by
    have a : Asn.star A (Asn.all L) h := a
    exact Asn.star_mono hA (fun _ b => b) a

theorem drop (x : Hold W w (A :: L)) : Hold W w L :=
  x.mk' (Below.refl _ _) fun h a b => by
    obtain ⟨h1, h2, _, a2, e, _⟩ := a
    exact ⟨h2, a2, fun k o hk => b k o ((e k o).2 (.inr hk))⟩

theorem ex {α : Type} {P : α → Asn} (x : Hold W w (Asn.ex P :: L)) : ∃ a, Hold W w (P a :: L) := by
  obtain ⟨a, h, ⟨h1, h2, ⟨y, p⟩, r⟩, e⟩ := x
  exact ⟨y, a, h, ⟨h1, h2, p, r⟩, e⟩
theorem ex' {α : Type} {P : α → Asn} (a : α) (x : Hold W w (P a :: L)) : Hold W w (Asn.ex P :: L) := x.mono fun _ p => ⟨a, p⟩

theorem sep (x : Hold W w (Asn.star A B :: L)) : Hold W w (A :: B :: L) := x.imp fun h a => by
  have a : Asn.star (Asn.star A B) (Asn.all L) h := a
  exact Asn.star_assoc' a
theorem sep' (x : Hold W w (A :: B :: L)) : Hold W w (Asn.star A B :: L) := x.imp fun h a => by
  have a : Asn.star A (Asn.star B (Asn.all L)) h := a
  exact Asn.star_assoc a

/-- A list of pieces as one piece, and back. -/
theorem spill {As : List Asn} (x : Hold W w (Asn.all As :: L)) : Hold W w (As ++ L) := x.imp fun h a => by
  have a : Asn.star (Asn.all As) (Asn.all L) h := a
  exact Asn.spill As L h a
theorem soak {As : List Asn} (x : Hold W w (As ++ L)) : Hold W w (Asn.all As :: L) := x.imp fun h a => Asn.soak As L h a

theorem take_range (Ls : List Asn) (n : Nat) (h : n ≤ Ls.length) : (List.range n).map (fun i => Ls.getD i Asn.emp) = Ls.take n := by
  apply List.ext_getElem
  · simp [h]
  · intro i h1 h2
    simp at h1
    simp [List.getElem?_eq_getElem (show i < Ls.length by omega)]

/-- The pieces in another order: the first ones by their places. -/
theorem re {Ls : List Asn} (x : Hold W w Ls) (is : List Nat) (hp : is.isPerm (List.range is.length) = true := by decide) (hl : is.length ≤ Ls.length := by simp) :
    Hold W w (is.map (fun i => Ls.getD i Asn.emp) ++ Ls.drop is.length) := by
  refine x.perm ?_
  have h1 := (List.isPerm_iff.1 hp).map (fun i => Ls.getD i Asn.emp)
  rw [take_range Ls _ hl] at h1
  have h2 := h1.append_right (Ls.drop is.length)
  rw [List.take_append_drop] at h2
  exact h2.symm

/-- One piece more at the list's end. -/
theorem gulp {As : List Asn} (x : Hold W w (Asn.all As :: A :: L)) : Hold W w (Asn.all (As ++ [A]) :: L) := by
  have y := x.spill
  rw [show As ++ A :: L = (As ++ [A]) ++ L by simp] at y
  exact y.soak

theorem pure {p : Prop} (x : Hold W w (Asn.pure p :: L)) : p ∧ Hold W w L := by
  refine ⟨?_, x.drop⟩
  obtain ⟨_, h, ⟨h1, h2, ⟨y, _⟩, r⟩, e⟩ := x
  exact y
theorem pure' {p : Prop} (hp : p) (x : Hold W w L) : Hold W w (Asn.pure p :: L) := x.imp fun _ a => Asn.star_mono (fun _ b => ⟨hp, b⟩) (fun _ b => b) (Asn.emp_star a)

theorem emp' (x : Hold W w L) : Hold W w (Asn.emp :: L) := x.imp fun _ a => Asn.emp_star a

theorem block {b : Nat} {o : Obj} (x : Hold W w (Asn.pts b o :: L)) : w.heap[b]? = some o := by
  obtain ⟨_, h, ⟨h1, h2, p, _, e, _⟩, r⟩ := x
  exact (r b o ((e b o).2 (.inl ((p b o).2 ⟨rfl, rfl⟩)))).2

theorem far {b : Nat} {o : Obj} (x : Hold W w (Asn.pts b o :: L)) : W.heap.size ≤ b := by
  obtain ⟨_, h, ⟨h1, h2, p, _, e, _⟩, r⟩ := x
  exact (r b o ((e b o).2 (.inl ((p b o).2 ⟨rfl, rfl⟩)))).1

theorem cell {b : Nat} {cs : Array Value} {T : TypeId} {fz : Nat × Nat} (x : Hold W w (Asn.pts b (.cells cs T fz) :: L)) (i : Nat) : w.cell? ⟨b, i, none⟩ = cs[i]? := by
  simp [World.cell?, x.block]

theorem free {b : Nat} {cs : Array Value} {T : TypeId} (x : Hold W w (Asn.pts b (.cells cs T (0, 0)) :: L)) (i : Nat) : w.frozen? ⟨b, i, none⟩ = false := by
  simp [World.frozen?, x.block]

/-- Two blocks of two pieces are two. -/
theorem ne {b c : Nat} {o o' : Obj} (x : Hold W w (Asn.pts b o :: Asn.pts c o' :: L)) : b ≠ c := by
  rintro rfl
  obtain ⟨_, h, ⟨h1, h2, p, ⟨h3, h4, q, _, e', _⟩, e, d⟩, r⟩ := x
  have := (p b o).2 ⟨rfl, rfl⟩
  rcases d b with z | z
  · rw [z] at this; cases this
  · rw [(e' b o').2 (.inl ((q b o').2 ⟨rfl, rfl⟩))] at z; cases z

theorem lt (x : Hold W w L) : W.heap.size ≤ w.heap.size := x.old.size

theorem same {w' : World} (x : Hold W w L) (o : w'.os = w.os) (t : w'.tape = w.tape) (p : w'.output = w.output) (hh : w'.heap = w.heap) : Hold W w' L :=
  x.mk' ⟨o, t, p, by rw [hh]; exact Nat.le_refl _, fun k _ => by rw [hh]⟩ fun h a b => ⟨h, a, fun k o hk => by rw [hh]; exact b k o hk⟩
theorem drew (x : Hold W w L) : Hold W w.drew L := x.same rfl rfl rfl rfl
theorem drewN (x : Hold W w L) (n : Nat) : Hold W (w.drewN n) L := x.same rfl rfl rfl rfl

/-- What was there stands as it stood. -/
theorem kept {w' : World} (x : Hold W w L) (o : w'.os = w.os) (t : w'.tape = w.tape) (p : w'.output = w.output) (hs : w.heap.size ≤ w'.heap.size) (hh : ∀ k, k < w.heap.size → w'.heap[k]? = w.heap[k]?) : Hold W w' L :=
  x.mk' ⟨o, t, p, hs, fun k hk => hh k (Nat.lt_of_lt_of_le hk x.lt)⟩ fun h a b => ⟨h, a, fun k o hk => by have := b k o hk; refine ⟨this.1, ?_⟩; rw [hh k (Array.getElem?_eq_some_iff.1 this.2).1]; exact this.2⟩
theorem below {w' : World} (x : Hold W w L) (h : Below w.heap.size w w') : Hold W w' L := x.kept h.os h.tape h.output h.size h.block

/-- A new block. -/
theorem fresh {w' : World} {o : Obj} (x : Hold W w L) (os : w'.os = w.os) (t : w'.tape = w.tape) (p : w'.output = w.output) (hs : w.heap.size ≤ w'.heap.size)
    (hnew : w'.heap[w.heap.size]? = some o) (hh : ∀ k, k < w.heap.size → w'.heap[k]? = w.heap[k]?) : Hold W w' (Asn.pts w.heap.size o :: L) :=
  x.mk' ⟨os, t, p, hs, fun k hk => hh k (Nat.lt_of_lt_of_le hk x.lt)⟩ fun h a b => by
    have hn : h w.heap.size = none := by
      cases z : h w.heap.size with
      | none => rfl
      | some o => have := (b _ _ z).2; simp at this
    refine ⟨fun k => if k = w.heap.size then some o else h k, ⟨fun k => if k = w.heap.size then some o else none, h, ?_, a, ?_, ?_⟩, ?_⟩
    · intro k o'; by_cases hk : k = w.heap.size <;> simp [hk, eq_comm]
    · intro k o'
      by_cases hk : k = w.heap.size
      · simp [hk, hn]
      · simp [hk]
    · intro k
      by_cases hk : k = w.heap.size
      · right; rw [hk]; exact hn
      · left; simp [hk]
    · intro k o' hk
      by_cases hk' : k = w.heap.size
      · subst hk'; simp only [if_true] at hk; rw [← hk]; exact ⟨x.lt, hnew⟩
      · simp only [hk', if_false] at hk
        have := b k o' hk
        refine ⟨this.1, ?_⟩
        rw [hh k (Array.getElem?_eq_some_iff.1 this.2).1]; exact this.2

theorem alloc (x : Hold W w L) (o : Obj) : Hold W (w.alloc o) (Asn.pts w.heap.size o :: L) :=
  x.fresh rfl rfl rfl (by simp) (heap_alloc_new w _) fun k hk => Below.heap_alloc w _ k hk

/-- One block is another object behind the step; the others stand as they stood. -/
theorem put {w' : World} {b : Nat} {o o' : Obj} (x : Hold W w (Asn.pts b o :: L)) (os : w'.os = w.os) (t : w'.tape = w.tape) (p : w'.output = w.output) (hs : w.heap.size ≤ w'.heap.size)
    (hb : w'.heap[b]? = some o') (hh : ∀ k, k < w.heap.size → k ≠ b → w'.heap[k]? = w.heap[k]?) : Hold W w' (Asn.pts b o' :: L) := by
  have hfar := x.far
  refine x.mk' ⟨os, t, p, hs, fun k hk => hh k (Nat.lt_of_lt_of_le hk x.lt) (by omega)⟩ fun h a r => ?_
  obtain ⟨h1, h2, q, a2, e, d⟩ := a
  have hb2 : h2 b = none := by
    rcases d b with z | z
    · rw [(q b o).2 ⟨rfl, rfl⟩] at z; cases z
    · exact z
  refine ⟨fun k => if k = b then some o' else h2 k, ⟨fun k => if k = b then some o' else none, h2, ?_, a2, ?_, ?_⟩, ?_⟩
  · intro k o''; by_cases hk : k = b <;> simp [hk, eq_comm]
  · intro k o''
    by_cases hk : k = b
    · simp [hk, hb2]
    · simp [hk]
  · intro k
    by_cases hk : k = b
    · right; rw [hk]; exact hb2
    · left; simp [hk]
  · intro k o'' hk
    by_cases hk' : k = b
    · subst hk'; simp only [if_true] at hk; rw [← hk]; exact ⟨hfar, hb⟩
    · simp only [hk', if_false] at hk
      have := r k o'' ((e k o'').2 (.inr hk))
      refine ⟨this.1, ?_⟩
      rw [hh k (Array.getElem?_eq_some_iff.1 this.2).1 hk']; exact this.2

theorem set {b : Nat} {cs : Array Value} {T : TypeId} {fz : Nat × Nat} (x : Hold W w (Asn.pts b (.cells cs T fz) :: L)) (i : Nat) (v : Value) :
    Hold W (w.setCell ⟨b, i, none⟩ v) (Asn.pts b (.cells (cs.setIfInBounds i v) T fz) :: L) :=
  x.put rfl rfl rfl (by simp) (by simp [World.setCell, Array.getElem?_modify, x.block]) fun k _ hk => Below.heap_setCell _ _ _ _ hk

/-- A new block in a world that is not spelled as one. -/
theorem allocAt {w' : World} {o : Obj} {b : Nat} (x : Hold W w L) (hw : w' = w.alloc o) (hb : b = w.heap.size) : Hold W w' (Asn.pts b o :: L) := by subst hw; subst hb; exact x.alloc o

end Hold

theorem Hold.start (W : World) : Hold W W [] :=
  ⟨Below.refl _ _, fun _ => none, fun _ => rfl, fun _ _ h => by cases h⟩

/-- What was there in W reads as it did. -/
theorem Hold.oldCell {W w : World} {L : List Asn} (x : Hold W w L) {a : Addr} {v : Value} (h : W.cell? a = some v) : w.cell? a = some v :=
  (x.old.cell (World.block_lt_of_cell? W a h)).trans h
theorem Hold.oldBlock {W w : World} {L : List Asn} (x : Hold W w L) {b : Nat} {o : Obj} (h : W.heap[b]? = some o) : w.heap[b]? = some o :=
  (x.old.block b (Array.getElem?_eq_some_iff.1 h).1).trans h

end Go.Proofs.YtahfcgjlcdbnjaaGreatDoor
/- Rows of a slice that is owned, as assertions; append onto them. -/
namespace Go.Proofs.YtahfcgjlcdbnjaaGreatDoor
open Go.RowKit

/-- In a region that draws its order: a way that ends (by a panic, say) is told, and a goal that is never met is left for the tactic. -/
theorem dead {S : World → Prop} {K : Act → World → Prop} {R : Act → World → Prop} {G : Prop} (_ : Shut (∀ a w, S w → (S w → R a w) → K a w)) (hG : G) (_ : False → K { tmps := #[], defers := [] } default) : G := hG

/-- The slice value v of n elements (each of size cells) is nil, or owns a row whose first cells are xs. -/
def Row (e : TypeId) (size : Nat) (v : Value) (n : Nat) (xs : List Value) : Asn := fun h =>
  xs.length = n * size ∧ ((v = .slice none 0 0 ∧ n = 0 ∧ Asn.emp h) ∨
    ∃ g cap cur, v = .slice (some ⟨g, 0, none⟩) n cap ∧ n ≤ cap ∧ cap ≤ maxLen ∧ cur.size = cap * size ∧ cur.toList.take (n * size) = xs ∧ Asn.pts g (.cells cur e (0, 0)) h)

section
variable {W w : World} {L : List Asn} {e : TypeId} {size : Nat} {v : Value} {n : Nat} {xs : List Value}

theorem Row.cases (x : Hold W w (Row e size v n xs :: L)) : xs.length = n * size ∧ ((v = .slice none 0 0 ∧ n = 0 ∧ Hold W w L) ∨
    ∃ g cap cur, v = .slice (some ⟨g, 0, none⟩) n cap ∧ n ≤ cap ∧ cap ≤ maxLen ∧ cur.size = cap * size ∧ cur.toList.take (n * size) = xs ∧ Hold W w (Asn.pts g (.cells cur e (0, 0)) :: L)) := by
  obtain ⟨a, h, ⟨h1, h2, ⟨hl, p⟩, r⟩, d⟩ := x
  refine ⟨hl, ?_⟩
  rcases p with ⟨hv, hn, he⟩ | ⟨g, cap, cur, h3, h4, h5, h6, h7, h8⟩
  · refine .inl ⟨hv, hn, ?_⟩
    have y : Hold W w (Asn.emp :: L) := ⟨a, h, ⟨h1, h2, he, r⟩, d⟩
    exact y.drop
  · exact .inr ⟨g, cap, cur, h3, h4, h5, h6, h7, ⟨a, h, ⟨h1, h2, h8, r⟩, d⟩⟩

theorem Row.nil (x : Hold W w L) : Hold W w (Row e size (.slice none 0 0) 0 [] :: L) :=
  x.emp'.mono fun _ he => ⟨by simp, .inl ⟨rfl, rfl, he⟩⟩

theorem Row.mk {g cap : Nat} {cur : Array Value} (hn : n ≤ cap) (hc : cap ≤ maxLen) (hs : cur.size = cap * size) (ht : cur.toList.take (n * size) = xs)
    (x : Hold W w (Asn.pts g (.cells cur e (0, 0)) :: L)) : Hold W w (Row e size (.slice (some ⟨g, 0, none⟩) n cap) n xs :: L) :=
  x.mono fun _ p => ⟨by rw [← ht, List.length_take, Array.length_toList, hs]; exact Nat.min_eq_left (Nat.mul_le_mul_right _ hn), .inr ⟨g, cap, cur, rfl, hn, hc, hs, ht, p⟩⟩

theorem Row.own (x : Hold W w (Row e size v n xs :: L)) : w.ownsRow 0 e size v n xs := by
  obtain ⟨hl, p⟩ := Row.cases x
  refine ⟨hl, ?_⟩
  rcases p with ⟨hv, hn, _⟩ | ⟨g, cap, cur, h3, h4, h5, h6, h7, h8⟩
  · exact .inl ⟨hv, hn⟩
  · exact .inr ⟨g, cap, cur, h3, Nat.zero_le _, h8.block, h4, h5, h6, h7⟩

/-- The length of the slice value. -/
theorem Row.slice (x : Hold W w (Row e size v n xs :: L)) : ∃ a cap, v = .slice a n cap := by
  obtain ⟨_, p⟩ := Row.cases x
  rcases p with ⟨hv, hn, _⟩ | ⟨g, cap, cur, h3, _⟩
  · exact ⟨none, 0, by rw [hv, hn]⟩
  · exact ⟨_, _, h3⟩

theorem Row.cap {a : Option Addr} {c m : Nat} (x : Hold W w (Row e size (.slice a m c) n xs :: L)) : m = n ∧ n ≤ c ∧ c ≤ maxLen := by
  obtain ⟨_, p⟩ := Row.cases x
  rcases p with ⟨hv, rfl, _⟩ | ⟨g, cap, cur, hv, h4, h5, _⟩
  · cases hv; exact ⟨rfl, Nat.le_refl _, Nat.zero_le _⟩
  · cases hv; exact ⟨rfl, h4, h5⟩

theorem Row.put {w' : World} {v' : Value} {n' : Nat} {xs' : List Value} (x : Hold W w (Row e size v n xs :: L)) (ho : w'.ownsRow 0 e size v' n' xs') (hg : w.grownBy w' v.ownBlock)
    (hb : v'.ownBlock = v.ownBlock ∨ v'.ownBlock = some w.heap.size) : Hold W w' (Row e size v' n' xs' :: L) := by
  obtain ⟨hl', ho⟩ := ho
  obtain ⟨hl, p⟩ := Row.cases x
  have make : ∀ (g cap : Nat) (cur : Array Value), v' = .slice (some ⟨g, 0, none⟩) n' cap → n' ≤ cap → cap ≤ maxLen → cur.size = cap * size → cur.toList.take (n' * size) = xs' →
      Hold W w' (Asn.pts g (.cells cur e (0, 0)) :: L) → Hold W w' (Row e size v' n' xs' :: L) := by
    rintro g cap cur rfl h1 h2 h3 h4 h5
    exact Row.mk h1 h2 h3 h4 h5
  rcases p with ⟨rfl, rfl, y⟩ | ⟨g, cap, cur, rfl, h4, h5, h6, h7, y⟩
  · rcases ho with ⟨rfl, rfl⟩ | ⟨g', cap', cur', rfl, _, hg', k1, k2, k3, k4⟩
    · have : xs' = [] := List.eq_nil_of_length_eq_zero (by simpa using hl')
      subst this
      exact Row.nil (y.kept hg.os hg.tape hg.output hg.size fun k hk => hg.block k hk (by simp [Value.ownBlock]))
    · have hgs : g' = w.heap.size := by simpa [Value.ownBlock] using hb
      subst hgs
      exact make _ _ _ rfl k1 k2 k3 k4 (y.fresh hg.os hg.tape hg.output hg.size hg' fun k hk => hg.block k hk (by simp [Value.ownBlock]))
  · rcases ho with ⟨rfl, rfl⟩ | ⟨g', cap', cur', rfl, _, hg', k1, k2, k3, k4⟩
    · simp [Value.ownBlock] at hb
    · have hb' : g' = g ∨ g' = w.heap.size := by simpa [Value.ownBlock] using hb
      rcases hb' with rfl | rfl
      · exact make _ _ _ rfl k1 k2 k3 k4 (y.put hg.os hg.tape hg.output hg.size hg' fun k hk hne => hg.block k hk (by simp [Value.ownBlock]; exact hne))
      · refine make _ _ _ rfl k1 k2 k3 k4 ?_
        have hfar := y.far
        have hlt := y.lt
        obtain ⟨o1, h, ⟨h1, h2, q, a4, e1, d1⟩, r⟩ := y
        have hb2 : h2 g = none := by
          rcases d1 g with z | z
          · rw [(q g _).2 ⟨rfl, rfl⟩] at z; cases z
          · exact z
        have hn : h2 w.heap.size = none := by
          cases z : h2 w.heap.size with
          | none => rfl
          | some o => have := (r _ _ ((e1 _ _).2 (.inr z))).2; simp at this
        refine ⟨o1.trans ⟨hg.os, hg.tape, hg.output, hg.size, fun k hk => hg.block k (by omega) (by simp [Value.ownBlock]; omega)⟩, fun k => if k = w.heap.size then some (.cells cur' e (0, 0)) else h2 k,
          ⟨fun k => if k = w.heap.size then some (.cells cur' e (0, 0)) else none, h2, ?_, a4, ?_, ?_⟩, ?_⟩
        · intro k o'; by_cases hk : k = w.heap.size <;> simp [hk, eq_comm]
        · intro k o'
          by_cases hk : k = w.heap.size
          · simp [hk, hn]
          · simp [hk]
        · intro k
          by_cases hk : k = w.heap.size
          · right; rw [hk]; exact hn
          · left; simp [hk]
        · intro k o' hk
          by_cases hk' : k = w.heap.size
          · subst hk'; simp only [if_true] at hk; rw [← hk]; exact ⟨hlt, hg'⟩
          · simp only [hk', if_false] at hk
            have := r k o' ((e1 k o').2 (.inr hk))
            have hkg : k ≠ g := by rintro rfl; rw [hb2] at hk; cases hk
            refine ⟨this.1, ?_⟩
            rw [hg.block k (Array.getElem?_eq_some_iff.1 this.2).1 (by simp [Value.ownBlock]; exact hkg)]; exact this.2

variable {P : Program}

/-- append of m elements that lie in cells. -/
theorem wpl_append {ops : Array Oper} {rest : List Oper} {o : Oper} {a : Act} {Q : Exit → Act → World → Prop} (hgd : o.guard = none) (s y : Operand) (t : TypeId)
    (ho : o.op = .call { callee := .builtin .append, args := #[s, y], argTypes := #[t, t] })
    (i : TypeInfo) (z : Value) (bytes : Nat) (ht : P.underlying t = some (.slice e)) (hi : P.info? e = some i) (hz : i.zero = some z)
    (hsize : i.size = size) (hby : i.bytes = bytes) (hzs : z.cells.size = size) (hsz : 0 < size)
    (hs : a.eval s = v) (x : Hold W w (Row e size v n xs :: L))
    (ad : Addr) (m c : Nat) (news : List Value) (hx : a.eval y = .slice (some ad) m c) (hl : news.length = m * size) (hnews : ∀ j u, news[j]? = some u → w.cell? (ad.add j) = some u) (h1 : ∀ u ∈ news, u.oneCell' = true)
    (h63 : n + m ≤ maxLen) (hbytes : (n + m) * bytes ≤ 140737488355328)
    (h : ∀ v' w', Hold W w' (Row e size v' (n + m) (xs ++ news) :: L) → wpList P ops Q rest (a.put o.dst v') w') :
    wpList P ops Q (o :: rest) a w :=
  wpList_append_own_at w hgd s y t ho 0 e i z size bytes ht hi hz hsize hby hzs hsz v n xs hs (Row.own x) ad m c news hx hl hnews h1 h63 hbytes (Nat.zero_le _)
    fun v' w' h2 h3 _ h5 => h v' w' (Row.put x h2 h3 h5)

/-- append onto a slice whose capacity is its length: all goes over into a new row; the old one stands. -/
theorem wpl_append_copy {ops : Array Oper} {rest : List Oper} {o : Oper} {a : Act} {Q : Exit → Act → World → Prop} (hgd : o.guard = none) (s y : Operand) (t : TypeId)
    (ho : o.op = .call { callee := .builtin .append, args := #[s, y], argTypes := #[t, t] })
    (i : TypeInfo) (z : Value) (bytes : Nat) (ht : P.underlying t = some (.slice e)) (hi : P.info? e = some i) (hz : i.zero = some z)
    (hsize : i.size = size) (hby : i.bytes = bytes) (hzs : z.cells.size = size)
    (sa : Option Addr) (sc : Nat) (hs : a.eval s = .slice sa n n) (x : Hold W w (Row e size (.slice sa n sc) n xs :: L))
    (ad : Addr) (m c : Nat) (hm : 0 < m) (news : List Value) (hx : a.eval y = .slice (some ad) m c) (hl : news.length = m * size) (hnews : ∀ j u, news[j]? = some u → w.cell? (ad.add j) = some u)
    (h63 : n + m ≤ maxLen) (hbytes : (n + m) * bytes ≤ 140737488355328)
    (h : ∀ ua uc w', Hold W w' (Row e size (.slice ua (n + m) uc) (n + m) (xs ++ news) :: Row e size (.slice sa n sc) n xs :: L) → wpList P ops Q rest (a.put o.dst (.slice ua (n + m) uc)) w') :
    wpList P ops Q (o :: rest) a w := by
  subst hsize
  subst hby
  refine wpList_plain hgd fun K hK => ?_
  have hsmall : n + m ≤ 9223372036854775807 := by simp only [maxLen] at h63; omega
  obtain ⟨hlx, p⟩ := Row.cases x
  have fin : ∀ (old : Nat) (v' : Value) (w' : World), v' = .slice (some ⟨w.heap.size, 0, none⟩) (n + m) (grownCap w (n + m) old e) →
      w' = w.drew.alloc (.cells (xs.toArray ++ news.toArray ++ Builtin.zeroCells z.cells (grownCap w (n + m) old e - (n + m))) e) →
      (Builtin.append_ #[t, t] o.type #[.slice sa n n, .slice (some ad) m c]).run P w = .ok v' w' → o.wp P a w K Q := by
    rintro old v' w' rfl rfl hr
    have hge := grownCap_ge w (n + m) old e
    unfold Oper.wp execOp
    simp only [ho, resolve, invoke, builtin, Sem.run_bind, Sem.run_pure, Result.andThen_ok, List.map_toArray, List.map_cons, List.map_nil, hs, hx, hr]
    refine hK _ _ (h _ _ _ (Row.mk hge (grownCap_le_maxLen w _ old e h63) ?_ ?_ (Hold.allocAt x.drew rfl rfl)))
    · simp [size_zeroCells, hzs, hlx, hl, ← Nat.add_mul]; congr 1; omega
    · simp only [Array.toList_append]
      have hlen : (xs ++ news).length = (n + m) * i.size := by rw [List.length_append, hlx, hl, Nat.add_mul]
      rw [← hlen, List.take_append_of_le_length (by simp)]
      exact List.take_of_length_le (by simp)
  rcases p with ⟨hv, rfl, yy⟩ | ⟨g, cap, cur, hv, h4, h5, h6, h7, yy⟩
  · obtain ⟨rfl, rfl⟩ : sa = none ∧ sc = 0 := by cases hv; exact ⟨rfl, rfl⟩
    have hx0 : xs = [] := List.eq_nil_of_length_eq_zero (by simpa using hlx)
    subst hx0
    have hr := run_append_nil (P := P) w t o.type e i z ht hi hz ad m c news hl hnews (by omega) (by omega) (by have hb := hbytes; simp only [Nat.zero_add] at hb; omega)
    refine fin 0 _ _ ?_ ?_ hr
    · simp
    · simp
  · obtain ⟨rfl, rfl⟩ : sa = some ⟨g, 0, none⟩ ∧ sc = cap := by cases hv; exact ⟨rfl, rfl⟩
    have holds : ∀ j u, xs[j]? = some u → w.cell? ((⟨g, 0, none⟩ : Addr).add j) = some u := (Row.own x).cells (g := g) rfl
    have hr := run_append_grow (P := P) w t o.type e i z ht hi hz ⟨g, 0, none⟩ n n xs hlx holds ad m c news hl hnews (by omega) (by omega) (growslice_fits (by omega) hbytes)
    exact fin n _ _ rfl rfl hr

/-- The same where the order is drawn. -/
theorem step_append {ops : Array Oper} {o : Oper} {a : Act} {K : Act → World → Prop} {Q : Exit → Act → World → Prop} {E : Prop} (hgd : o.guard = none) (s y : Operand) (t : TypeId)
    (ho : o.op = .call { callee := .builtin .append, args := #[s, y], argTypes := #[t, t] })
    (i : TypeInfo) (z : Value) (bytes : Nat) (ht : P.underlying t = some (.slice e)) (hi : P.info? e = some i) (hz : i.zero = some z)
    (hsize : i.size = size) (hby : i.bytes = bytes) (hzs : z.cells.size = size) (hsz : 0 < size)
    (hs : a.eval s = v) (x : Hold W w (Row e size v n xs :: L))
    (ad : Addr) (m c : Nat) (news : List Value) (hx : a.eval y = .slice (some ad) m c) (hl : news.length = m * size) (hnews : ∀ j u, news[j]? = some u → w.cell? (ad.add j) = some u) (h1 : ∀ u ∈ news, u.oneCell' = true)
    (h63 : n + m ≤ maxLen) (hbytes : (n + m) * bytes ≤ 140737488355328)
    (h : ∀ ua uc w', Hold W w' (Row e size (.slice ua (n + m) uc) (n + m) (xs ++ news) :: L) → K (a.put o.dst (.slice ua (n + m) uc)) w') :
    if Region.wanted o (yielded ops a.tmps) = true then Oper.wp P o a w K Q else E := by
  have hw : Region.wanted o (yielded ops a.tmps) = true := by simp [Region.wanted, hgd]
  rw [if_pos hw]
  obtain ⟨v', w', hr, h2, h3, h4, h5⟩ := run_append_own_at (P := P) w 0 t o.type e i z size bytes ht hi hz hsize hby hzs hsz v n xs (Row.own x) ad m c news hl hnews h1 h63 hbytes (Nat.zero_le _)
  have y := Row.put x h2 h3 h5
  obtain ⟨ua, uc, rfl⟩ := Row.slice y
  unfold Oper.wp execOp
  simp only [ho, resolve, invoke, builtin, Sem.run_bind, Sem.run_pure, Result.andThen_ok, List.map_toArray, List.map_cons, List.map_nil, hs, hx, hr]
  exact h ua uc w' y

/-- A block that is known whole, as what is appended. -/
theorem news_of {b : Nat} {cs : Array Value} {T : TypeId} {fz : Nat × Nat} (x : Hold W w (Asn.pts b (.cells cs T fz) :: L)) : ∀ j u, cs.toList[j]? = some u → w.cell? ((⟨b, 0, none⟩ : Addr).add j) = some u := by
  intro j u hu
  have hadd : (⟨b, 0, none⟩ : Addr).add j = ⟨b, j, none⟩ := by unfold Addr.add; split <;> simp_all
  rw [hadd, x.cell]
  simpa using hu

theorem run_append_str (t u ty e : TypeId) (i : TypeInfo) (ht : P.underlying t = some (.slice e)) (hu : P.underlying u = some .string) (hi : P.info? e = some i) (hz : i.zero = some (.int .u8 0))
    (hsize : i.size = 1) (hby : i.bytes = 1) (x : Hold W w (Row e 1 v n xs :: L)) (s : ByteArray) (h63 : n + s.size ≤ maxLen) (hbytes : n + s.size ≤ 140737488355328) :
    ∃ v' w', (Builtin.append_ #[t, u] ty #[v, .string s]).run P w = .ok v' w' ∧ Hold W w' (Row e 1 v' (n + s.size) (xs ++ Lib.strCells s) :: L) := by
  have hsmall : n + s.size ≤ 9223372036854775807 := by simp only [maxLen] at h63; omega
  have hsc := Lib.strCells_length s
  obtain ⟨hl, p⟩ := Row.cases x
  rcases p with ⟨rfl, rfl, y⟩ | ⟨g, cap, cur, rfl, h4, h5, h6, h7, y⟩
  · have hx : xs = [] := List.eq_nil_of_length_eq_zero (by simpa using hl)
    subst hx
    by_cases h0 : s.size = 0
    · have hsn : Lib.strCells s = [] := List.eq_nil_of_length_eq_zero (by omega)
      refine ⟨.slice none 0 0, w, ?_, ?_⟩
      · simp [Builtin.append_, run_underlying ht, run_underlying hu, sizeOf, typeInfo, hi, Builtin.lenOf, h0]
        simp [Builtin.firstCells]
      · rw [h0, hsn]; simpa using Row.nil y
    · refine ⟨_, _, run_append_nil_string (P := P) w t u ty e i _ ht hu hi hz s (by omega) (by omega) (by rw [hby]; omega), ?_⟩
      have hge := grownCap_ge w s.size 0 e
      rw [show (0 : Nat) + s.size = s.size from Nat.zero_add _]
      refine Row.mk hge (grownCap_le_maxLen w _ 0 e (by omega)) ?_ ?_ (Hold.allocAt (y.drew) rfl rfl)
      · simp [size_zeroCells, Value.cells]; have : s.data.size = s.size := rfl; omega
      · simp only [Array.toList_append, Nat.mul_one]
        rw [List.take_append_of_le_length (by simp)]
        rw [List.take_of_length_le (by simp)]
        simp [Lib.strCells]
  · have hlen : xs.length = n := by simpa using hl
    by_cases hroom : n + s.size ≤ cap
    · have hfit : n + s.size ≤ cur.size := by rw [h6]; omega
      refine ⟨_, _, Lib.run_append_room_string (P := P) w t u ty e i ht hu hi hsize g n cap cur y.block s hroom hfit, ?_⟩
      refine Row.mk hroom h5 ?_ ?_ (y.put rfl rfl rfl (by simp) (setRow_heap w g cur _ e _ y.block) fun k _ hk => setRow_other w g k _ hk)
      · simp only [List.size_toArray, List.length_append, List.length_take, List.length_drop, Array.length_toList, hsc]; omega
      · have h7' : cur.toList.take n = xs := by simpa using h7
        rw [h7', Nat.mul_one]
        rw [List.take_append_of_le_length (by simp [hsc, hlen])]
        exact List.take_of_length_le (by simp [hsc, hlen])
    · have holds : ∀ j u, xs[j]? = some u → w.cell? ((⟨g, 0, none⟩ : Addr).add j) = some u := (Row.own x).cells (g := g) rfl
      refine ⟨_, _, Lib.run_append_grow_string (P := P) w t u ty e i _ ht hu hi hz ⟨g, 0, none⟩ n cap xs (by rw [hsize]; omega) holds s (by omega) (by omega) (growslice_fits (by omega) (by rw [hby]; omega)), ?_⟩
      have hge := grownCap_ge w (n + s.size) cap e
      refine Row.mk hge (grownCap_le_maxLen w _ cap e h63) ?_ ?_ (Hold.allocAt (y.drop.drew) rfl rfl)
      · simp [size_zeroCells, Value.cells, hsc]; omega
      · simp only [Array.toList_append, Nat.mul_one]
        rw [List.take_append_of_le_length (by simp [hsc, hlen])]
        exact List.take_of_length_le (by simp [hsc, hlen])

/-- append of a string's bytes. -/
theorem wpl_append_str {ops : Array Oper} {rest : List Oper} {o : Oper} {a : Act} {Q : Exit → Act → World → Prop} (hgd : o.guard = none) (sl y : Operand) (t u : TypeId)
    (ho : o.op = .call { callee := .builtin .append, args := #[sl, y], argTypes := #[t, u] })
    (i : TypeInfo) (ht : P.underlying t = some (.slice e)) (hu : P.underlying u = some .string) (hi : P.info? e = some i) (hz : i.zero = some (.int .u8 0))
    (hsize : i.size = 1) (hby : i.bytes = 1) (hs : a.eval sl = v) (x : Hold W w (Row e 1 v n xs :: L)) (s : ByteArray) (hx : a.eval y = .string s)
    (h63 : n + s.size ≤ maxLen) (hbytes : n + s.size ≤ 140737488355328)
    (h : ∀ v' w', Hold W w' (Row e 1 v' (n + s.size) (xs ++ Lib.strCells s) :: L) → wpList P ops Q rest (a.put o.dst v') w') : wpList P ops Q (o :: rest) a w := by
  refine wpList_plain hgd fun K hK => ?_
  obtain ⟨v', w', hr, h2⟩ := run_append_str (P := P) t u o.type e i ht hu hi hz hsize hby x s h63 hbytes
  unfold Oper.wp execOp
  simp only [ho, resolve, invoke, builtin, Sem.run_bind, Sem.run_pure, Result.andThen_ok, List.map_toArray, List.map_cons, List.map_nil, hs, hx, hr]
  exact hK _ _ (h v' w' h2)
end
end Go.Proofs.YtahfcgjlcdbnjaaGreatDoor
