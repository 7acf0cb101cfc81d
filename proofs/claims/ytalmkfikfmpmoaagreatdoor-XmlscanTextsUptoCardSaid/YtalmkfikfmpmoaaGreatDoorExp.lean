/- What entities come to. -/
import Derived.Test.YtalmkfikfmpmoaaGreatDoorRef
import Derived.MapKept
namespace Go.Proofs.YtalmkfikfmpmoaaGreatDoor
open Go.RowKit

def five : List ByteArray := [⟨#[108, 116]⟩, ⟨#[103, 116]⟩, ⟨#[97, 109, 112]⟩, ⟨#[97, 112, 111, 115]⟩, ⟨#[113, 117, 111, 116]⟩]
def fiveAt (n : Bytes) : Int := Lib.idxOfS five ⟨n.toArray⟩
def fiveSigns : Bytes := [60, 62, 38, 39, 34]
/-- The entities that all documents have. -/
def plain (n : Bytes) : Option Bytes := if fiveAt n < 0 then none else some ((fiveSigns.drop (fiveAt n).toNat).take 1)
def plainV : Option Bytes → Value
  | some t => .tuple #[str t, .bool true]
  | none => .tuple #[str [], .bool false]

theorem fiveAt_cases (n : Bytes) : fiveAt n = -1 ∨ fiveAt n = 0 ∨ fiveAt n = 1 ∨ fiveAt n = 2 ∨ fiveAt n = 3 ∨ fiveAt n = 4 := by
  unfold fiveAt Lib.idxOfS five
  simp only [Lib.idxFromS]
  repeat' split
  all_goals simp

section
variable {W w : World} {L : List Asn} {b : Nat} {s : ByteArray} {σ : St}

set_option maxHeartbeats 1000000 in
theorem plain_any (n : Bytes) : Calls Tryz.prog 154 #[str n] w fun e w' => e = .returned (plainV (plain n)) ∧ Below w.heap.size w w' := by
  go_enter Tryz.func154, Tryz.ntmps154
  go_wp2_with fail
  refine (Tryz.slices_Index_string w.heap.size 0 5 5 five ⟨n.toArray⟩ _ (by decide) (by decide) ?_).mono ?_
  · intro j hj
    rw [World.cell?_alloc_new]
    match j, hj with
    | 0, _ => rfl
    | 1, _ => rfl
    | 2, _ => rfl
    | 3, _ => rfl
    | 4, _ => rfl
  rintro e w1 ⟨rfl, rfl⟩
  have hb : ∀ o, Below w.heap.size w (w.alloc o) := fun o => (Below.refl _ _).alloc (Nat.le_refl _) _
  have hp : plain n = if fiveAt n < 0 then none else some ((fiveSigns.drop (fiveAt n).toNat).take 1) := rfl
  have hf : Lib.idxOfS (five.take 5) ⟨n.toArray⟩ = fiveAt n := rfl
  rw [hf]
  clear hf
  have HP := Lib.hid hp
  have HB := Lib.hid hb
  clear hp hb
  have h6 := fiveAt_cases n
  generalize fiveAt n = i at *
  rcases h6 with rfl | rfl | rfl | rfl | rfl | rfl
  all_goals
    go_wp2_with fail
    go_ret2
    exact ⟨by rw [HP.out]; rfl, HB.out _⟩

/-- A map's look-up. -/
theorem run_find (es : List MapEntry) (l : List (Bytes × Bytes)) (k : Bytes) : ∀ (i : Nat), es.map (fun e => (e.key, e.val)) = l.map (fun p => (str p.1, str p.2)) →
    (∀ v, l.lookup k = some v → ∃ j, Instr.findNow .string (str k) es i = some (some (j, str v))) ∧ (l.lookup k = none → Instr.findNow .string (str k) es i = some none) := by
  induction l generalizing es with
  | nil =>
    intro i h
    have : es = [] := by simpa using h
    subst this
    exact ⟨fun v hv => (by cases hv), fun _ => rfl⟩
  | cons p l ih =>
    intro i h
    cases es with
    | nil => cases h
    | cons e es =>
      obtain ⟨ha, h3⟩ := List.cons.inj h
      obtain ⟨h1, h2⟩ := Prod.mk.inj ha
      have ih' := ih es (i + 1) h3
      obtain ⟨pk, pv⟩ := p
      simp only [Instr.findNow, h1, h2, Instr.sameNow]
      by_cases hk : k = pk
      · subst hk
        have hs : ((⟨k.toArray⟩ : ByteArray) == ⟨k.toArray⟩) = true := (Go.MapKept.bytes_beq _ _).2 rfl
        simp [List.lookup, hs]
      · have hne : ((⟨k.toArray⟩ : ByteArray) == ⟨pk.toArray⟩) = false := by
          rw [Bool.eq_false_iff]
          intro hh
          apply hk
          have := congrArg (fun a : ByteArray => a.data.toList) ((Go.MapKept.bytes_beq _ _).1 hh)
          simpa using this
        have hb : (k == pk) = false := by simpa using hk
        simp only [hne, List.lookup, hb]
        exact ih'

theorem checkKey_str (em : Bool) (n : Nat) (k : Bytes) (w : World) : (Instr.checkKey em (n + 1) 9 (str k)).run Tryz.prog w = .ok () w := by
  unfold Instr.checkKey
  simp only [Sem.run_bind, run_underlying undString, Result.andThen_ok]
  rfl

theorem run_lookup {m : Nat} {l : List (Bytes × Bytes)} (x : Hold W w (Ents m l :: L)) (k : Bytes) :
    (Instr.lookup 47 (.map (some m)) (str k) true).run Tryz.prog w = .ok (.tuple #[str ((l.lookup k).getD []), .bool (l.lookup k).isSome]) w := by
  obtain ⟨es, c, he, y⟩ := Ents.out x
  have hu : Tryz.prog.underlying 47 = some (.map 9 9) := by kernel_rfl
  have hz : ∀ w, (zeroValue 9).run Tryz.prog w = .ok (str []) w := fun w => by kernel_rfl
  have hf := run_find es.toList l k 0 he
  have hck : ∀ em w, (Instr.checkKey em 10000 9 (str k)).run Tryz.prog w = .ok () w := fun em w => checkKey_str em 9999 k w
  unfold Instr.lookup
  simp only [Sem.run_bind, run_underlying hu, Result.andThen_ok, getObj, Sem.run, y.block, hck, Instr.findKey, run_underlying undString, Sem.run_pure]
  cases hl : l.lookup k with
  | none =>
    rw [hf.2 hl]
    simp only [Sem.run_pure, Result.andThen_ok, Sem.run_bind, hz]
    rfl
  | some v =>
    obtain ⟨j, hj⟩ := hf.1 v hl
    rw [hj]
    simp only [Sem.run_pure, Result.andThen_ok, Sem.run_bind]
    rfl
end
end Go.Proofs.YtalmkfikfmpmoaaGreatDoor
