/- What entities come to. -/
import Derived.Test.YtahfcgjlcdbnjaaGreatDoorMRef
import Derived.MapKept
namespace Go.Proofs.YtahfcgjlcdbnjaaGreatDoor
open Go.RowKit

def five : List ByteArray := [⟨#[108, 116]⟩, ⟨#[103, 116]⟩, ⟨#[97, 109, 112]⟩, ⟨#[97, 112, 111, 115]⟩, ⟨#[113, 117, 111, 116]⟩]
def fiveAt (n : Bytes) : Int := Lib.idxOfS five ⟨n.toArray⟩
def fiveSigns : Bytes := [60, 62, 38, 39, 34]
/-- The entities that all documents have. -/
def plain (n : Bytes) : Option Bytes := if fiveAt n < 0 then none else some ((fiveSigns.drop (fiveAt n).toNat).take 1)
def plainV : Option Bytes → Value
  | some t => .tuple #[str t, .bool true]
  | none => .tuple #[str [], .bool false]

theorem fiveAt_cases (n : Bytes) : fiveAt n = -1 ∨ fiveAt n = 0 ∨ fiveAt n = 1 ∨ fiveAt n = 2 ∨ fiveAt n = 3 ∨ fiveAt n = 4 := by
  unfold fiveAt Lib.idxOfS five
  simp only [Lib.idxFromS]
  repeat' split
  all_goals simp

section
variable {W w : World} {L : List Asn} {b : Nat} {s : ByteArray} {σ : St}

set_option maxHeartbeats 1000000 in
theorem plain_any (n : Bytes) : Calls Tryz.prog 201 #[str n] w fun e w' => e = .returned (plainV (plain n)) ∧ Below w.heap.size w w' := by
  go_enter Tryz.func201, Tryz.ntmps201
  go_wp2_with fail
  refine (Tryz.slices_Index_string w.heap.size 0 5 5 five ⟨n.toArray⟩ _ (by decide) (by decide) ?_).mono ?_
  · intro j hj
    rw [World.cell?_alloc_new]
    match j, hj with
    | 0, _ => rfl
    | 1, _ => rfl
    | 2, _ => rfl
    | 3, _ => rfl
    | 4, _ => rfl
  rintro e w1 ⟨rfl, rfl⟩
  have hb : ∀ o, Below w.heap.size w (w.alloc o) := fun o => (Below.refl _ _).alloc (Nat.le_refl _) _
  have hp : plain n = if fiveAt n < 0 then none else some ((fiveSigns.drop (fiveAt n).toNat).take 1) := rfl
  have hf : Lib.idxOfS (five.take 5) ⟨n.toArray⟩ = fiveAt n := rfl
  rw [hf]
  clear hf
  have HP := Lib.hid hp
  have HB := Lib.hid hb
  clear hp hb
  have h6 := fiveAt_cases n
  generalize fiveAt n = i at *
  rcases h6 with rfl | rfl | rfl | rfl | rfl | rfl
  all_goals
    go_wp2_with fail
    go_ret2
    exact ⟨by rw [HP.out]; rfl, HB.out _⟩

/-- A map's look-up. -/
theorem run_find (es : List MapEntry) (l : List (Bytes × Bytes)) (k : Bytes) : ∀ (i : Nat), es.map (fun e => (e.key, e.val)) = l.map (fun p => (str p.1, str p.2)) →
    (∀ v, l.lookup k = some v → ∃ j, Instr.findNow .string (str k) es i = some (some (j, str v))) ∧ (l.lookup k = none → Instr.findNow .string (str k) es i = some none) := by
  induction l generalizing es with
  | nil =>
    intro i h
    have : es = [] := by simpa using h
    subst this
    exact ⟨fun v hv => (by cases hv), fun _ => rfl⟩
  | cons p l ih =>
    intro i h
    cases es with
    | nil => cases h
    | cons e es =>
      obtain ⟨ha, h3⟩ := List.cons.inj h
      obtain ⟨h1, h2⟩ := Prod.mk.inj ha
      have ih' := ih es (i + 1) h3
      obtain ⟨pk, pv⟩ := p
      simp only [Instr.findNow, h1, h2, Instr.sameNow]
      by_cases hk : k = pk
      · subst hk
        have hs : ((⟨k.toArray⟩ : ByteArray) == ⟨k.toArray⟩) = true := (Go.MapKept.bytes_beq _ _).2 rfl
        simp [List.lookup, hs]
      · have hne : ((⟨k.toArray⟩ : ByteArray) == ⟨pk.toArray⟩) = false := by
          rw [Bool.eq_false_iff]
          intro hh
          apply hk
          have := congrArg (fun a : ByteArray => a.data.toList) ((Go.MapKept.bytes_beq _ _).1 hh)
          simpa using this
        have hb : (k == pk) = false := by simpa using hk
        simp only [hne, List.lookup, hb]
        exact ih'

theorem checkKey_str (em : Bool) (n : Nat) (k : Bytes) (w : World) : (Instr.checkKey em (n + 1) 9 (str k)).run Tryz.prog w = .ok () w := by
  unfold Instr.checkKey
  simp only [Sem.run_bind, run_underlying undString, Result.andThen_ok]
  rfl

theorem run_lookup {m : Nat} {l : List (Bytes × Bytes)} (x : Hold W w (Ents m l :: L)) (k : Bytes) :
    (Instr.lookup 69 (.map (some m)) (str k) true).run Tryz.prog w = .ok (.tuple #[str ((l.lookup k).getD []), .bool (l.lookup k).isSome]) w := by
  obtain ⟨es, c, he, y⟩ := Ents.out x
  have hu : Tryz.prog.underlying 69 = some (.map 9 9) := by kernel_rfl
  have hz : ∀ w, (zeroValue 9).run Tryz.prog w = .ok (str []) w := fun w => by kernel_rfl
  have hf := run_find es.toList l k 0 he
  have hck : ∀ em w, (Instr.checkKey em 10000 9 (str k)).run Tryz.prog w = .ok () w := fun em w => checkKey_str em 9999 k w
  unfold Instr.lookup
  simp only [Sem.run_bind, run_underlying hu, Result.andThen_ok, getObj, Sem.run, y.block, hck, Instr.findKey, run_underlying undString, Sem.run_pure]
  cases hl : l.lookup k with
  | none =>
    rw [hf.2 hl]
    simp only [Sem.run_pure, Result.andThen_ok, Sem.run_bind, hz]
    rfl
  | some v =>
    obtain ⟨j, hj⟩ := hf.1 v hl
    rw [hj]
    simp only [Sem.run_pure, Result.andThen_ok, Sem.run_bind]
    rfl
end
end Go.Proofs.YtahfcgjlcdbnjaaGreatDoor
/- What entities come to, in entities. -/
namespace Go.Proofs.YtahfcgjlcdbnjaaGreatDoor
open Go.RowKit

/-- A text that is expanded, bytes for bytes; rec: what an entity in it comes to; o: the answer so far; k: the bytes so far. -/
def expandL (rec : Bytes → Bytes → Nat → Except (Int × Int) (Bytes × Nat)) (attr : Bool) (p : Nat) : Nat → Bytes → Bytes → Nat → Except (Int × Int) (Bytes × Nat)
  | 0, _, o, k => .ok (o, k)
  | _ + 1, [], o, k => .ok (o, k)
  | n + 1, c :: l, o, k =>
    if c ≠ 38 then
      (if k + 1 ≤ 32768 then expandL rec attr p n l (o ++ [if attr && isBlank c.toNat then 32 else c]) (k + 1) else .error (6, p))
    else match reference (c :: l) with
      | none => .error (6, p)
      | some (m, t, e) =>
        if k + 1 ≤ 32768 then
          (if e ≠ [] then
            match rec e o (k + 1) with
            | .error x => .error x
            | .ok (o', k') => expandL rec attr p n ((c :: l).drop m) o' k'
          else if k + 1 + t.length ≤ 32768 then expandL rec attr p n ((c :: l).drop m) (o ++ t) (k + 1 + t.length) else .error (6, p))
        else .error (6, p)

/-- What an entity comes to, within others. -/
def expandN (ents : List (Bytes × Bytes)) (attr : Bool) (p : Nat) : Nat → List Bytes → Bytes → Bytes → Nat → Except (Int × Int) (Bytes × Nat)
  | d, inside, nm, o, k =>
    match plain nm with
    | some t => if inside.length > 0 then (if k + t.length ≤ 32768 then .ok (o ++ t, k + t.length) else .error (6, p)) else .ok (o ++ t, k)
    | none =>
      match ents.lookup nm with
      | none => .error (5, p)
      | some s =>
        if inside.contains nm || !decide (inside.length < 8) then .error (6, p)
        else match d with
          | 0 => .error (6, p)
          | d + 1 => expandL (fun e o' k' => expandN ents attr p d (inside ++ [nm]) e o' k') attr p s.length s o k

/-- A builder alone in a block. -/
def Bldr (b : Nat) (l : Bytes) : Asn := Asn.ex fun tp => Asn.ex fun tv =>
  Asn.star (Asn.pure (tp = .pointer none ∨ tp = .pointer (some ⟨b, 0, none⟩))) (Asn.star (Asn.pts b (.cells #[tp, tv] 95 (0, 0))) (Buf tv l))

section
variable {W w : World} {L : List Asn} {b : Nat} {s : ByteArray} {σ : St}

theorem Bldr.out {l : Bytes} (x : Hold W w (Bldr b l :: L)) : ∃ tp tv, (tp = .pointer none ∨ tp = .pointer (some ⟨b, 0, none⟩)) ∧
    Hold W w (Asn.pts b (.cells #[tp, tv] 95 (0, 0)) :: Buf tv l :: L) := by
  obtain ⟨tp, x⟩ := x.ex
  obtain ⟨tv, x⟩ := x.ex
  obtain ⟨h, x⟩ := x.sep.pure
  exact ⟨tp, tv, h, x.sep⟩
theorem Bldr.mk {l : Bytes} {tp tv : Value} (h : tp = .pointer none ∨ tp = .pointer (some ⟨b, 0, none⟩))
    (x : Hold W w (Asn.pts b (.cells #[tp, tv] 95 (0, 0)) :: Buf tv l :: L)) : Hold W w (Bldr b l :: L) :=
  Hold.ex' tp (Hold.ex' tv (Hold.sep' (Hold.pure' h (Hold.sep' x))))

theorem liesBld : liesAt Tryz.prog Tryz.prog.depth 95 (2 / Tryz.prog.cellsOf 95) 0 95 1 = true := by kernel_rfl

theorem Bldr.writeString {l : Bytes} (t : Bytes) (x : Hold W w (Bldr b l :: L)) (hl : l.length + t.length ≤ 140737488355328) :
    Calls Tryz.prog 50 #[.pointer (some ⟨b, 0, none⟩), str t] w fun e w' => e = .returned (.tuple #[.int .i64 t.length, .nilIface]) ∧ Hold W w' (Bldr b (l ++ t) :: L) := by
  obtain ⟨tp, tv, h, x⟩ := Bldr.out x
  refine (writeString_any (o := 0) ⟨t.toArray⟩ x ⟨h.imp (congrArg some) (congrArg some), rfl, liesBld⟩ (by simpa [ByteArray.size] using hl)).mono ?_
  rintro e w' ⟨rfl, u, z⟩
  exact ⟨by simp [ByteArray.size], Bldr.mk (tp := .pointer (some ⟨b, 0, none⟩)) (tv := u) (.inr rfl) z⟩

theorem Bldr.writeByte {l : Bytes} (c : UInt8) (x : Hold W w (Bldr b l :: L)) (hl : l.length + 1 ≤ 140737488355328) :
    Calls Tryz.prog 199 #[.pointer (some ⟨b, 0, none⟩), .int .u8 c.toNat] w fun e w' => e = .returned .nilIface ∧ Hold W w' (Bldr b (l ++ [c]) :: L) := by
  obtain ⟨tp, tv, h, x⟩ := Bldr.out x
  refine (writeByte_any (o := 0) c x ⟨h.imp (congrArg some) (congrArg some), rfl, liesBld⟩ hl).mono ?_
  rintro e w' ⟨rfl, u, z⟩
  exact ⟨rfl, Bldr.mk (tp := .pointer (some ⟨b, 0, none⟩)) (tv := u) (.inr rfl) z⟩

theorem Bldr.string {l : Bytes} (x : Hold W w (Bldr b l :: L)) :
    Calls Tryz.prog 51 #[.pointer (some ⟨b, 0, none⟩)] w fun e w' => e = .returned (str l) ∧ Hold W w' L := by
  obtain ⟨tp, tv, h, x⟩ := Bldr.out x
  refine (string_any (o := 0) x rfl).mono ?_
  rintro e w' ⟨rfl, z⟩
  exact ⟨rfl, z.drop⟩

theorem Bldr.new (x : Hold W w L) : Hold W (w.alloc (.cells #[.pointer none, .slice none 0 0] 95)) (Bldr w.heap.size [] :: L) :=
  Bldr.mk (tp := .pointer none) (tv := .slice none 0 0) (.inl rfl) (Row.nil (e := 5) (size := 1) (x.alloc _)).f1

/-- All the references in a text are ones. -/
def RefsOk (l : Bytes) : Prop := ∀ i, (l.drop i).head? = some 38 → reference (l.drop i) ≠ none ∧ refWild (l.drop i) = false

theorem reference_size {l : Bytes} {m : Nat} {t e : Bytes} (h : reference l = some (m, t, e)) : 1 ≤ m ∧ m ≤ l.length ∧ t.length ≤ 4 ∧ e.length ≤ l.length := by
  unfold reference at h
  simp only at h
  by_cases hc : (Lib.cut l [59]).2.2 = true
  · have hl := cut_length l [59] hc
    simp at hl
    rw [if_pos hc] at h
    split at h
    · obtain ⟨u, hu, h2⟩ := Option.map_eq_some_iff.1 h
      have := digits_len hu
      cases h2
      exact ⟨by omega, by omega, by omega, by simp⟩
    · split at h
      · obtain ⟨u, hu, h2⟩ := Option.map_eq_some_iff.1 h
        have := digits_len hu
        cases h2
        exact ⟨by omega, by omega, by omega, by simp⟩
      · split at h
        · cases h
          exact ⟨by omega, by omega, by simp, by simp; omega⟩
        · cases h
  · rw [if_neg hc] at h; cases h

theorem plain_len {n t : Bytes} (h : plain n = some t) : t.length ≤ 1 := by
  unfold plain at h
  split at h
  · cases h
  · cases h; simp; omega

/-- Bytes are counted as they come. -/
theorem expandL_len (rec : Bytes → Bytes → Nat → Except (Int × Int) (Bytes × Nat)) (attr : Bool) (p : Nat)
    (hrec : ∀ e o k o' k', rec e o k = .ok (o', k') → k ≤ 32768 → o'.length ≤ o.length + (k' - k) ∧ k ≤ k' ∧ k' ≤ 32768) :
    ∀ (n : Nat) (l o : Bytes) (k : Nat) (o' : Bytes) (k' : Nat), expandL rec attr p n l o k = .ok (o', k') → k ≤ 32768 → o'.length ≤ o.length + (k' - k) ∧ k ≤ k' ∧ k' ≤ 32768
  | 0, l, o, k, o', k', h, hk => by
    simp only [expandL] at h; cases h; exact ⟨by omega, by omega, hk⟩
  | n + 1, [], o, k, o', k', h, hk => by
    simp only [expandL] at h; cases h; exact ⟨by omega, by omega, hk⟩
  | n + 1, c :: l, o, k, o', k', h, hk => by
    simp only [expandL] at h
    split at h
    · split at h
      · rename_i hk1
        have := expandL_len rec attr p hrec n l _ (k + 1) o' k' h hk1
        simp at this
        omega
      · cases h
    · split at h
      · cases h
      · rename_i m t e hr
        split at h
        · rename_i hk1
          split at h
          · split at h
            · cases h
            · rename_i o1 k1 hre
              have h1 := hrec _ _ _ _ _ hre hk1
              have h2 := expandL_len rec attr p hrec n _ o1 k1 o' k' h h1.2.2
              omega
          · split at h
            · rename_i hk2
              have h2 := expandL_len rec attr p hrec n _ _ _ o' k' h hk2
              simp at h2
              omega
            · cases h
        · cases h

theorem expandN_len (ents : List (Bytes × Bytes)) (attr : Bool) (p : Nat) : ∀ (d : Nat) (inside : List Bytes) (nm o : Bytes) (k : Nat) (o' : Bytes) (k' : Nat),
    0 < inside.length → expandN ents attr p d inside nm o k = .ok (o', k') → k ≤ 32768 → o'.length ≤ o.length + (k' - k) ∧ k ≤ k' ∧ k' ≤ 32768 := by
  intro d
  induction d with
  | zero =>
    intro inside nm o k o' k' hi h hk
    unfold expandN at h
    split at h
    · split at h
      · split at h
        · cases h; simp; omega
        · cases h
      · omega
    · split at h
      · cases h
      · split at h
        · cases h
        · cases h
  | succ d ih =>
    intro inside nm o k o' k' hi h hk
    unfold expandN at h
    split at h
    · split at h
      · split at h
        · cases h; simp; omega
        · cases h
      · omega
    · split at h
      · cases h
      · split at h
        · cases h
        · exact expandL_len _ attr p (fun e o k o' k' hr hk => ih (inside ++ [nm]) e o k o' k' (by simp) hr hk) _ _ _ _ _ _ h hk

theorem RefsOk.drop {l : Bytes} (h : RefsOk l) (m : Nat) : RefsOk (l.drop m) := by
  intro i hi
  rw [List.drop_drop] at hi ⊢
  exact h _ hi

def ExpPost (W : World) (L : List Asn) (b : Nat) (s : ByteArray) (σ : St) (bo : Nat) (wv : Value) (inside : List Bytes) : Except (Int × Int) (Bytes × Nat) → Ending → World → Prop
  | .ok (o', k'), e, w' => e = .returned (.tuple #[]) ∧ Hold W w' (Scn b s { σ with grown := k' } :: Bldr bo o' :: Strs wv inside :: L)
  | .error (en, q), e, w' => e = .panicked (fault en q) ∧ Hold W w' L

/-- All the entities that were declared are texts whose references are ones. -/
def EntsOk (l : List (Bytes × Bytes)) : Prop := ∀ p ∈ l, p.2.length ≤ 32768 ∧ RefsOk p.2

theorem lookup_mem {l : List (Bytes × Bytes)} {k v : Bytes} (h : l.lookup k = some v) : ∃ p ∈ l, p.2 = v := by
  induction l with
  | nil => cases h
  | cons q l ih =>
    obtain ⟨qk, qv⟩ := q
    simp only [List.lookup] at h
    split at h
    · cases h; exact ⟨_, List.mem_cons_self .., rfl⟩
    · obtain ⟨p, hp, h2⟩ := ih h
      exact ⟨p, List.mem_cons_of_mem _ hp, h2⟩

theorem containsS_eq (l : List Bytes) (nm : Bytes) : Lib.containsS (l.map fun t => (⟨t.toArray⟩ : ByteArray)) ⟨nm.toArray⟩ = l.contains nm := by
  rw [Bool.eq_iff_iff, Lib.containsS_iff, List.contains_iff_mem]
  constructor
  · intro h
    obtain ⟨t, ht, he⟩ := List.mem_map.1 h
    have := congrArg (fun a : ByteArray => a.data.toList) he
    simp at this
    rw [← this]; exact ht
  · intro h
    exact List.mem_map.2 ⟨nm, h, rfl⟩

theorem containsIn (wv : Value) (l : List Bytes) (nm : Bytes) (hl : l.length ≤ 1048576) (x : Hold W w (Strs wv l :: L)) :
    Calls Tryz.prog 55 #[wv, str nm] w fun e w' => e = .returned (.bool (l.contains nm)) ∧ w' = w := by
  obtain ⟨hlen, p⟩ := Row.cases x
  rcases p with ⟨rfl, h0, _⟩ | ⟨g, cap, cur, rfl, h4, h5, h6, h7, y⟩
  · have : l = [] := List.eq_nil_of_length_eq_zero h0
    subst this
    exact Tryz.slices_Contains_string_empty none 0 ⟨nm.toArray⟩ w
  · have := Tryz.slices_Contains_string g 0 l.length cap (l.map fun t => (⟨t.toArray⟩ : ByteArray)) ⟨nm.toArray⟩ w (by simp) (by omega) (by
      intro j hj
      simp at hj
      rw [Nat.zero_add, y.cell]
      have : cur[j]? = (l.map str)[j]? := by
        rw [← h7, List.getElem?_take_of_lt (by omega)]; simp
      rw [this]
      simp [hj])
    rw [List.take_of_length_le (by simp), containsS_eq] at this
    exact this
end
end Go.Proofs.YtahfcgjlcdbnjaaGreatDoor
