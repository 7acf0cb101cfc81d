/- A map of texts: looked up, set, deleted from, copied. -/
import Derived.Test.YtahfcgjlcdbnjaaGreatDoorMXm
import Derived.Test.YtahfcgjlcdbnjaaGreatDoorMEnt
import Derived.Test.YtahfcgjlcdbnjaaGreatDoorMRdd
import Derived.Shelf.SlMaps.Clone
import Derived.Laws.ResultCell
namespace Go.Proofs.YtahfcgjlcdbnjaaGreatDoor
open Go.RowKit

theorem erase_map {α β : Type} (f : α → β) : ∀ (l : List α) (j : Nat), (l.map f).eraseIdx j = (l.eraseIdx j).map f
  | [], _ => rfl
  | _ :: _, 0 => rfl
  | a :: l, j + 1 => by
    show f a :: (l.map f).eraseIdx j = f a :: (l.eraseIdx j).map f
    rw [erase_map f l j]

theorem bytes_eqc (a b : Bytes) : ((⟨a.toArray⟩ : ByteArray) == ⟨b.toArray⟩) = (a == b) := by
  by_cases h : a = b
  · subst h
    rw [(Go.MapKept.bytes_beq _ _).2 rfl]; simp
  · have h1 : ((⟨a.toArray⟩ : ByteArray) == ⟨b.toArray⟩) = false := by
      rw [Bool.eq_false_iff]
      intro hh
      apply h
      have := congrArg (fun x : ByteArray => x.data.toList) ((Go.MapKept.bytes_beq _ _).1 hh)
      simpa using this
    rw [h1]; symm; simpa using h

section
variable {W w : World} {L : List Asn}

theorem setSc_none : ∀ {l : Sc} {k v : Bytes}, l.lookup k = none → setSc l k v = l ++ [(k, v)]
  | [], _, _, _ => rfl
  | (a, b) :: r, k, v, h => by
    have hne : (k == a) = false := by
      cases hk : (k == a) with
      | false => rfl
      | true => rw [List.lookup_cons, hk] at h; cases h
    have h : r.lookup k = none := by rw [List.lookup_cons, hne] at h; exact h
    unfold setSc
    rw [if_neg (by intro he; rw [he] at hne; simp at hne), setSc_none h]
    rfl
theorem delSc_none : ∀ {l : Sc} {k : Bytes}, l.lookup k = none → delSc l k = l
  | [], _, _ => rfl
  | (a, b) :: r, k, h => by
    have hne : (k == a) = false := by
      cases hk : (k == a) with
      | false => rfl
      | true => rw [List.lookup_cons, hk] at h; cases h
    have h : r.lookup k = none := by rw [List.lookup_cons, hne] at h; exact h
    unfold delSc
    rw [if_neg (by intro he; rw [he] at hne; simp at hne), delSc_none h]

theorem run_findJ (k : Bytes) : ∀ (l : Sc) (es : List MapEntry) (i : Nat), es.map (fun e => (e.key, e.val)) = l.map (fun p => (str p.1, str p.2)) → ∀ u, l.lookup k = some u →
    ∃ j, j < l.length ∧ Instr.findNow .string (str k) es i = some (some (i + j, str u)) ∧ (∀ v, setSc l k v = l.set j (k, v)) ∧ delSc l k = l.eraseIdx j ∧ es[j]?.map (·.key) = some (str k)
  | [], _, _, _, u, hu => by cases hu
  | p :: l, [], _, h, _, _ => by cases h
  | p :: l, e :: es, i, h, u, hu => by
    obtain ⟨ha, h3⟩ := List.cons.inj h
    obtain ⟨h1, h2⟩ := Prod.mk.inj ha
    obtain ⟨a, b⟩ := p
    simp only [Instr.findNow, h1, h2, Instr.sameNow]
    by_cases hk : k = a
    · subst hk
      have hs : ((⟨k.toArray⟩ : ByteArray) == ⟨k.toArray⟩) = true := (Go.MapKept.bytes_beq _ _).2 rfl
      have hub : b = u := by rw [List.lookup_cons_self] at hu; exact Option.some.inj hu
      subst hub
      refine ⟨0, by simp, by simp [hs], fun v => by simp [setSc], by simp [delSc], by simp [h1]⟩
    · have hne : ((⟨k.toArray⟩ : ByteArray) == ⟨a.toArray⟩) = false := by
        rw [Bool.eq_false_iff]
        intro hh
        apply hk
        have := congrArg (fun a : ByteArray => a.data.toList) ((Go.MapKept.bytes_beq _ _).1 hh)
        simpa using this
      have hkb : (k == a) = false := by simpa using hk
      rw [List.lookup_cons, hkb] at hu
      obtain ⟨j, j1, j2, j3, j4, j5⟩ := run_findJ k l es (i + 1) h3 u hu
      have hak : ¬ a = k := fun h => hk h.symm
      refine ⟨j + 1, by simp; omega, ?_, fun v => by simp [setSc, hak, j3], by simp [delSc, hak, j4], by simpa using j5⟩
      simp only [hne]
      rw [j2]
      simp [Nat.add_assoc, Nat.add_comm 1]

theorem run_set {m : Nat} {l : Sc} (x : Hold W w (Ents m l :: L)) (k v : Bytes) :
    ∃ w', (Instr.mapUpdate 69 (.map (some m)) (str k) (str v)).run Tryz.prog w = .ok () w' ∧ Hold W w' (Ents m (setSc l k v) :: L) := by
  cases hl : l.lookup k with
  | none => rw [setSc_none hl]; exact run_update x k v hl
  | some u =>
    obtain ⟨es, c, he, y⟩ := Ents.out x
    have hu : Tryz.prog.underlying 69 = some (.map 9 9) := by kernel_rfl
    obtain ⟨j, j1, j2, j3, j4, j5⟩ := run_findJ k l es.toList 0 he u hl
    rw [Nat.zero_add] at j2
    have hck : ∀ em w, (Instr.checkKey em 10000 9 (str k)).run Tryz.prog w = .ok () w := fun em w => checkKey_str em 9999 k w
    have hlt : m < w.heap.size := lt_of_block y.block
    have hkey : (es[j]?.map (·.key)).getD (str k) = str k := by
      have : es[j]? = es.toList[j]? := by simp
      rw [this, j5]; rfl
    have hst : ∀ w, (Instr.keyThatStays (str k) (str k)).run Tryz.prog w = .ok (str k) w := fun w => by
      have hs : ((⟨k.toArray⟩ : ByteArray) == ⟨k.toArray⟩) = true := (Go.MapKept.bytes_beq _ _).2 rfl
      unfold Instr.keyThatStays
      rw [if_pos (by unfold Instr.sameBits; exact hs)]
      rfl
    refine ⟨{ w with heap := w.heap.setIfInBounds m (.map (es.modify j fun e => { e with key := str k, val := str v }) c) }, ?_, ?_⟩
    · unfold Instr.mapUpdate
      simp only [Sem.run_bind, run_underlying hu, Result.andThen_ok, getObj, Sem.run, y.block, hck, Instr.findKey, run_underlying undString, Sem.run_pure, j2]
      rw [hkey]
      simp only [hst, Result.andThen_ok]
      simp [setObj, Sem.run, y.block]
    · refine Ents.mk (es := es.modify j fun e => { e with key := str k, val := str v }) (c := c) ?_ (y.put rfl rfl rfl (by simp) (by simp [hlt]) fun j' _ hj => by simp only [Array.getElem?_setIfInBounds]; rw [if_neg (by omega)])
      rw [j3]
      have hes : es.toList.length = l.length := by simpa using congrArg List.length he
      refine List.ext_getElem? fun i => ?_
      have hi : (es.toList.map (fun e => (e.key, e.val)))[i]? = (l.map (fun p => (str p.1, str p.2)))[i]? := by rw [he]
      simp only [List.getElem?_map, Array.toList_modify, List.getElem?_modify, List.getElem?_set] at hi ⊢
      by_cases hij : j = i
      · subst hij
        simp only [if_true, j1]
        have : es.toList[j]? = some (es.toList[j]'(by omega)) := List.getElem?_eq_getElem (by omega)
        rw [this]; rfl
      · simp only [if_neg hij]
        simpa using hi

theorem run_del {m : Nat} {l : Sc} (x : Hold W w (Ents m l :: L)) (k : Bytes) (ty : TypeId) :
    ∃ w', (Builtin.delete_ #[69, 9] ty #[.map (some m), str k]).run Tryz.prog w = .ok (.tuple #[]) w' ∧ Hold W w' (Ents m (delSc l k) :: L) := by
  obtain ⟨es, c, he, y⟩ := Ents.out x
  have hu : Tryz.prog.underlying 69 = some (.map 9 9) := by kernel_rfl
  have hck : ∀ em w, (Instr.checkKey em 10000 9 (str k)).run Tryz.prog w = .ok () w := fun em w => checkKey_str em 9999 k w
  have hlt : m < w.heap.size := lt_of_block y.block
  cases hl : l.lookup k with
  | none =>
    have hf := (run_find es.toList l k 0 he).2 hl
    refine ⟨{ w with heap := w.heap.setIfInBounds m (.map es c) }, ?_, ?_⟩
    · unfold Builtin.delete_
      simp only [List.getElem?_toArray, List.getElem?_cons_zero, List.getElem?_cons_succ]
      simp only [Sem.run_bind, run_underlying hu, Result.andThen_ok, getObj, Sem.run, y.block, hck, Instr.findKey, run_underlying undString, Sem.run_pure, hf]
      simp [setObj, Sem.run, y.block, Result.andThen]
    · rw [delSc_none hl]
      exact Ents.mk (es := es) (c := c) he (y.put rfl rfl rfl (by simp) (by simp [hlt]) fun j' _ hj => by simp only [Array.getElem?_setIfInBounds]; rw [if_neg (by omega)])
  | some u =>
    obtain ⟨j, j1, j2, j3, j4, j5⟩ := run_findJ k l es.toList 0 he u hl
    rw [Nat.zero_add] at j2
    refine ⟨{ w with heap := w.heap.setIfInBounds m (.map (es.eraseIdxIfInBounds j) c) }, ?_, ?_⟩
    · unfold Builtin.delete_
      simp only [List.getElem?_toArray, List.getElem?_cons_zero, List.getElem?_cons_succ]
      simp only [Sem.run_bind, run_underlying hu, Result.andThen_ok, getObj, Sem.run, y.block, hck, Instr.findKey, run_underlying undString, Sem.run_pure, j2]
      simp [setObj, Sem.run, y.block, Result.andThen]
    · refine Ents.mk (es := es.eraseIdxIfInBounds j) (c := c) ?_ (y.put rfl rfl rfl (by simp) (by simp [hlt]) fun j' _ hj => by simp only [Array.getElem?_setIfInBounds]; rw [if_neg (by omega)])
      rw [j4]
      have hes : es.size = l.length := by simpa using congrArg List.length he
      have : (es.eraseIdxIfInBounds j).toList = es.toList.eraseIdx j := by
        unfold Array.eraseIdxIfInBounds
        rw [dif_pos (by omega)]
        simp
      rw [this, ← erase_map, he, erase_map]

theorem run_lookup_nil (k : Bytes) (w : World) :
    (Instr.lookup 69 (.map none) (str k) true).run Tryz.prog w = .ok (.tuple #[str [], .bool false]) w := by
  have hu : Tryz.prog.underlying 69 = some (.map 9 9) := by kernel_rfl
  have hz : ∀ w, (zeroValue 9).run Tryz.prog w = .ok (str []) w := fun w => by kernel_rfl
  have hck : ∀ em w, (Instr.checkKey em 10000 9 (str k)).run Tryz.prog w = .ok () w := fun em w => checkKey_str em 9999 k w
  unfold Instr.lookup
  simp only [Sem.run_bind, run_underlying hu, Result.andThen_ok, hck, Instr.findKey, run_underlying undString, Sem.run_pure, hz, Instr.findNow]
  rfl

/-- Maps of texts, all of them; what a map's value stands for. -/
def MapsA (ms : List (Nat × Sc)) : Asn := Asn.all (ms.map fun p => Ents p.1 p.2)
def ScIn (mo : Option Nat) (sc : Sc) (ms : List (Nat × Sc)) : Prop := (mo = none ∧ sc = []) ∨ ∃ m, mo = some m ∧ (m, sc) ∈ ms

theorem MapsA.nil (x : Hold W w L) : Hold W w (MapsA [] :: L) := x.emp'
theorem MapsA.add {m : Nat} {l : Sc} {ms : List (Nat × Sc)} (x : Hold W w (Ents m l :: MapsA ms :: L)) : Hold W w (MapsA (ms ++ [(m, l)]) :: L) := by
  have := x.f1
  unfold MapsA at this ⊢
  rw [List.map_append]
  exact this.gulp
theorem MapsA.pick {m : Nat} {l : Sc} {ms : List (Nat × Sc)} (h : (m, l) ∈ ms) (x : Hold W w (MapsA ms :: L)) : ∃ L', Hold W w (Ents m l :: L') :=
  Hold.pick (List.mem_map.2 ⟨(m, l), h, rfl⟩) x
theorem ScIn.more {mo : Option Nat} {sc : Sc} {ms : List (Nat × Sc)} (h : ScIn mo sc ms) (r : List (Nat × Sc)) : ScIn mo sc (ms ++ r) := by
  rcases h with h | ⟨m, h1, h2⟩
  · exact .inl h
  · exact .inr ⟨m, h1, List.mem_append_left _ h2⟩
theorem ScIn.look {mo : Option Nat} {sc : Sc} {ms : List (Nat × Sc)} (h : ScIn mo sc ms) (x : Hold W w (MapsA ms :: L)) (k : Bytes) :
    (Instr.lookup 69 (.map mo) (str k) true).run Tryz.prog w = .ok (.tuple #[str ((sc.lookup k).getD []), .bool (sc.lookup k).isSome]) w := by
  rcases h with ⟨rfl, rfl⟩ | ⟨m, rfl, hm⟩
  · exact run_lookup_nil k w
  · obtain ⟨L', y⟩ := MapsA.pick hm x
    exact run_lookup y k
/-- A map's entries. -/
theorem ScIn.block {m : Nat} {sc : Sc} {ms : List (Nat × Sc)} (h : (m, sc) ∈ ms) (x : Hold W w (MapsA ms :: L)) :
    ∃ es c, es.toList.map (fun e => (e.key, e.val)) = sc.map (fun p => (str p.1, str p.2)) ∧ w.heap[m]? = some (.map es c) := by
  obtain ⟨L', y⟩ := MapsA.pick h x
  obtain ⟨es, c, he, z⟩ := Ents.out y
  exact ⟨es, c, he, z.block⟩
end
end Go.Proofs.YtahfcgjlcdbnjaaGreatDoor
/- A tree as it lies in memory. -/
namespace Go.Proofs.YtahfcgjlcdbnjaaGreatDoor
open Go.RowKit

/-- A node's cells. -/
def nodCells (n : Nod) (mo : Option Nat) : List Value := [.int .i64 n.kind, str n.uri, str n.pre, str n.loc, str n.text, .int .i64 n.deep, .int .i64 n.parent, .int .i64 n.fin, .map mo]
abbrev NodM := Nod × Option Nat
def Nodes (v : Value) (l : List NodM) : Asn := Row 71 9 v l.length (l.flatMap fun p => nodCells p.1 p.2)
/-- Each node's prefixes are one of the maps. -/
def ScsIn (l : List NodM) (ms : List (Nat × Sc)) : Prop := ∀ p ∈ l, ScIn p.2 p.1.sc ms
/-- A tree, all of it. -/
def Tree (tp : Nat) (ns : List Nod) : Asn := Asn.ex fun v => Asn.ex fun l : List NodM => Asn.ex fun ms : List (Nat × Sc) =>
  Asn.star (Asn.pure (l.map (·.1) = ns ∧ ScsIn l ms)) (Asn.star (Asn.pts tp (.cells #[v] 75 (0, 0))) (Asn.star (Nodes v l) (MapsA ms)))

section
variable {W w : World} {L : List Asn}

theorem Tree.out {tp : Nat} {ns : List Nod} (x : Hold W w (Tree tp ns :: L)) : ∃ v l ms, l.map (·.1) = ns ∧ ScsIn l ms ∧
    Hold W w (Asn.pts tp (.cells #[v] 75 (0, 0)) :: Nodes v l :: MapsA ms :: L) := by
  obtain ⟨v, x⟩ := x.ex
  obtain ⟨l, x⟩ := x.ex
  obtain ⟨ms, x⟩ := x.ex
  obtain ⟨⟨h1, h2⟩, x⟩ := x.sep.pure
  have x := x.sep
  exact ⟨v, l, ms, h1, h2, (x.f1.sep).re [2, 0, 1]⟩
theorem Tree.mk {tp : Nat} {v : Value} {l : List NodM} {ms : List (Nat × Sc)} (h2 : ScsIn l ms)
    (x : Hold W w (Asn.pts tp (.cells #[v] 75 (0, 0)) :: Nodes v l :: MapsA ms :: L)) : Hold W w (Tree tp (l.map (·.1)) :: L) := by
  have y := (x.re [1, 2, 0] : Hold W w (Nodes v l :: MapsA ms :: Asn.pts tp (.cells #[v] 75 (0, 0)) :: L)).sep'.f1.sep'
  exact Hold.ex' (P := fun v => Asn.ex fun l' : List NodM => Asn.ex fun ms : List (Nat × Sc) => Asn.star (Asn.pure (l'.map (·.1) = l.map (·.1) ∧ ScsIn l' ms)) (Asn.star (Asn.pts tp (.cells #[v] 75 (0, 0))) (Asn.star (Nodes v l') (MapsA ms)))) v
    (Hold.ex' (P := fun l' : List NodM => Asn.ex fun ms : List (Nat × Sc) => Asn.star (Asn.pure (l'.map (·.1) = l.map (·.1) ∧ ScsIn l' ms)) (Asn.star (Asn.pts tp (.cells #[v] 75 (0, 0))) (Asn.star (Nodes v l') (MapsA ms)))) l
      (Hold.ex' (P := fun ms : List (Nat × Sc) => Asn.star (Asn.pure (l.map (·.1) = l.map (·.1) ∧ ScsIn l ms)) (Asn.star (Asn.pts tp (.cells #[v] 75 (0, 0))) (Asn.star (Nodes v l) (MapsA ms)))) ms
        (Hold.sep' (Hold.pure' ⟨rfl, h2⟩ y))))

/-- The nodes' cells. -/
theorem Nodes.read {v : Value} {l : List NodM} (x : Hold W w (Nodes v l :: L)) (h : 0 < l.length) :
    ∃ g c, v = .slice (some ⟨g, 0, none⟩) l.length c ∧ l.length ≤ c ∧ c ≤ maxLen ∧ ∀ (i j : Nat) n mo u, l[i]? = some (n, mo) → (nodCells n mo)[j]? = some u → w.cell? ⟨g, i * 9 + j, none⟩ = some u := by
  obtain ⟨g, c, hv, h1, h2, hc⟩ := Row.read x h
  refine ⟨g, c, hv, h1, h2, fun i j n mo u hi hj => hc _ _ ?_⟩
  have hj9 : j < 9 := (List.getElem?_eq_some_iff.1 hj).1
  rw [flatMap_at (fun p : NodM => nodCells p.1 p.2) 9 (fun _ => rfl) l i j hj9, hi]
  exact hj
end
end Go.Proofs.YtahfcgjlcdbnjaaGreatDoor
/- xdm's declares, named, and maps.Clone. -/
namespace Go.Proofs.YtahfcgjlcdbnjaaGreatDoor
open Go.RowKit

section
variable {W w : World} {L : List Asn}

theorem undMapS : Tryz.prog.underlying 69 = some (.map 9 9) := by kernel_rfl

set_option maxHeartbeats 1000000 in
theorem declares_any (n : Bytes) (w : World) :
    Calls Tryz.prog 66 #[str n] w fun e w' => e = .returned (.tuple #[str ((declares n).getD n), .bool (declares n).isSome]) ∧ w = w' := by
  have hq : ((⟨n.toArray⟩ : ByteArray) == ⟨#[120, 109, 108, 110, 115]⟩) = (n == xmlnsB) := bytes_eqc n [120, 109, 108, 110, 115]
  have hq2 : (n == [120, 109, 108, 110, 115]) = (n == xmlnsB) := rfl
  cases hb : (n == xmlnsB)
  · rw [hb] at hq hq2
    have HD : Hid (declares n = if (xmlnsB ++ [58]).isPrefixOf n then some (n.drop 6) else none) := by
      show _ = _
      unfold declares
      rw [if_neg (by simpa using hb)]
    clear hb
    go_enter Tryz.func66, Tryz.ntmps66
    go_wp2_with fail
    refine (cutPrefix_any n [120, 109, 108, 110, 115, 58]).mono ?_
    rintro e w1 ⟨rfl, rfl⟩
    have HR : Hid (Lib.trimPrefix n [120, 109, 108, 110, 115, 58] = (declares n).getD n ∧ Lib.hasPrefix n [120, 109, 108, 110, 115, 58] = (declares n).isSome) := by
      show _ ∧ _
      rw [HD.out]
      unfold Lib.trimPrefix Lib.hasPrefix
      rw [show xmlnsB ++ [58] = [120, 109, 108, 110, 115, 58] from rfl]
      cases ([120, 109, 108, 110, 115, 58] : Bytes).isPrefixOf n <;> exact ⟨rfl, rfl⟩
    rw [HR.out.1, HR.out.2]
    go_wp2_with fail
    go_ret2
    exact ⟨rfl, rfl⟩
  · rw [hb] at hq hq2
    have HD : Hid (declares n = some []) := by
      show _ = _
      unfold declares
      rw [if_pos (by simpa using hb)]
    clear hb
    go_enter Tryz.func66, Tryz.ntmps66
    go_wp2_with fail
    go_ret2
    exact ⟨by rw [HD.out]; rfl, rfl⟩

set_option maxHeartbeats 2000000 in
set_option maxRecDepth 100000 in
theorem clone_any (m : Nat) (es : Array MapEntry) (clock : Nat) (w : World) (hb : w.heap[m]? = some (.map es clock)) :
    Calls Tryz.prog 104 #[.map (some m)] w fun e w' => e = .returned (.map (some w.heap.size)) ∧ w' = w.alloc (.map es clock) := by
  have hq := fun w => run_eql_map_nil_sl (P := Tryz.prog) w 69 _ _ (some m) undMapS
  go_enter Tryz.func104, Tryz.ntmps104
  go_wp2
  rw [run_callFunc_extern Tryz.func138 (by kernel_rfl) (by kernel_rfl) (by kernel_rfl) (e := Extern.MapsClone.clone) (by kernel_rfl), run_maps_clone_sl w 69 hb]
  simp only [Result.andThen]
  rw [Oper.upon_value]
  go_wp2
  rw [run_typeAssert_map_sl _ 69 20 _ _ _ undMapS]
  simp only [Result.andThen]
  rw [Oper.upon_value]
  go_wp2
  go_ret
  exact ⟨rfl, rfl⟩
set_option maxHeartbeats 2000000 in
set_option maxRecDepth 100000 in
theorem clone_nil (w : World) :
    Calls Tryz.prog 104 #[.map none] w fun e w' => e = .returned (.map none) ∧ w' = w := by
  have hq := fun w => run_eql_map_nil_sl (P := Tryz.prog) w 69 _ _ none undMapS
  go_enter Tryz.func104, Tryz.ntmps104
  go_wp2
  go_ret
  exact ⟨rfl, rfl⟩

/-- What named answers. -/
def namedV (q : Bytes) : Option Bytes → Value
  | some u => .tuple #[.agg #[str u, str (parted q).1, str (parted q).2], .bool true]
  | none => .tuple #[.agg #[str [], str [], str []], .bool false]

theorem splitV_parted (q : Bytes) : splitV (split q) = .tuple #[str (parted q).1, str (parted q).2, .bool (split q).isSome] := by
  unfold parted
  cases split q with
  | none => rfl
  | some p => rfl

set_option maxHeartbeats 4000000 in
set_option maxRecDepth 100000 in
theorem named_any (g : Glob W) {ms : List (Nat × Sc)} (x : Hold W w (MapsA ms :: L)) (mo : Option Nat) (sc : Sc) (hsc : ScIn mo sc ms) (q : Bytes) (hq : q.length ≤ 1048576) (attr : Bool) :
    Calls Tryz.prog 65 #[.map mo, str q, .bool attr] w fun e w' => e = .returned (namedV q (uriOf sc (parted q).1 attr)) ∧ Hold W w' (MapsA ms :: L) := by
  have HX := Lib.hid (x.alloc (.cells #[.string ⟨#[]⟩, .string ⟨#[]⟩, .string ⟨#[]⟩] 30))
  have HG := Lib.hid g
  have HS := Lib.hid hsc
  clear x g hsc
  go_enter Tryz.func65, Tryz.ntmps65
  go_wp2_with fail
  refine (split_any (HG.out.carry HX.out) q hq).mono ?_
  rw [splitV_parted]
  rintro e w1 ⟨rfl, hb⟩
  have HX1 := Lib.hid (HX.out.below hb)
  clear hb
  obtain ⟨p, hp⟩ : ∃ p, (parted q).1 = p := ⟨_, rfl⟩
  obtain ⟨lo, hlo⟩ : ∃ p, (parted q).2 = p := ⟨_, rfl⟩
  rw [hp, hlo]
  have HP := Lib.hid hp
  have HLO := Lib.hid hlo
  clear hp hlo
  have hx : ((⟨p.toArray⟩ : ByteArray) == ⟨#[120, 109, 108]⟩) = (p == xmlB) := bytes_eqc p [120, 109, 108]
  have hx2 : (p == [120, 109, 108]) = (p == xmlB) := rfl
  have HX2 := Lib.hid (HX1.out.alloc (.cells #[.string ⟨#[]⟩, str p, str lo] 30))
  have HU : Hid (uriOf sc p attr = if p = xmlB then some xmlUri else if p.isEmpty && attr then some [] else match getSc sc p with | some u => some u | none => if p.isEmpty then some [] else none) := rfl
  cases hpx : (p == xmlB)
  · rw [hpx] at hx hx2
    have hpn : ¬ p = xmlB := by simpa using hpx
    have HU2 : Hid (uriOf sc p attr = if p.isEmpty && attr then some [] else match getSc sc p with | some u => some u | none => if p.isEmpty then some [] else none) := by show _ = _; rw [HU.out, if_neg hpn]
    have hlk := HS.out.look HX2.out.f2 p
    obtain ⟨o, ho⟩ : ∃ o, getSc sc p = o := ⟨_, rfl⟩
    have HO := Lib.hid ho
    have ho' : List.lookup p sc = o := ho
    rw [ho'] at hlk
    clear hpn hpx ho ho'
    cases he : List.isEmpty p
    · cases o with
      | none =>
        have HR : Hid (uriOf sc (parted q).1 attr = none) := by show _ = _; rw [HP.out, HU2.out, he, HO.out]; rfl
        simp only [Option.getD_none, Option.isSome_none] at hlk
        have r0 := HX2.out.f1.cell 0
        have t0 := HX2.out.f1.free 0
        have r1 := HX2.out.f1.cell 1
        have t1 := HX2.out.f1.free 1
        have r2 := HX2.out.f1.cell 2
        have t2 := HX2.out.f1.free 2
        go_wp2_with fail
        (try simp only [Exit.inBlock, Exit.then])
        refine bodyPost_ret (v := .tuple #[.agg #[str [], str [], str []], .bool false]) (by rw [results_cell_tmp rfl]; go_simp) rfl ⟨by rw [HR.out]; simp only [namedV], ?_⟩
        exact (((HX2.out.f1.set 0 _).set 1 _).set 2 _).drop.drop
      | some u =>
        have HR : Hid (uriOf sc (parted q).1 attr = some u) := by show _ = _; rw [HP.out, HU2.out, he, HO.out]; rfl
        have HX3 := Lib.hid (HX1.out.alloc (.cells #[str u, str p, str lo] 30))
        have r0 := HX3.out.f1.cell 0
        have t0 := HX3.out.f1.free 0
        have r1 := HX3.out.f1.cell 1
        have t1 := HX3.out.f1.free 1
        have r2 := HX3.out.f1.cell 2
        have t2 := HX3.out.f1.free 2
        simp only [Option.getD_some, Option.isSome_some] at hlk
        go_wp2_with fail
        (try simp only [Exit.inBlock, Exit.then])
        refine bodyPost_ret (v := .tuple #[.agg #[str u, str p, str lo], .bool true]) (by rw [results_cell_tmp rfl]; go_simp) rfl ⟨by rw [HR.out]; simp only [namedV, HP.out, HLO.out], ?_⟩
        exact (((HX3.out.f1.set 0 _).set 1 _).set 2 _).drop.drop
    · cases attr
      · cases o with
        | none =>
          have HR : Hid (uriOf sc (parted q).1 false = some []) := by show _ = _; rw [HP.out, HU2.out, he, HO.out]; rfl
          simp only [Option.getD_none, Option.isSome_none] at hlk
          have HX3 := Lib.hid (HX1.out.alloc (.cells #[str [], str p, str lo] 30))
          have r0 := HX3.out.f1.cell 0
          have t0 := HX3.out.f1.free 0
          have r1 := HX3.out.f1.cell 1
          have t1 := HX3.out.f1.free 1
          have r2 := HX3.out.f1.cell 2
          have t2 := HX3.out.f1.free 2
          go_wp2_with fail
          (try simp only [Exit.inBlock, Exit.then])
          refine bodyPost_ret (v := .tuple #[.agg #[str [], str p, str lo], .bool true]) (by rw [results_cell_tmp rfl]; go_simp) rfl ⟨by rw [HR.out]; simp only [namedV, HP.out, HLO.out], ?_⟩
          exact (((HX3.out.f1.set 0 _).set 1 _).set 2 _).drop.drop
        | some u =>
          have HR : Hid (uriOf sc (parted q).1 false = some u) := by show _ = _; rw [HP.out, HU2.out, he, HO.out]; rfl
          have HX3 := Lib.hid (HX1.out.alloc (.cells #[str u, str p, str lo] 30))
          have r0 := HX3.out.f1.cell 0
          have t0 := HX3.out.f1.free 0
          have r1 := HX3.out.f1.cell 1
          have t1 := HX3.out.f1.free 1
          have r2 := HX3.out.f1.cell 2
          have t2 := HX3.out.f1.free 2
          simp only [Option.getD_some, Option.isSome_some] at hlk
          go_wp2_with fail
          (try simp only [Exit.inBlock, Exit.then])
          refine bodyPost_ret (v := .tuple #[.agg #[str u, str p, str lo], .bool true]) (by rw [results_cell_tmp rfl]; go_simp) rfl ⟨by rw [HR.out]; simp only [namedV, HP.out, HLO.out], ?_⟩
          exact (((HX3.out.f1.set 0 _).set 1 _).set 2 _).drop.drop
      · have HR : Hid (uriOf sc (parted q).1 true = some []) := by show _ = _; rw [HP.out, HU2.out, he]; rfl
        have r0 := HX2.out.f1.cell 0
        have t0 := HX2.out.f1.free 0
        have r1 := HX2.out.f1.cell 1
        have t1 := HX2.out.f1.free 1
        have r2 := HX2.out.f1.cell 2
        have t2 := HX2.out.f1.free 2
        go_wp2_with fail
        (try simp only [Exit.inBlock, Exit.then])
        refine bodyPost_ret (v := .tuple #[.agg #[str [], str p, str lo], .bool true]) (by rw [results_cell_tmp rfl]; go_simp) rfl ⟨by rw [HR.out]; simp only [namedV, HP.out, HLO.out], ?_⟩
        exact (((HX2.out.f1.set 0 _).set 1 _).set 2 _).drop.drop
  · rw [hpx] at hx hx2
    have HR : Hid (uriOf sc (parted q).1 attr = some xmlUri) := by show _ = _; rw [HP.out, HU.out, if_pos (by simpa using hpx)]
    clear hpx
    have HX3 := Lib.hid (HX1.out.alloc (.cells #[.string ⟨#[104, 116, 116, 112, 58, 47, 47, 119, 119, 119, 46, 119, 51, 46, 111, 114, 103, 47, 88, 77, 76, 47, 49, 57, 57, 56, 47, 110, 97, 109, 101, 115, 112, 97, 99, 101]⟩, str p, str lo] 30))
    have r0 := HX3.out.f1.cell 0
    have t0 := HX3.out.f1.free 0
    have r1 := HX3.out.f1.cell 1
    have t1 := HX3.out.f1.free 1
    have r2 := HX3.out.f1.cell 2
    have t2 := HX3.out.f1.free 2
    go_wp2_with fail
    (try simp only [Exit.inBlock, Exit.then])
    refine bodyPost_ret (v := .tuple #[.agg #[.string ⟨#[104, 116, 116, 112, 58, 47, 47, 119, 119, 119, 46, 119, 51, 46, 111, 114, 103, 47, 88, 77, 76, 47, 49, 57, 57, 56, 47, 110, 97, 109, 101, 115, 112, 97, 99, 101]⟩, str p, str lo], .bool true]) (by rw [results_cell_tmp rfl]; go_simp) rfl ⟨by rw [HR.out]; simp only [namedV, HP.out, HLO.out]; rfl, ?_⟩
    exact (((HX3.out.f1.set 0 _).set 1 _).set 2 _).drop.drop
end
end Go.Proofs.YtahfcgjlcdbnjaaGreatDoor
/- xdm's add: a node more. -/
namespace Go.Proofs.YtahfcgjlcdbnjaaGreatDoor
open Go.RowKit

theorem infoNod : (Tryz.prog.info? 71).map (fun i => (i.zero, i.size, i.bytes)) = some (some (.agg #[.int .i64 0, .string ⟨#[]⟩, .string ⟨#[]⟩, .string ⟨#[]⟩, .string ⟨#[]⟩, .int .i64 0, .int .i64 0, .int .i64 0, .map none]), 9, 104) := by kernel_rfl
theorem undNods : Tryz.prog.underlying 73 = some (.slice 71) := by kernel_rfl

/-- How deep a node in another one lies. -/
def deepAt (l : List NodM) (at_ : Int) : Int := if 0 ≤ at_ then (match l[at_.toNat]? with | some p => p.1.deep + 1 | none => 0) else 0
def nodAt (l : List NodM) (at_ kind : Int) (uri pre loc text : Bytes) (sc : Sc) : Nod := ⟨kind, uri, pre, loc, text, deepAt l at_, at_, 0, sc⟩
theorem addN_map (l : List NodM) (at_ kind : Int) (uri pre loc text : Bytes) (sc : Sc) (mo : Option Nat) :
    addN (l.map (·.1)) at_ kind uri pre loc text sc = (l ++ [(nodAt l at_ kind uri pre loc text sc, mo)]).map (·.1) := by
  unfold addN nodAt deepAt
  rw [List.map_append, List.getElem?_map]
  cases l[at_.toNat]? <;> rfl
/-- Depths that do not run away. -/
def DeepOk (l : List NodM) : Prop := ∀ p ∈ l, 0 ≤ p.1.deep ∧ p.1.deep ≤ l.length
theorem deepAt_le {l : List NodM} (h : DeepOk l) (at_ : Int) : 0 ≤ deepAt l at_ ∧ deepAt l at_ ≤ l.length + 1 := by
  unfold deepAt
  split
  · split
    · rename_i p hp
      have := h p (List.mem_of_getElem? hp)
      omega
    · omega
  · omega
theorem DeepOk.snoc {l : List NodM} (h : DeepOk l) (at_ kind : Int) (uri pre loc text : Bytes) (sc : Sc) (mo : Option Nat) : DeepOk (l ++ [(nodAt l at_ kind uri pre loc text sc, mo)]) := by
  intro p hp
  rw [List.length_append, List.length_singleton]
  rcases List.mem_append.1 hp with hp | hp
  · have := h p hp
    omega
  · rw [List.mem_singleton] at hp
    subst hp
    have := deepAt_le h at_
    show 0 ≤ deepAt l at_ ∧ deepAt l at_ ≤ _
    omega

section
variable {W w : World} {L : List Asn}

theorem Nodes.snoc {v : Value} {l : List NodM} (n : Nod) (mo : Option Nat) (x : Hold W w (Row 71 9 v (l.length + 1) ((l.flatMap fun p => nodCells p.1 p.2) ++ nodCells n mo) :: L)) : Hold W w (Nodes v (l ++ [(n, mo)]) :: L) := by
  unfold Nodes
  rw [List.length_append, List.length_singleton, List.flatMap_append]
  simpa using x

set_option maxHeartbeats 2000000 in
set_option maxRecDepth 100000 in
theorem add4_any {tp : Nat} {v : Value} {l : List NodM} (x : Hold W w (Asn.pts tp (.cells #[v] 75 (0, 0)) :: Nodes v l :: L)) (hl : l.length ≤ 1000000) (hdp : DeepOk l)
    (at_ : Int) (hat : at_ < 0 ∨ ∃ k : Nat, at_ = k ∧ k < l.length) (hlo : -1 ≤ at_) (kind : Int) (uri pre loc text : Bytes) (sc : Sc) (mo : Option Nat) :
    Calls Tryz.prog 36 #[.pointer (some ⟨tp, 0, none⟩), .int .i64 at_, .agg #[.int .i64 kind, str uri, str pre, str loc, str text, .int .i64 0], .map mo] w
      fun e w' => e = .returned (.int .i64 l.length) ∧ ∃ v', Hold W w' (Asn.pts tp (.cells #[v'] 75 (0, 0)) :: Nodes v' (l ++ [(nodAt l at_ kind uri pre loc text sc, mo)]) :: L) := by
  obtain ⟨d, hd⟩ : ∃ d, deepAt l at_ = d := ⟨_, rfl⟩
  have hdr := deepAt_le hdp at_
  rw [hd] at hdr
  have hnod : nodCells (nodAt l at_ kind uri pre loc text sc) mo = [.int .i64 kind, str uri, str pre, str loc, str text, .int .i64 d, .int .i64 at_, .int .i64 0, .map mo] := by
    unfold nodCells nodAt; rw [hd]
  have HNOD := Lib.hid hnod
  obtain ⟨va, vc, hv⟩ := Row.slice x.f1
  subst hv
  obtain ⟨i0, hi, hz0, hz1, hz2⟩ := info_parts infoNod
  have x1 := x.f1.alloc (.cells #[.int .i64 kind, str uri, str pre, str loc, str text, .int .i64 d] 68)
  have HA := Lib.hid (show Hold W ((w.alloc (.cells #[.int .i64 kind, str uri, str pre, str loc, str text, .int .i64 d] 68)).alloc (.cells #[.int .i64 kind, str uri, str pre, str loc, str text, .int .i64 d, .int .i64 at_, .int .i64 0, .map mo] 71)).drew _ from
    ((x1.allocAt (o := .cells #[.int .i64 kind, str uri, str pre, str loc, str text, .int .i64 d, .int .i64 at_, .int .i64 0, .map mo] 71) (b := w.heap.size + 1) rfl (by simp)).drew))
  have x0 := x.f1.alloc (.cells #[.int .i64 kind, str uri, str pre, str loc, str text, .int .i64 0] 68)
  have hc9 := x0.f2.cell 0
  have hf := x.free 0
  have hc0 := x.cell 0
  have hc1 := x1.f2.cell 0
  have hf1 := x1.f2.free 0
  have hc2 := HA.out.f3.cell 0
  by_cases h0 : 0 ≤ at_
  · obtain ⟨k, rfl, hk⟩ : ∃ k : Nat, at_ = k ∧ k < l.length := by
      rcases hat with h | h
      · omega
      · exact h
    obtain ⟨g, c, hsl, h1, h2, hcells⟩ := Nodes.read x0.f1 (by omega)
    obtain ⟨rfl, rfl⟩ : va = some ⟨g, 0, none⟩ ∧ vc = c := by cases hsl; exact ⟨rfl, rfl⟩
    obtain ⟨nk, hnk⟩ : ∃ p, l[k]? = some p := ⟨_, List.getElem?_eq_getElem hk⟩
    have hkd : nk.1.deep + 1 = d := by
      rw [← hd]; unfold deepAt
      rw [if_pos h0, Int.toNat_natCast, hnk]
    have ck := hcells k 5 nk.1 nk.2 (.int .i64 nk.1.deep) hnk rfl
    have hb := hdp nk (List.mem_of_getElem? hnk)
    have hk' : (k : Int) < (l.length : Int) := by omega
    generalize nk.1.deep = dk at *
    subst hkd
    clear hnk hcells hsl hd hnod hdp x x0 x1 hat hlo
    go_enter Tryz.func36, Tryz.ntmps36
    go_wp2_with fail
    go_region_law
      ((refine step_append (by rfl) _ _ 73 (by rfl) i0 _ 104 undNods hi hz0 hz1 hz2 rfl (by decide) (by rfl) HA.out.f2 ⟨w.heap.size + 1, 0, none⟩ 1 1 [.int .i64 kind, str uri, str pre, str loc, str text, .int .i64 (dk + 1), .int .i64 k, .int .i64 0, .map mo] (by rfl) (by rfl) (news_of HA.out) (by simp [Value.oneCell']) (by unfold maxLen; omega) (by omega) ?_
        intro ua uc w2 z
        have hf2' := z.f3.free 0
        have k1 := z.f3.cell 0
        have ZZ := Lib.hid z
        clear z))
    all_goals
      go_wp2_with fail
      go_ret
      refine ⟨by simp, .slice ua (l.length + 1) uc, ?_⟩
      have z := ((ZZ.out.f3.set 0 (.slice ua (l.length + 1) uc)).re [2, 3, 1, 0]).drop.drop
      rw [← HNOD.out] at z
      exact (Nodes.snoc _ _ z).f1
  · obtain rfl : at_ = -1 := by omega
    have hd0 : d = 0 := by rw [← hd]; unfold deepAt; rw [if_neg (by decide)]
    subst hd0
    clear hd hnod hdp x x0 x1 hat hlo
    go_enter Tryz.func36, Tryz.ntmps36
    go_wp2_with fail
    go_region_law
      ((refine step_append (by rfl) _ _ 73 (by rfl) i0 _ 104 undNods hi hz0 hz1 hz2 rfl (by decide) (by rfl) HA.out.f2 ⟨w.heap.size + 1, 0, none⟩ 1 1 [.int .i64 kind, str uri, str pre, str loc, str text, .int .i64 0, .int .i64 (-1), .int .i64 0, .map mo] (by rfl) (by rfl) (news_of HA.out) (by simp [Value.oneCell']) (by unfold maxLen; omega) (by omega) ?_
        intro ua uc w2 z
        have hf2' := z.f3.free 0
        have k1 := z.f3.cell 0
        have ZZ := Lib.hid z
        clear z))
    all_goals
      go_wp2_with fail
      go_ret
      refine ⟨by simp, .slice ua (l.length + 1) uc, ?_⟩
      have z := ((ZZ.out.f3.set 0 (.slice ua (l.length + 1) uc)).re [2, 3, 1, 0]).drop.drop
      rw [← HNOD.out] at z
      exact (Nodes.snoc _ _ z).f1
end
end Go.Proofs.YtahfcgjlcdbnjaaGreatDoor
/- A set of pairs of texts. -/
namespace Go.Proofs.YtahfcgjlcdbnjaaGreatDoor
open Go.RowKit

theorem undPair2 : Tryz.prog.underlying 124 = some (.array 2 9) := by kernel_rfl
theorem undSeen2 : Tryz.prog.underlying 123 = some (.map 124 4) := by kernel_rfl
abbrev pairV (k : Bytes × Bytes) : Value := .agg #[str k.1, str k.2]

theorem run_part0 (a b : Value) (w : World) : (part 9 #[a, b] 0).run Tryz.prog w = .ok a w := by kernel_rfl
theorem run_part1 (a b : Value) (w : World) : (part 9 #[a, b] 1).run Tryz.prog w = .ok b w := by kernel_rfl
theorem run_size1 (w : World) : (sizeOf 9).run Tryz.prog w = .ok 1 w := by kernel_rfl
theorem eq_str (n : Nat) (a b : Bytes) (w : World) : (Op.equalIn (n + 1) 9 (str a) (str b)).run Tryz.prog w = .ok (a == b) w := by
  unfold Op.equalIn
  simp only [Sem.run_bind, run_underlying undString, Result.andThen_ok]
  rw [← bytes_eqc a b]
  rfl
theorem eq_pair (k l : Bytes × Bytes) (w : World) : (Op.equal 124 (pairV k) (pairV l)).run Tryz.prog w = .ok (k == l) w := by
  obtain ⟨a, b⟩ := k
  obtain ⟨c, d⟩ := l
  have h1 := fun w => eq_str 9998 a c w
  have h2 := fun w => eq_str 9998 b d w
  have hkl : ((a, b) == (c, d)) = (a == c && b == d) := rfl
  rw [hkl]
  generalize (a == c) = e1 at *
  generalize (b == d) = e2 at *
  show (Op.equalIn (9999 + 1) _ _ _).run _ _ = _
  unfold Op.equalIn
  simp only [Sem.run_bind, run_underlying undPair2, Result.andThen_ok, run_size1]
  simp only [Std.Legacy.Range.forIn_eq_forIn_range', Std.Legacy.Range.size, Nat.sub_zero, Nat.add_sub_cancel, Nat.div_one, List.range'_succ, List.range'_zero, List.forIn_cons, List.forIn_nil, Sem.run_bind, Result.andThen_ok, Nat.zero_add, Nat.mul_one, run_part0, h1]
  cases e1 <;> cases e2 <;> simp [Result.andThen, Sem.run_bind, Sem.run_pure, run_part1, h2]
theorem ck_pair (em : Bool) (k : Bytes × Bytes) (w : World) : (Instr.checkKey em 10000 124 (pairV k)).run Tryz.prog w = .ok () w := by kernel_rfl

theorem run_ask (k : Bytes × Bytes) (w : World) : ∀ (ks : List (Bytes × Bytes)) (es : List MapEntry) (i : Nat), es.map (fun e => (e.key, e.val)) = ks.map (fun k => (pairV k, Value.bool true)) →
    (ks.contains k = true → ∃ j, j < es.length ∧ (Instr.findAsking 124 (pairV k) es i).run Tryz.prog w = .ok (some (i + j, .bool true)) w ∧ es[j]?.map (·.key) = some (pairV k)) ∧
    (ks.contains k = false → (Instr.findAsking 124 (pairV k) es i).run Tryz.prog w = .ok none w)
  | [], [], _, _ => ⟨fun h => (by cases h), fun _ => rfl⟩
  | [], _ :: _, _, h => by cases h
  | _ :: _, [], _, h => by cases h
  | p :: ks, e :: es, i, h => by
    obtain ⟨ha, h3⟩ := List.cons.inj h
    obtain ⟨h1, h2⟩ := Prod.mk.inj ha
    obtain ⟨ih1, ih2⟩ := run_ask k w ks es (i + 1) h3
    have hq : (Op.equal 124 (pairV k) e.key).run Tryz.prog w = .ok (k == p) w := by rw [h1]; exact eq_pair k p w
    unfold Instr.findAsking
    simp only [Sem.run_bind, hq, Result.andThen_ok, List.contains_cons]
    cases hk : (k == p)
    · simp only [Bool.false_or, Bool.false_eq_true, if_false]
      refine ⟨fun hc => ?_, ih2⟩
      obtain ⟨j, j1, j2, j3⟩ := ih1 hc
      refine ⟨j + 1, by simp; omega, ?_, by simpa using j3⟩
      rw [j2]
      simp [Nat.add_assoc, Nat.add_comm 1]
    · have hkp : k = p := by simpa using hk
      simp only [Bool.true_or, if_true]
      refine ⟨fun _ => ⟨0, by simp, ?_, by rw [hkp]; simp [h1]⟩, fun hc => by cases hc⟩
      rw [h2]; rfl

theorem run_key2 (k : Bytes × Bytes) (w : World) (ks : List (Bytes × Bytes)) (es : List MapEntry) (h : es.map (fun e => (e.key, e.val)) = ks.map (fun k => (pairV k, Value.bool true))) :
    (ks.contains k = true → ∃ j, j < es.length ∧ (Instr.findKey 124 (pairV k) es).run Tryz.prog w = .ok (some (j, .bool true)) w ∧ es[j]?.map (·.key) = some (pairV k)) ∧
    (ks.contains k = false → (Instr.findKey 124 (pairV k) es).run Tryz.prog w = .ok none w) := by
  obtain ⟨h1, h2⟩ := run_ask k w ks es 0 h
  unfold Instr.findKey
  simp only [Sem.run_bind, run_underlying undPair2, Result.andThen_ok]
  cases es with
  | nil =>
    cases ks with
    | nil => exact ⟨fun h => (by cases h), fun _ => rfl⟩
    | cons => cases h
  | cons e es =>
    have hn : Instr.findNow (.array 2 9) (pairV k) (e :: es) 0 = none := rfl
    rw [hn]
    refine ⟨fun hc => ?_, h2⟩
    obtain ⟨j, j1, j2, j3⟩ := h1 hc
    rw [Nat.zero_add] at j2
    exact ⟨j, j1, j2, j3⟩

def Seen2 (m : Nat) (ks : List (Bytes × Bytes)) : Asn := Asn.ex fun es : Array MapEntry => Asn.ex fun clock : Nat =>
  Asn.star (Asn.pure (es.toList.map (fun e => (e.key, e.val)) = ks.map fun k => (pairV k, Value.bool true))) (Asn.pts m (.map es clock))

section
variable {W w : World} {L : List Asn}

theorem Seen2.out {m : Nat} {ks : List (Bytes × Bytes)} (x : Hold W w (Seen2 m ks :: L)) : ∃ es clock, es.toList.map (fun e => (e.key, e.val)) = ks.map (fun k => (pairV k, Value.bool true)) ∧ Hold W w (Asn.pts m (.map es clock) :: L) := by
  obtain ⟨es, x⟩ := x.ex
  obtain ⟨c, x⟩ := x.ex
  obtain ⟨h, x⟩ := x.sep.pure
  exact ⟨es, c, h, x⟩
theorem Seen2.mk {m : Nat} {ks : List (Bytes × Bytes)} {es : Array MapEntry} {c : Nat} (h : es.toList.map (fun e => (e.key, e.val)) = ks.map (fun k => (pairV k, Value.bool true))) (x : Hold W w (Asn.pts m (.map es c) :: L)) : Hold W w (Seen2 m ks :: L) :=
  Hold.ex' (P := fun es : Array MapEntry => Asn.ex fun clock : Nat => Asn.star (Asn.pure (es.toList.map (fun e => (e.key, e.val)) = ks.map fun k => (pairV k, Value.bool true))) (Asn.pts m (.map es clock))) es
    (Hold.ex' (P := fun clock : Nat => Asn.star (Asn.pure (es.toList.map (fun e => (e.key, e.val)) = ks.map fun k => (pairV k, Value.bool true))) (Asn.pts m (.map es clock))) c (Hold.sep' (Hold.pure' h x)))

theorem run_lookup2 {m : Nat} {ks : List (Bytes × Bytes)} (x : Hold W w (Seen2 m ks :: L)) (k : Bytes × Bytes) :
    (Instr.lookup 123 (.map (some m)) (pairV k) false).run Tryz.prog w = .ok (.bool (ks.contains k)) w := by
  obtain ⟨es, c, he, y⟩ := Seen2.out x
  have hz : ∀ w, (zeroValue 4).run Tryz.prog w = .ok (.bool false) w := fun w => by kernel_rfl
  obtain ⟨h1, h2⟩ := run_key2 k w ks es.toList he
  unfold Instr.lookup
  simp only [Sem.run_bind, run_underlying undSeen2, Result.andThen_ok, getObj, Sem.run, y.block, Sem.run_pure, ck_pair]
  cases hl : ks.contains k with
  | false =>
    rw [h2 hl]
    simp only [Sem.run_pure, Result.andThen_ok, Sem.run_bind, hz]
    rfl
  | true =>
    obtain ⟨j, _, hj, _⟩ := h1 hl
    rw [hj]
    simp only [Sem.run_pure, Result.andThen_ok, Sem.run_bind]
    rfl

theorem run_update2 {m : Nat} {ks : List (Bytes × Bytes)} (x : Hold W w (Seen2 m ks :: L)) (k : Bytes × Bytes) :
    ∃ w', (Instr.mapUpdate 123 (.map (some m)) (pairV k) (.bool true)).run Tryz.prog w = .ok () w' ∧ Hold W w' (Seen2 m (if ks.contains k then ks else ks ++ [k]) :: L) := by
  obtain ⟨es, c, he, y⟩ := Seen2.out x
  obtain ⟨h1, h2⟩ := run_key2 k w ks es.toList he
  have hlt : m < w.heap.size := lt_of_block y.block
  cases hl : ks.contains k with
  | false =>
    refine ⟨{ w with heap := w.heap.setIfInBounds m (.map (es.push { key := pairV k, val := .bool true, born := c }) (c + 1)) }, ?_, ?_⟩
    · unfold Instr.mapUpdate
      simp only [Sem.run_bind, run_underlying undSeen2, Result.andThen_ok, getObj, Sem.run, y.block, ck_pair, h2 hl]
      simp [setObj, Sem.run, y.block]
    · refine Seen2.mk (es := es.push { key := pairV k, val := .bool true, born := c }) (c := c + 1) ?_ (y.put rfl rfl rfl (by simp) (by simp [hlt]) fun j _ hj => by simp only [Array.getElem?_setIfInBounds]; rw [if_neg (by omega)])
      simp [he]
  | true =>
    obtain ⟨j, j1, hj, j3⟩ := h1 hl
    have hkey : (es[j]?.map (·.key)).getD (pairV k) = pairV k := by
      have : es[j]? = es.toList[j]? := by simp
      rw [this, j3]; rfl
    have hst : ∀ w, (Instr.keyThatStays (pairV k) (pairV k)).run Tryz.prog w = .ok (pairV k) w := fun w => by
      have hs : ∀ a : Bytes, ((⟨a.toArray⟩ : ByteArray) == ⟨a.toArray⟩) = true := fun a => (Go.MapKept.bytes_beq _ _).2 rfl
      unfold Instr.keyThatStays
      rw [if_pos (by simp [Instr.sameBits, hs])]
      rfl
    refine ⟨{ w with heap := w.heap.setIfInBounds m (.map (es.modify j fun e => { e with key := pairV k, val := .bool true }) c) }, ?_, ?_⟩
    · unfold Instr.mapUpdate
      simp only [Sem.run_bind, run_underlying undSeen2, Result.andThen_ok, getObj, Sem.run, y.block, ck_pair, hj]
      rw [hkey]
      simp only [hst, Result.andThen_ok]
      simp [setObj, Sem.run, y.block]
    · refine Seen2.mk (es := es.modify j fun e => { e with key := pairV k, val := .bool true }) (c := c) ?_ (y.put rfl rfl rfl (by simp) (by simp [hlt]) fun j' _ hj => by simp only [Array.getElem?_setIfInBounds]; rw [if_neg (by omega)])
      rw [if_pos rfl, ← he]
      refine List.ext_getElem? fun i => ?_
      simp only [List.getElem?_map, Array.toList_modify, List.getElem?_modify]
      by_cases hij : j = i
      · subst hij
        have hg : es.toList[j]? = some (es.toList[j]'j1) := List.getElem?_eq_getElem j1
        have hv : (es.toList[j]'j1).val = .bool true := by
          have : (es.toList.map (fun e => (e.key, e.val)))[j]? = (ks.map fun k => (pairV k, Value.bool true))[j]? := by rw [he]
          rw [List.getElem?_map, hg, List.getElem?_map] at this
          cases hk : ks[j]? with
          | none => rw [hk] at this; cases this
          | some q => rw [hk] at this; exact (Prod.mk.inj (Option.some.inj this)).2
        have hk : (es.toList[j]'j1).key = pairV k := by rw [hg] at j3; exact Option.some.inj j3
        simp only [if_true]
        rw [hg]
        simp
        exact ⟨by simpa using hk.symm, by simpa using hv.symm⟩
      · simp only [if_neg hij]
        simp
end
end Go.Proofs.YtahfcgjlcdbnjaaGreatDoor
