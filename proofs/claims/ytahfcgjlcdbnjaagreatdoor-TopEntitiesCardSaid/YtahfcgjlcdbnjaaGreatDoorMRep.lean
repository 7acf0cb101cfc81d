/- strings.Replacer of single letters: what is built. -/
import Derived.Test.YtahfcgjlcdbnjaaGreatDoorMRp
import Derived.Test.YtahfcgjlcdbnjaaGreatDoorMExp3
import Derived.Lib.SlBuf
import Derived.Lib.LazyBuf
import Derived.Laws.IdiomStrings
namespace Go.Proofs.YtahfcgjlcdbnjaaGreatDoor
open Go.RowKit

/-- Pairs one behind the other. -/
def flatP (ps : Pairs) : List Bytes := ps.flatMap fun p => [[p.1], p.2]

theorem flatP_len : ∀ ps : Pairs, (flatP ps).length = 2 * ps.length
  | [] => rfl
  | p :: ps => by have := flatP_len ps; simp only [flatP, List.flatMap_cons, List.length_append, List.length_cons, List.length_nil] at this ⊢; omega
theorem flatP_even : ∀ (ps : Pairs) (i : Nat) (p : UInt8 × Bytes), ps[i]? = some p → (flatP ps)[2 * i]? = some [p.1] ∧ (flatP ps)[2 * i + 1]? = some p.2
  | [], i, p, h => by simp at h
  | q :: ps, 0, p, h => by
    obtain rfl : q = p := by simpa using h
    exact ⟨rfl, rfl⟩
  | q :: ps, i + 1, p, h => by
    have := flatP_even ps i p (by simpa using h)
    rw [show 2 * (i + 1) = 2 * i + 2 by omega]
    exact this

section
variable {W w : World} {L : List Asn} {b i : Nat} {cs : Array Value} {T : TypeId}

/-- A block is filled anew. -/
theorem storeAll {g : Nat} {cur : Array Value} {t : TypeId} (x : Hold W w (Asn.pts g (.cells cur t (0, 0)) :: L)) (vs : List Value) (hl : vs.length = cur.size) (h1 : ∀ v ∈ vs, v.oneCell' = true) :
    ∃ w2, (storeCells ⟨g, 0, none⟩ vs).run Tryz.prog w = .ok () w2 ∧ Hold W w2 (Asn.pts g (.cells vs.toArray t (0, 0)) :: L) := by
  have hr := run_storeCells_at Tryz.prog g 0 t vs 0 cur w x.block (by omega) h1
  refine ⟨_, hr, ?_⟩
  refine x.put rfl rfl rfl (by simp [World.setRow]) ?_ (fun k _ hk => setRow_other w g k _ hk)
  have := setRow_heap w g cur (cur.toList.take (0 + 0) ++ vs ++ cur.toList.drop (0 + 0 + vs.length)).toArray t _ x.block
  rw [this]
  simp [hl]

theorem zeroRep : Tryz.zeroCells257 = Array.replicate 257 (.slice none 0 0) := by kernel_rfl

/-- What is read of pairs at an even place. -/
theorem pair_at {ps : Pairs} {w : World} {g j : Nat} (hs : ∀ (j : Nat) t, (flatP ps)[j]? = some t → w.cell? ⟨g, j, none⟩ = some (str t)) (hj : j < 2 * ps.length) (he : j % 2 = 0) :
    ∃ k v, ps[j / 2]? = some (k, v) ∧ w.cell? ⟨g, j, none⟩ = some (str [k]) ∧ w.cell? ⟨g, j + 1, none⟩ = some (str v) := by
  obtain ⟨k, v, hp⟩ : ∃ k v, ps[j / 2]? = some (k, v) := ⟨_, _, List.getElem?_eq_getElem (by omega)⟩
  obtain ⟨e1, e2⟩ := flatP_even ps _ _ hp
  rw [show 2 * (j / 2) = j by omega] at e1 e2
  exact ⟨k, v, hp, hs _ _ e1, hs _ _ e2⟩

/-- What a table's cells say of the pairs that were laid in it, each with the place and the room of its bytes. -/
structure TabIs (cs : Array Value) (zs : List ((UInt8 × Bytes) × (Nat × Nat))) : Prop where
  size : cs.size = 257
  off : ∀ c : UInt8, (∀ z ∈ zs, z.1.1 ≠ c) → cs[c.toNat]? = some (.slice none 0 0)
  on : ∀ z ∈ zs, cs[z.1.1.toNat]? = some (.slice (some ⟨z.2.1, 0, none⟩) z.1.2.length z.2.2)
def TabHas (zs : List ((UInt8 × Bytes) × (Nat × Nat))) (w : World) : Prop := ∀ z ∈ zs, ∀ (j : Nat) u, z.1.2[j]? = some u → w.cell? ⟨z.2.1, j, none⟩ = some (.int .u8 (u.toNat : Int))
abbrev keysZ (zs : List ((UInt8 × Bytes) × (Nat × Nat))) : List Bytes := zs.map fun z => [z.1.1]

/-- The third loop's state: pairs are laid from the last one on. -/
structure RepIs (w wr : World) (g' : Nat) (ps rest : Pairs) : Prop where
  st : ∃ cs zs a c, Hid (TabIs cs zs ∧ cs[256]? = some (.slice a zs.length c) ∧ ps = rest ++ (zs.map (·.1)).reverse) ∧
    Hold w wr [Asn.pts g' (.cells cs 257 (0, 0)), Row 9 1 (.slice a zs.length c) zs.length ((keysZ zs).map str), Own (TabHas zs)]

theorem makeStrs (w : World) (j : Nat) (hj : j ≤ 2000) : ∃ C : Array Value, C.size = j / 2 ∧ (Instr.makeSlice 104 (.int .i64 0) (.int .i64 ((j : Int) / 2))).run Tryz.prog w = .ok (.slice (some ⟨w.heap.size, 0, none⟩) 0 (j / 2)) (w.alloc (.cells C 9)) := by
  obtain ⟨i0, hi, hz0, hz1, hz2⟩ := info_parts infoStr
  have := run_makeSlice (P := Tryz.prog) (w := w) 104 9 i0 _ Tryz.underlying104 hi hz0 .i64 .i64 0 ((j : Int) / 2) (by omega) (by omega) (by rw [hz1]; omega) (by rw [hz2]; omega) (by omega)
  rw [hz1] at this
  refine ⟨madeCells (Value.string ⟨#[]⟩).cells (((j : Int) / 2).toNat * 1), ?_, ?_⟩
  · rw [size_madeCells]; omega
  · rw [this]
    congr 2

theorem tabInit (Z : Array Value) (hZ : Z = Array.replicate 257 (.slice none 0 0)) (V : Value) : TabIs (Z.toList.set 256 V).toArray [] ∧ (Z.toList.set 256 V).toArray[256]? = some V := by
  have key : ∀ N : Nat, 256 < N → ∀ Z : Array Value, Z = Array.replicate N (.slice none 0 0) → (Z.toList.set 256 V).toArray.size = N ∧ (∀ c, c < 256 → (Z.toList.set 256 V).toArray[c]? = some (.slice none 0 0)) ∧ (Z.toList.set 256 V).toArray[256]? = some V := fun N hN Z hZ => by
    subst hZ
    refine ⟨by simp, fun c hc => ?_, by simp [hN]⟩
    rw [List.getElem?_toArray, List.getElem?_set_ne (by omega), Array.toList_replicate, List.getElem?_replicate, if_pos (by omega)]
  obtain ⟨k1, k2, k3⟩ := key 257 (by decide) Z hZ
  exact ⟨⟨k1, fun c _ => k2 _ c.toNat_lt, fun z hz => by cases hz⟩, k3⟩

/-- []byte(v). -/
theorem convBytes (v : Bytes) : ∃ (capf : World → Nat) (rowf : World → Array Value) (frf : World → Nat × Nat), (∀ w, (convert 9 93 (str v)).run Tryz.prog w = .ok (.slice (some ⟨w.heap.size, 0, none⟩) v.length (capf w)) (w.drew.alloc (.cells (rowf w) 5 (frf w)))) ∧
    ∀ (w : World) (j : Nat) (u : UInt8), v[j]? = some u → (rowf w)[j]? = some (.int .u8 (u.toNat : Int)) := by
  refine ⟨_, _, _, fun w => run_bytes_of_string w 9 93 5 ⟨v.toArray⟩ Tryz.underlying9 Tryz.underlying93 Tryz.underlying5, ?_⟩
  intro w j u hj
  have hlt := (List.getElem?_eq_some_iff.1 hj).1
  unfold bytesRow
  rw [Array.getElem?_append_left (by simpa using hlt)]
  simp [hj]

theorem repInit {w2 : World} {C : Array Value} {k : Nat} (ps : Pairs) (hC : C.size = k) (hk : k ≤ 1000)
    (z : Hold w w2 [Asn.pts (w.heap.size + 1) (.cells (Tryz.zeroCells257.toList.set 256 (Value.slice (some { block := w.heap.size, off := 0 }) 0 k)).toArray 257 (0, 0)), Asn.pts w.heap.size (.cells C 9 (0, 0))]) :
    RepIs w w2 (w.heap.size + 1) ps ps := by
  obtain ⟨hT, h256⟩ := tabInit _ zeroRep (Value.slice (some { block := w.heap.size, off := 0 }) 0 k)
  have y := Row.mk (e := 9) (size := 1) (n := 0) (xs := []) (cap := k) (Nat.zero_le _) (by unfold maxLen; omega) (by rw [hC]; simp) (by simp) z.f1
  have y := (Own.mono (Q := TabHas []) (Own.none y) (fun _ _ z hz => by cases hz)).re [2, 1, 0]
  exact ⟨_, [], some ⟨w.heap.size, 0, none⟩, k, Lib.hid ⟨hT, h256, by simp⟩, y⟩

theorem repStep {w3 : World} {g' : Nat} {cs ROW : Array Value} {zs : List ((UInt8 × Bytes) × (Nat × Nat))} {ps rest : Pairs} {k : UInt8} {v : Bytes} {ua : Option Addr} {uc capv : Nat} {FR : Nat × Nat}
    (hT : TabIs cs zs) (hps : ps = rest.concat (k, v) ++ (zs.map (·.1)).reverse) (hk : ∀ q ∈ zs, q.1.1 ≠ k) (hrow : ∀ (j : Nat) (u : UInt8), v[j]? = some u → ROW[j]? = some (.int .u8 (u.toNat : Int)))
    (z : Hold w w3 [Asn.pts g' (.cells cs 257 (0, 0)), Row 9 1 (.slice ua (zs.length + 1) uc) (zs.length + 1) ((keysZ zs).map str ++ [str [k]]), Own (TabHas zs)]) :
    RepIs w (((w3.setCell ⟨g', 256, none⟩ (.slice ua (zs.length + 1) uc)).alloc (.cells ROW 5 FR)).setCell ⟨g', k.toNat, none⟩ (.slice (some ⟨w3.heap.size, 0, none⟩) v.length capv)).drew g' ps rest := by
  have hkb := k.toNat_lt
  have z4 := (z.set 256 (.slice ua (zs.length + 1) uc)).alloc (.cells ROW 5 FR)
  rw [show (w3.setCell ⟨g', 256, none⟩ (.slice ua (zs.length + 1) uc)).heap.size = w3.heap.size from by simp] at z4
  have z5 := ((z4.f1.set k.toNat (.slice (some ⟨w3.heap.size, 0, none⟩) v.length capv)).drew).re [1, 3, 0, 2]
  have z6 := Own.block (Q := fun w => ∀ (j : Nat) u, v[j]? = some u → w.cell? ⟨w3.heap.size, j, none⟩ = some (.int .u8 (u.toNat : Int))) z5 (fun w hb j u hj => by simp [World.cell?, hb]; exact hrow j u hj)
  have z7 := Own.mono (Q := TabHas (zs ++ [((k, v), (w3.heap.size, capv))])) z6 (fun w hw q hq j u hj => by
    rcases List.mem_append.1 hq with hq | hq
    · exact hw.1 q hq j u hj
    · obtain rfl : q = _ := by simpa using hq
      exact hw.2 j u hj)
  have hl : (zs ++ [((k, v), (w3.heap.size, capv))]).length = zs.length + 1 := by simp
  refine ⟨(cs.setIfInBounds 256 (.slice ua (zs.length + 1) uc)).setIfInBounds k.toNat (.slice (some ⟨w3.heap.size, 0, none⟩) v.length capv), zs ++ [((k, v), (w3.heap.size, capv))], ua, uc, Lib.hid ⟨⟨?_, ?_, ?_⟩, ?_, ?_⟩, ?_⟩
  rotate_left 5
  · rw [hl]
    have e : (keysZ (zs ++ [((k, v), (w3.heap.size, capv))])).map str = (keysZ zs).map str ++ [str [k]] := by simp [keysZ]
    rw [e]
    exact z7.re [1, 2, 0]
  · simp [hT.size]
  · intro c hc
    have hck : k ≠ c := hc ((k, v), (w3.heap.size, capv)) (by simp)
    have hcb := c.toNat_lt
    have : k.toNat ≠ c.toNat := fun h => hck (UInt8.toNat_inj.1 h)
    rw [Array.getElem?_setIfInBounds_ne this, Array.getElem?_setIfInBounds_ne (by omega)]
    exact hT.off c fun q hq => hc q (by simp [hq])
  · intro q hq
    rcases List.mem_append.1 hq with hq | hq
    · have hqb := q.1.1.toNat_lt
      have : k.toNat ≠ q.1.1.toNat := fun h => hk q hq (UInt8.toNat_inj.1 h).symm
      rw [Array.getElem?_setIfInBounds_ne this, Array.getElem?_setIfInBounds_ne (by omega)]
      exact hT.on q hq
    · obtain rfl : q = _ := by simpa using hq
      have hlt : k.toNat < 257 := by omega
      simp [hT.size, hlt]
  · rw [Array.getElem?_setIfInBounds_ne (by omega)]
    simp [hT.size]
  · rw [hps]; simp

set_option maxRecDepth 100000 in
set_option maxHeartbeats 8000000 in
theorem repBuild_any (b g cap m : Nat) (ps : Pairs) (hm : Hid (m = 2 * ps.length)) (hb4 : w.cell? ⟨b, 4, none⟩ = some (.slice (some ⟨g, 0, none⟩) m cap)) (hs : ∀ (j : Nat) t, (flatP ps)[j]? = some t → w.cell? ⟨g, j, none⟩ = some (str t))
    (h2 : 4 ≤ m) (hn : m ≤ 2000) (hne : ∀ p ∈ ps, p.2 ≠ []) (hlong : ∀ p ∈ ps, p.2.length ≠ 1) (hnd : (ps.map (·.1)).Nodup) :
    Calls Tryz.prog 208 #[.pointer (some ⟨b, 0, none⟩)] w fun e w' => ∃ g', e = .returned (.iface 258 (.pointer (some ⟨g', 0, none⟩))) ∧ RepIs w w' g' ps [] := by
  have HR : Hid (∀ j, j < m → j % 2 = 0 → ∃ k v, ps[j / 2]? = some (k, v) ∧ w.cell? ⟨g, j, none⟩ = some (str [k]) ∧ w.cell? ⟨g, j + 1, none⟩ = some (str v) ∧ v ≠ [] ∧ v.length ≠ 1 ∧ j + 1 < m) := by
    show ∀ j, _
    intro j hj he
    have hmm := hm.out
    obtain ⟨k, v, hp, e1, e2⟩ := pair_at hs (by omega) he
    have hmem := List.mem_of_getElem? hp
    exact ⟨k, v, hp, e1, e2, hne _ hmem, hlong _ hmem, by omega⟩
  have HS := Lib.hid hs
  clear hs hne hlong
  go_enter Tryz.func208, Tryz.ntmps208
  go_wp2_with fail
  go_loopg [4, 5] m (fun gk v4 v5 wr => w = wr ∧ ∃ j : Nat, v5 = .int .i64 j ∧ j + gk = m ∧ Hid (j % 2 = 0) ∧ v4 = .bool (decide (j = 0)))
  case atStart => exact ⟨rfl, 0, rfl, by omega, rfl, rfl⟩
  case round =>
    obtain ⟨rfl, j, rfl, hig, HE, rfl⟩ := hrel
    by_cases hlt : j < m
    · have hlt' : (j : Int) < (m : Int) := by omega
      obtain ⟨k, v, hp, c1, c2, n1, n2, hj1⟩ := HR.out j hlt HE.out
      have hn2 : ¬ (v.length : Int) = 1 := by omega
      have hj1' : (j : Int) + 1 < (m : Int) := by omega
      clear hp n1
      go_wp2_with fail
      go_roundg (gk - 2)
      case measure => omega
      case rel => exact ⟨rfl, j + 2, by go_num, by omega, (by have := HE.out; show _ % _ = _; omega), by simp⟩
    · obtain rfl : j = m := by omega
      have hge : ¬ (j : Int) < (j : Int) := by omega
      have h0 : decide (j = 0) = false := by simp; omega
      rw [h0]
      clear hge
      obtain ⟨C, hC, hms⟩ := makeStrs w j hn
      obtain ⟨w2, hst, z⟩ := storeAll (((Hold.start w).alloc (.cells C 9)).alloc (.cells Tryz.zeroCells257 257)) (Tryz.zeroCells257.toList.set 256 (Value.slice (some { block := w.heap.size, off := 0 }) 0 (j / 2))) (by simp) (by
        rw [zeroRep]
        intro v hv
        rcases List.mem_or_eq_of_mem_set hv with h | rfl
        · rw [Array.toList_replicate] at h
          have h := (List.mem_replicate.1 h).2
          subst h; rfl
        · rfl)
      rw [show (w.alloc (.cells C 9)).heap.size = w.heap.size + 1 from by simp] at hst z
      have HI := Lib.hid (repInit ps hC (by omega) z)
      clear z hC
      go_wp2_with fail
      go_loopg [12] ps.length (fun gk v12 wr => ∃ rest : Pairs, Hid (RepIs w wr (w.heap.size + 1) ps rest) ∧ v12 = .int .i64 (2 * (rest.length : Int) - 2) ∧ gk = rest.length)
      case atStart =>
        refine ⟨ps, HI, ?_, rfl⟩
        have := hm.out
        congr 1
        omega
      case round =>
        obtain ⟨rest, HI, rfl, rfl⟩ := hrel
        rcases List.eq_nil_or_concat rest with rfl | ⟨rest, ⟨k, v⟩, rfl⟩
        · go_wp2_with fail
          go_ret
          exact ⟨_, rfl, HI.out⟩
        · obtain ⟨cs, zs, ta, tc, HZ, z⟩ := HI.out.st
          obtain ⟨hT, h256, hps⟩ := HZ.out
          have hkn : ∀ q ∈ zs, q.1.1 ≠ k := by
            intro q hq he
            rw [hps] at hnd
            simp only [List.map_append, List.map_reverse, List.concat_eq_append, List.map_cons, List.map_nil] at hnd
            have := (List.nodup_append.1 hnd).2.2 k (by simp) k (by simp; exact ⟨q.1.2, q.2.1, q.2.2, by rw [← he]; exact hq⟩)
            exact this rfl
          obtain ⟨i2, hi2⟩ : ∃ i2 : Nat, i2 = 2 * rest.length := ⟨_, rfl⟩
          have hi2' : 2 * ((rest.concat (k, v)).length : Int) - 2 = (i2 : Int) := by simp; omega
          have hpi : ps[rest.length]? = some (k, v) := by rw [hps]; simp
          obtain ⟨e1, e2⟩ := flatP_even ps _ _ hpi
          rw [← hi2] at e1 e2
          have c1 := z.oldCell (HS.out _ _ e1)
          have c2 := z.oldCell (HS.out _ _ e2)
          have ck := (z.cell k.toNat).trans (hT.off k hkn)
          have ct := (z.cell 256).trans h256
          have hlen : i2 + 1 < j := by have := hm.out; have : rest.length < ps.length := by rw [hps]; simp
                                       omega
          have hlen1 : (i2 : Int) < (j : Int) := by omega
          have hlen2 : (i2 : Int) + 1 < (j : Int) := by omega
          have hkb := k.toNat_lt
          have hk0 : ({ data := #[k] } : ByteArray)[0]'(by simp [ByteArray.size]) = k := rfl
          have hk256 : (k.toNat : Int) < 256 := by omega
          rw [hi2']
          have hnil : ∀ w, (binOp .eql 93 (.slice none 0 0) (.slice none 0 0)).run Tryz.prog w = .ok (.bool true) w := fun w => _root_.Go.run_eql_slice_nil w _ _ none 0 0 Tryz.underlying93
          have hcv := run_convert_bytes_back (P := Tryz.prog) (wr.alloc (.cells #[.int .u8 k.toNat] 5)) 93 9 5 ⟨wr.heap.size, 0, none⟩ 1 [k] Tryz.underlying93 Tryz.underlying5 Tryz.underlying9 (fun j hj => by
            obtain rfl : j = 0 := by simpa using hj
            exact (z.alloc (.cells #[.int .u8 k.toNat] 5)).cell 0)
          rw [show [k].length = 1 from rfl] at hcv
          have HZ2 := Lib.hid z
          have HT := Lib.hid hT
          have HPS := Lib.hid hps
          have HK := Lib.hid hkn
          have H256 := Lib.hid h256
          have HI2 := Lib.hid hi2
          clear z hT hps hkn e1 e2 hpi HZ HI h256 hi2' hi2
          obtain ⟨i0, hi, hz0, hz1, hz2⟩ := info_parts infoStr
          have y0 := (HZ2.out.alloc (.cells #[.int .u8 k.toNat] 5)).drop.alloc (.cells #[str [k]] 9)
          rw [show (wr.alloc (.cells #[.int .u8 k.toNat] 5)).heap.size = wr.heap.size + 1 from by simp] at y0
          have HY := Lib.hid y0
          have hzl : zs.length ≤ 1000 := by
            have := congrArg List.length HPS.out
            have := hm.out
            simp at *
            omega
          clear y0
          go_wp2_with (at_builtin; refine wpl_append rfl _ _ 104 rfl i0 (.string ⟨#[]⟩) 16 undStrs hi hz0 hz1 hz2 rfl (by decide) rfl HY.out.f2 ⟨wr.heap.size + 1, 0, none⟩ 1 1 [str [k]] rfl rfl ?c1 ?c2 ?c3 ?c4 ?_)
          case c2 => simp [Value.oneCell']
          case c3 => unfold maxLen; omega
          case c4 => omega
          intro u3 w3 z3
          obtain ⟨ua, uc, rfl⟩ := Row.slice z3
          have z3 := z3.f2.f2.drop
          have hc3 := (z3.cell 256).trans H256.out
          have hf3 := z3.free 256
          obtain ⟨capf, rowf, frf, hconv, hrow⟩ := convBytes v
          have z4 := ((z3.set 256 (.slice ua (zs.length + 1) uc)).alloc (.cells (rowf (w3.setCell ⟨w.heap.size + 1, 256, none⟩ (.slice ua (zs.length + 1) uc))) 5 (frf (w3.setCell ⟨w.heap.size + 1, 256, none⟩ (.slice ua (zs.length + 1) uc))))).drew
          have hr4 := hrow (w3.setCell ⟨w.heap.size + 1, 256, none⟩ (.slice ua (zs.length + 1) uc))
          have ck4 := z4.f1.cell k.toNat
          rw [Array.getElem?_setIfInBounds_ne (by omega), HT.out.off k HK.out] at ck4
          have fk4 := z4.f1.free k.toNat
          have HR4 := Lib.hid hr4
          have HZ3 := Lib.hid z3
          clear z3 z4 hrow hr4
          go_wp2_with fail
          go_roundg rest.length
          case measure => simp
          case rel =>
            refine ⟨rest, Lib.hid (repStep HT.out HPS.out HK.out HR4.out (by simpa using HZ3.out)), ?_, rfl⟩
            have := HI2.out
            go_num
end
end Go.Proofs.YtahfcgjlcdbnjaaGreatDoor

