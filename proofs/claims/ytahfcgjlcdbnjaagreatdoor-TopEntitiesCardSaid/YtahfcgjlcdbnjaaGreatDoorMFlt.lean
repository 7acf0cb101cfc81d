/- strings.Builder's methods, wherever the builder lies (alone, or among a struct's cells): its buffer is a row of its own. -/
import Derived.Test.YtahfcgjlcdbnjaaGreatDoorProg
import Derived.Test.YtahfcgjlcdbnjaaGreatDoorMRow
import Derived.WalkSpells
import Derived.WalkLawsBesides
import Derived.Handy
import Derived.Deep.QuietTactic
import Derived.BigQuiet
import Derived.Lib.Builder
import Derived.Lib.UnsafeStr
import Derived.Laws.Externs
import Derived.Lib.Hide
import Derived.WalkKit
namespace Go.Proofs.YtahfcgjlcdbnjaaGreatDoor
open Go.RowKit

theorem infoByte : (Tryz.prog.info? 5).map (fun i => (i.zero, i.size, i.bytes)) = some (some (.int .u8 0), 1, 1) := by kernel_rfl
theorem cellsByte : Tryz.prog.cellsOf 5 = 1 := by kernel_rfl
theorem undBytes : Tryz.prog.underlying 93 = some (.slice 5) := by kernel_rfl
theorem undString : Tryz.prog.underlying 9 = some .string := by kernel_rfl
theorem undBldPtr : Tryz.prog.underlying 92 = some (.pointer 95) := by kernel_rfl
theorem undUnsafe : Tryz.prog.underlying 160 = some .unsafePointer := by kernel_rfl
theorem undBytePtr : Tryz.prog.underlying 135 = some (.pointer 5) := by kernel_rfl
theorem infoBld : (Tryz.prog.info? 95).map (·.size) = some 2 := by kernel_rfl

/-- The bytes l in a row of their own. -/
def Buf (v : Value) (l : List UInt8) : Asn := Row 5 1 v l.length (Lib.byteCells l)

/-- Among the cells cs of block b (of element type T) there is a builder at o: its address is nil or its own, its buffer is the value v. -/
structure Bat (b o : Nat) (cs : Array Value) (T : TypeId) (v : Value) : Prop where
  addr : cs[o]? = some (.pointer none) ∨ cs[o]? = some (.pointer (some ⟨b, o, none⟩))
  buf : cs[o + 1]? = some v
  lies : liesAt Tryz.prog Tryz.prog.depth T (cs.size / Tryz.prog.cellsOf T) o 95 1 = true

/-- The cells with the builder marked as its own and the buffer v. -/
def bset (b o : Nat) (cs : Array Value) (v : Value) : Array Value := (cs.setIfInBounds o (.pointer (some ⟨b, o, none⟩))).setIfInBounds (o + 1) v

theorem run_noesc (p : Value) (w : World) : (callFunc 112 #[p]).run Tryz.prog w = .ok (.value p) w := by
  rw [run_callFunc_extern Tryz.func112 (by kernel_rfl) (by kernel_rfl) (by kernel_rfl) (e := Extern.AbiNoEscape.same) (by kernel_rfl)]
  rw [Lib.run_noEscape]
  rfl

section
variable {W w : World} {L : List Asn} {b o : Nat} {cs : Array Value} {T : TypeId} {v : Value} {l : List UInt8}

theorem Bat.size (h : Bat b o cs T v) : o + 1 < cs.size := by
  have := h.buf
  exact (Array.getElem?_eq_some_iff.1 this).1

theorem Bat.set (h : Bat b o cs T v) (u : Value) : Bat b o (bset b o cs u) T u := by
  have := h.size
  refine ⟨.inr ?_, ?_, by simpa [bset] using h.lies⟩
  · unfold bset; rw [Array.getElem?_setIfInBounds_ne (by omega), Array.getElem?_setIfInBounds_self_of_lt (by omega)]
  · unfold bset; rw [Array.getElem?_setIfInBounds_self_of_lt (by simpa using this)]

set_option maxHeartbeats 1000000 in
set_option maxRecDepth 100000 in
theorem copyCheck_any (x : Hold W w (Asn.pts b (.cells cs T (0, 0)) :: L)) (h : Bat b o cs T v) :
    Calls Tryz.prog 82 #[.pointer (some ⟨b, o, none⟩)] w fun e w' => e = .returned (.tuple #[]) ∧
      Hold W w' (Asn.pts b (.cells (cs.setIfInBounds o (.pointer (some ⟨b, o, none⟩))) T (0, 0)) :: L) := by
  have hf := x.free o
  have hsz := h.size
  have hlies := h.lies
  obtain ⟨j, hj, hjs⟩ := Option.map_eq_some_iff.1 infoBld
  have hsh : w.shape? b = some (T, cs.size) := by simp [World.shape?, x.block]
  rcases h.addr with ha | ha
  · have hc : w.cell? ⟨b, o, none⟩ = some (.pointer none) := by rw [x.cell, ha]
    have hfin := x.set o (.pointer (some ⟨b, o, none⟩))
    have hlies' := Lib.run_from_unsafe w ⟨b, o, none⟩ undUnsafe undBldPtr hj hsh hlies
    have hto := Lib.run_to_unsafe w ⟨b, o, none⟩ undBldPtr undUnsafe hj (by rw [hjs]; decide) hsh (show o < cs.size by omega)
    have hNE := fun p w => run_noesc p w
    clear ha h x hsh hlies hsz hj hjs
    go_enter Tryz.func82, Tryz.ntmps82
    go_wp2_with fail
    go_end0
    exact ⟨rfl, hfin⟩
  · have hc : w.cell? ⟨b, o, none⟩ = some (.pointer (some ⟨b, o, none⟩)) := by rw [x.cell, ha]
    have hfin : Hold W w (Asn.pts b (.cells (cs.setIfInBounds o (.pointer (some ⟨b, o, none⟩))) T (0, 0)) :: L) := by
      rw [show cs.setIfInBounds o (.pointer (some ⟨b, o, none⟩)) = cs from ?_]
      · exact x
      · obtain ⟨hl, he⟩ := Array.getElem?_eq_some_iff.1 ha
        refine Array.ext (by simp) fun i h1 h2 => ?_
        rw [Array.getElem_setIfInBounds]
        split
        · rename_i e; subst e; exact he.symm
        · rfl
    have hne := Lib.run_neq_ptr_same (P := Tryz.prog) w (⟨b, o, none⟩ : Addr) undBldPtr hj
    clear ha h x hsh hlies hsz hj hjs
    go_enter Tryz.func82, Tryz.ntmps82
    go_wp2_with fail
    go_end0
    exact ⟨rfl, hfin⟩

set_option maxHeartbeats 400000 in
theorem len_any (x : Hold W w (Asn.pts b (.cells cs T (0, 0)) :: Buf v l :: L)) (h : cs[o + 1]? = some v) :
    Calls Tryz.prog 103 #[.pointer (some ⟨b, o, none⟩)] w fun e w' => e = .returned (.int .i64 l.length) ∧ w = w' := by
  obtain ⟨a, c, rfl⟩ := Row.slice x.f1
  have hc : w.cell? ⟨b, o + 1, none⟩ = some (.slice a l.length c) := by rw [x.cell, h]
  clear x h
  go_enter Tryz.func103, Tryz.ntmps103
  go_wp2
  go_ret
  exact ⟨rfl, rfl⟩

set_option maxHeartbeats 400000 in
theorem reset_any (x : Hold W w (Asn.pts b (.cells cs T (0, 0)) :: L)) (hs : o + 1 < cs.size) :
    Calls Tryz.prog 196 #[.pointer (some ⟨b, o, none⟩)] w fun e w' => e = .returned (.tuple #[]) ∧
      Hold W w' (Asn.pts b (.cells ((cs.setIfInBounds o (.pointer none)).setIfInBounds (o + 1) (.slice none 0 0)) T (0, 0)) :: L) := by
  have hfin := (x.set o (.pointer none)).set (o + 1) (.slice none 0 0)
  have hf0 := x.free o
  have hf1 := x.free (o + 1)
  have hc0 : w.cell? ⟨b, o, none⟩ = some cs[o] := by rw [x.cell, Array.getElem?_eq_getElem (by omega)]
  have hc1 : w.cell? ⟨b, o + 1, none⟩ = some cs[o + 1] := by rw [x.cell, Array.getElem?_eq_getElem (by omega)]
  clear x
  go_enter Tryz.func196, Tryz.ntmps196
  go_wp2
  go_end0
  exact ⟨rfl, hfin⟩

set_option maxHeartbeats 400000 in
set_option maxRecDepth 100000 in
theorem writeString_any (s : ByteArray) (x : Hold W w (Asn.pts b (.cells cs T (0, 0)) :: Buf v l :: L)) (h : Bat b o cs T v) (hlen : l.length + s.size ≤ 140737488355328) :
    Calls Tryz.prog 50 #[.pointer (some ⟨b, o, none⟩), .string s] w fun e w' => e = .returned (.tuple #[.int .i64 s.size, .nilIface]) ∧
      ∃ u, Hold W w' (Asn.pts b (.cells (bset b o cs u) T (0, 0)) :: Buf u (l ++ s.data.toList) :: L) := by
  obtain ⟨i0, hi, hz0, hz1, hz2⟩ := info_parts infoByte
  have hs2 : s.size ≤ 9223372036854775807 := by omega
  have hsz := h.size
  have hH := Lib.hid h
  clear h
  go_enter Tryz.func50, Tryz.ntmps50
  go_wp2_with fail
  refine (copyCheck_any x hH.out).mono ?_
  rintro e w1 ⟨rfl, y⟩
  have hf := y.free (o + 1)
  have hc : w1.cell? ⟨b, o + 1, none⟩ = some v := by
    rw [y.cell, Array.getElem?_setIfInBounds_ne (by omega)]; exact hH.out.buf
  go_wp2_with (at_builtin; refine wpl_append_str rfl _ _ 93 9 rfl i0 undBytes undString hi hz0 hz1 hz2 rfl y.f1 s rfl ?c3 ?c4 ?_)
  case c3 => unfold maxLen; omega
  case c4 => omega
  intro u w2 z
  obtain ⟨ua, uc, rfl⟩ := Row.slice z
  have z := z.f1
  have hf' := z.free (o + 1)
  have hc' : w2.cell? ⟨b, o + 1, none⟩ = some v := by
    rw [z.cell, Array.getElem?_setIfInBounds_ne (by omega)]; exact hH.out.buf
  go_wp2
  go_ret2
  refine ⟨rfl, .slice ua (l.length + s.size) uc, ?_⟩
  have := z.set (o + 1) (.slice ua (l.length + s.size) uc)
  simpa [Buf, bset, Lib.byteCells_append, Lib.strCells_eq] using this

set_option maxHeartbeats 400000 in
set_option maxRecDepth 100000 in
theorem writeByte_any (c : UInt8) (x : Hold W w (Asn.pts b (.cells cs T (0, 0)) :: Buf v l :: L)) (h : Bat b o cs T v) (hlen : l.length + 1 ≤ 140737488355328) :
    Calls Tryz.prog 199 #[.pointer (some ⟨b, o, none⟩), .int .u8 c.toNat] w fun e w' => e = .returned .nilIface ∧
      ∃ u, Hold W w' (Asn.pts b (.cells (bset b o cs u) T (0, 0)) :: Buf u (l ++ [c]) :: L) := by
  obtain ⟨i0, hi, hz0, hz1, hz2⟩ := info_parts infoByte
  have hsz := h.size
  have hH := Lib.hid h
  clear h
  go_enter Tryz.func199, Tryz.ntmps199
  go_wp2_with fail
  refine (copyCheck_any x hH.out).mono ?_
  rintro e w1 ⟨rfl, y⟩
  have hf := y.free (o + 1)
  have hc : w1.cell? ⟨b, o + 1, none⟩ = some v := by
    rw [y.cell, Array.getElem?_setIfInBounds_ne (by omega)]; exact hH.out.buf
  have y' := (y.alloc (.cells #[.int .u8 c.toNat] 5))
  go_wp2_with (at_builtin; refine wpl_append rfl _ _ 93 rfl i0 (.int .u8 0) 1 undBytes hi hz0 hz1 hz2 rfl (by decide) rfl y'.f2 ⟨w1.heap.size, 0, none⟩ 1 1 [.int .u8 c.toNat] rfl rfl ?c1 ?c2 ?c3 ?c4 ?_)
  case c1 =>
    intro j u hj
    match j, hj with
    | 0, hj => simp at hj; subst hj; simp [Addr.add]
  case c2 => intro u hu; simp at hu; subst hu; rfl
  case c3 => unfold maxLen; omega
  case c4 => omega
  intro u w2 z
  obtain ⟨ua, uc, rfl⟩ := Row.slice z
  have z := z.f1.drop.f1
  have hf' := z.free (o + 1)
  have hc' : w2.cell? ⟨b, o + 1, none⟩ = some v := by
    rw [z.cell, Array.getElem?_setIfInBounds_ne (by omega)]; exact hH.out.buf
  go_wp2
  go_ret
  refine ⟨rfl, .slice ua (l.length + 1) uc, ?_⟩
  have := z.set (o + 1) (.slice ua (l.length + 1) uc)
  simpa [Buf, bset, Lib.byteCells_append, Lib.byteCells] using this

theorem string_nil (q : Option Addr) (w : World) : (Builtin.unsafeString_ #[135, 3] 9 #[.pointer q, .int .i64 0]).run Tryz.prog w = .ok (.string .empty) w :=
  Lib.run_unsafeString_none w _ _ _ q

set_option maxHeartbeats 2000000 in
set_option maxRecDepth 100000 in
/-- What the builder holds, as a string; its buffer is given up. -/
theorem string_any (x : Hold W w (Asn.pts b (.cells cs T (0, 0)) :: Buf v l :: L)) (h : cs[o + 1]? = some v) :
    Calls Tryz.prog 51 #[.pointer (some ⟨b, o, none⟩)] w fun e w' => e = .returned (.string ⟨l.toArray⟩) ∧
      Hold W w' (Asn.pts b (.cells cs T (0, 0)) :: L) := by
  obtain ⟨hl, p⟩ := Row.cases x.f1
  have hUS := string_nil
  rcases p with ⟨rfl, h0, y⟩ | ⟨g, cap, cur, rfl, h4, h5, h6, h7, y⟩
  · have hl0 : l = [] := List.eq_nil_of_length_eq_zero h0
    subst hl0
    have c1 : w.drew.cell? ⟨b, o + 1, none⟩ = some (.slice none 0 0) := by rw [World.cell?_drew, y.cell, h]
    have hSD : (Builtin.unsafeSliceData_ #[93] 135 #[.slice none 0 0]).run Tryz.prog w.drew = .ok (.pointer none) w.drew := rfl
    have hfin := Lib.hid y.drew
    clear x y h hl h0
    go_enter Tryz.func51, Tryz.ntmps51
    go_wp2
    go_region
    all_goals (go_wp2; go_ret; exact ⟨rfl, hfin.out⟩)
  · have hz := y.f1
    have hbw := hz.block
    have hgw := y.block
    have hblt : b < w.heap.size := lt_of_block hbw
    have hc0 : w.cell? ⟨b, o + 1, none⟩ = some (.slice (some ⟨g, 0, none⟩) l.length cap) := by rw [hz.cell, h]
    by_cases hn : l = []
    · subst hn
      by_cases hcap : cap = 0
      · subst hcap
        have c1 : w.drew.cell? ⟨b, o + 1, none⟩ = some (.slice (some ⟨g, 0, none⟩) 0 0) := hc0
        have hSD : (Builtin.unsafeSliceData_ #[93] 135 #[.slice (some ⟨g, 0, none⟩) 0 0]).run Tryz.prog w.drew = .ok (.pointer (some ⟨w.drew.heap.size, 0, none⟩)) (w.drew.alloc (.view ⟨g, 0, none⟩ 5)) :=
          Lib.run_unsafeSliceData_zero w.drew _ _ 5 undBytePtr ⟨g, 0, none⟩ 0 (5, cur.size) (by have hg' : w.drew.heap[g]? = some (.cells cur 5 (0, 0)) := hgw; simp [World.shape?, hg'])
        have c2 : (w.drew.alloc (.view ⟨g, 0, none⟩ 5)).cell? ⟨b, o + 1, none⟩ = some (.slice (some ⟨g, 0, none⟩) 0 0) := by
          rw [World.cell?_alloc_lt _ _ _ (by exact hblt)]; exact c1
        have c3 : (w.alloc (.view ⟨g, 0, none⟩ 5)).drew.cell? ⟨b, o + 1, none⟩ = some (.slice (some ⟨g, 0, none⟩) 0 0) := c2
        have hfin := Lib.hid (((hz.f1.drop).drew).alloc (.view ⟨g, 0, none⟩ 5)).drop
        clear x y h hl h4 h5 h6 h7 hz hbw hgw
        go_enter Tryz.func51, Tryz.ntmps51
        go_wp2
        go_region
        all_goals (go_wp2; go_ret; exact ⟨rfl, hfin.out⟩)
      · have c1 : w.drew.cell? ⟨b, o + 1, none⟩ = some (.slice (some ⟨g, 0, none⟩) 0 cap) := hc0
        have hSD : (Builtin.unsafeSliceData_ #[93] 135 #[.slice (some ⟨g, 0, none⟩) 0 cap]).run Tryz.prog w.drew = .ok (.pointer (some ⟨g, 0, none⟩)) w.drew :=
          Lib.run_unsafeSliceData_row _ _ _ _ _ _ hcap
        have hfin := Lib.hid (hz.f1.drop).drew
        clear x y h hl h4 h5 h6 h7 hz hbw hgw
        go_enter Tryz.func51, Tryz.ntmps51
        go_wp2
        go_region
        all_goals (go_wp2; go_ret; exact ⟨rfl, hfin.out⟩)
    · have hl0 : l.length ≠ 0 := by simpa using hn
      have c1 : w.drew.cell? ⟨b, o + 1, none⟩ = some (.slice (some ⟨g, 0, none⟩) l.length cap) := hc0
      have hSD : (Builtin.unsafeSliceData_ #[93] 135 #[.slice (some ⟨g, 0, none⟩) l.length cap]).run Tryz.prog w.drew = .ok (.pointer (some ⟨g, 0, none⟩)) w.drew :=
        Lib.run_unsafeSliceData_row _ _ _ _ _ _ (by omega)
      have hUS' : (Builtin.unsafeString_ #[135, 3] 9 #[.pointer (some ⟨g, 0, none⟩), .int .i64 l.length]).run Tryz.prog w.drew = .ok (.string ⟨l.toArray⟩) (w.drew.freeze ⟨g, 0, none⟩ l.length) := by
        refine Lib.run_unsafeString_row w.drew 135 3 9 5 undBytePtr cellsByte g cur.size (by have hg' : w.drew.heap[g]? = some (.cells cur 5 (0, 0)) := hgw; simp [World.shape?, hg']) l hn (by omega) (by unfold maxLen at h5; omega) ?_
        intro j u hx
        have := (Row.own x.f1).cells (g := g) rfl j (.int .u8 u.toNat) (by simp [Lib.byteCells, hx])
        exact this
      have hfin := Lib.hid (show Hold W (w.drew.freeze ⟨g, 0, none⟩ l.length) (Asn.pts b (.cells cs T (0, 0)) :: L) by
        refine Hold.drop (y.drew.put (o' := .cells cur 5 (0, l.length)) (by simp [World.freeze, hl0]) (by simp [World.freeze, hl0]) (by simp [World.freeze, hl0]) (by simp [World.freeze, hl0]) ?_ ?_)
        · have hg' : w.drew.heap[g]? = some (.cells cur 5 (0, 0)) := hgw
          simp only [World.freeze, hl0, if_false, Array.getElem?_modify, if_true, hg', Option.map_some]
          simp
        · intro k _ hk
          simp only [World.freeze, hl0, if_false, Array.getElem?_modify]
          rw [if_neg (by omega)])
      clear x y h hl h4 h5 h6 h7 hz hbw hgw hUS
      go_enter Tryz.func51, Tryz.ntmps51
      go_wp2
      go_region
      all_goals (go_wp2; go_ret; exact ⟨rfl, hfin.out⟩)

end
end Go.Proofs.YtahfcgjlcdbnjaaGreatDoor
/- Whole numbers of at most 53 bits as float64: they are met exactly, and compared as they are. -/
namespace Go.Proofs.YtahfcgjlcdbnjaaGreatDoor
open Ieee

theorem shl_eq (a b : Nat) : a <<< b = a * 2 ^ b := Nat.shiftLeft_eq a b

theorem cut_zero (neg : Bool) (n : Nat) : Toward.even.cut neg n 0 = n := by
  simp [Toward.cut, Nat.mod_one]

theorem log_lt {m : Nat} (h0 : 0 < m) (h : m < 2 ^ 53) : m.log2 < 53 := by
  rw [Nat.log2_lt (by omega)]; exact h

theorem keptBounds {m : Nat} (h0 : 0 < m) (h : m < 2 ^ 53) : 2 ^ 52 ≤ m * 2 ^ (52 - m.log2) ∧ m * 2 ^ (52 - m.log2) < 2 ^ 53 := by
  have hl := log_lt h0 h
  have h1 : 2 ^ m.log2 ≤ m := Nat.log2_self_le (by omega)
  have h2 : m < 2 ^ (m.log2 + 1) := Nat.lt_log2_self
  have hp : 0 < 2 ^ (52 - m.log2) := Nat.two_pow_pos _
  constructor
  · calc 2 ^ 52 = 2 ^ m.log2 * 2 ^ (52 - m.log2) := by rw [← Nat.pow_add]; congr 1; omega
      _ ≤ m * 2 ^ (52 - m.log2) := Nat.mul_le_mul_right _ h1
  · calc m * 2 ^ (52 - m.log2) < 2 ^ (m.log2 + 1) * 2 ^ (52 - m.log2) := Nat.mul_lt_mul_of_pos_right h2 hp
      _ = 2 ^ 53 := by rw [← Nat.pow_add]; congr 1; omega

theorem nearest_eq (neg : Bool) {m : Nat} (h0 : 0 < m) (h : m < 2 ^ 53) :
    double.nearest neg m 0 = double.word neg ((m.log2 + 1022) * 4503599627370496 + m * 2 ^ (52 - m.log2)) := by
  have hl := log_lt h0 h
  obtain ⟨k1, k2⟩ := keptBounds h0 h
  have hlast : max ((0 : Int) + (m.log2 : Int) - (double.fractionBits : Int)) double.leastPlace = (m.log2 : Int) - 52 := by
    have e1 : double.leastPlace = -1074 := by decide
    have e2 : double.fractionBits = 52 := rfl
    rw [e1, e2]; omega
  unfold Format.nearest
  rw [if_neg (by omega)]
  simp only [hlast]
  have e1 : double.leastPlace = -1074 := by decide
  have e3 : double.binade = 4503599627370496 := by decide
  have e4 : double.infRung = 9218868437227405312 := by decide
  rw [e1, e3, e4]
  have a1 : ((0 : Int) - ((m.log2 : Int) - 52)).toNat = 52 - m.log2 := by omega
  have a2 : ((m.log2 : Int) - 52 - 0).toNat = 0 := by omega
  have a3 : ((m.log2 : Int) - 52 - (-1074)).toNat = m.log2 + 1022 := by omega
  rw [a1, a2, a3, cut_zero, shl_eq, Nat.min_eq_left (by omega)]

theorem read_word (neg : Bool) {e k : Nat} (he : e ≤ 52) (h1 : 4503599627370496 ≤ k) (h2 : k < 9007199254740992) :
    double.read (double.word neg ((e + 1022) * 4503599627370496 + k)) = .number neg k ((e : Int) - 52) := by
  have e1 : double.leastPlace = -1074 := by decide
  have e3 : double.binade = 4503599627370496 := by decide
  have e4 : double.infRung = 9218868437227405312 := by decide
  have e5 : double.signWeight = 9223372036854775808 := by decide
  generalize hR : (e + 1022) * 4503599627370496 + k = R
  have hr : R < 9223372036854775808 := by omega
  have hq : R / 4503599627370496 = e + 1023 := by omega
  have hm : R % 4503599627370496 = k - 4503599627370496 := by omega
  have hw : double.word neg R % 9223372036854775808 = R := by
    unfold Format.word; rw [e5]; cases neg <;> simp only [Bool.false_eq_true, if_false, if_true] <;> omega
  have hn : (double.word neg R / 9223372036854775808 % 2 == 1) = neg := by
    unfold Format.word; rw [e5]
    cases neg
    · have : R / 9223372036854775808 = 0 := by omega
      simp only [Bool.false_eq_true, if_false, this]; rfl
    · have : (9223372036854775808 + R) / 9223372036854775808 = 1 := by omega
      simp only [if_true, this]; rfl
  unfold Format.read
  simp only [e5, e3, e4, e1, hw, hn]
  have b1 : ¬ R < 4503599627370496 := by omega
  have b2 : R < 9218868437227405312 := by omega
  rw [if_neg b1, if_pos b2, hq, hm]
  have c1 : 4503599627370496 + (k - 4503599627370496) = k := Nat.add_sub_of_le h1
  have c2 : (-1074 : Int) + ((e + 1023 - 1 : Nat) : Int) = (e : Int) - 52 := by rw [Nat.add_sub_assoc (by decide)]; omega
  rw [c1, c2]

theorem read_nearest (neg : Bool) {m : Nat} (h0 : 0 < m) (h : m < 2 ^ 53) :
    double.read (double.nearest neg m 0) = .number neg (m * 2 ^ (52 - m.log2)) ((m.log2 : Int) - 52) := by
  have hl := log_lt h0 h
  obtain ⟨k1, k2⟩ := keptBounds h0 h
  have := read_word (k := m * 2 ^ (52 - m.log2)) neg (show m.log2 ≤ 52 by omega) (by omega) (by omega)
  rw [nearest_eq neg h0 h]
  exact this

theorem read_zero : double.read (double.nearest false 0 0) = .number false 0 (-1074) := by decide

/-- What is read back of a whole number n: its sign, a magnitude m and a place -p that say n. -/
theorem read_int (n : Int) (h : n.natAbs < 2 ^ 53) : ∃ (m : Nat) (p : Nat),
    double.read (FloatKind.nearest .f64 n) = .number (decide (n < 0)) m (-(p : Int)) ∧ m = n.natAbs * 2 ^ p := by
  by_cases h0 : n = 0
  · subst h0
    obtain ⟨p, hp⟩ : ∃ p : Nat, (-1074 : Int) = -(p : Int) := ⟨1074, rfl⟩
    exact ⟨0, p, hp ▸ read_zero, (Nat.zero_mul _).symm⟩
  · have hp : 0 < n.natAbs := by omega
    have hl := log_lt hp h
    refine ⟨n.natAbs * 2 ^ (52 - n.natAbs.log2), 52 - n.natAbs.log2, ?_, rfl⟩
    have e := read_nearest (decide (n < 0)) hp h
    rw [show ((n.natAbs.log2 : Int) - 52) = -((52 - n.natAbs.log2 : Nat) : Int) by omega] at e
    exact e

theorem compare_scale (a b : Int) (k : Nat) : compare (a * 2 ^ k) (b * 2 ^ k) = compare a b := by
  have hp : (0 : Int) < 2 ^ k := Int.pow_pos (by decide)
  show compareOfLessAndEq _ _ = compareOfLessAndEq _ _
  unfold compareOfLessAndEq
  rcases Int.lt_trichotomy a b with h | h | h
  · rw [if_pos h, if_pos (Int.mul_lt_mul_of_pos_right h hp)]
  · subst h; simp
  · have h' : b * 2 ^ k < a * 2 ^ k := Int.mul_lt_mul_of_pos_right h hp
    generalize a * 2 ^ k = x at *
    generalize b * 2 ^ k = y at *
    rw [if_neg (by omega), if_neg (by omega), if_neg (by omega), if_neg (by omega)]

theorem signed_int (n : Int) (m p q : Nat) (hm : m = n.natAbs * 2 ^ p) : signed (decide (n < 0)) m q = n * 2 ^ (p + q) := by
  unfold signed
  rw [shl_eq, hm, Nat.mul_assoc, ← Nat.pow_add]
  by_cases h : n < 0
  · simp only [h, decide_true, if_true]
    rw [Int.natCast_mul, ← Int.neg_mul, show -(n.natAbs : Int) = n by omega]
    simp
  · simp only [h, decide_false, Bool.false_eq_true, if_false]
    rw [Int.natCast_mul, show (n.natAbs : Int) = n by omega]
    simp

theorem order_int (a b : Int) (ha : a.natAbs < 2 ^ 53) (hb : b.natAbs < 2 ^ 53) :
    double.order (FloatKind.nearest .f64 a) (FloatKind.nearest .f64 b) = some (compare a b) := by
  obtain ⟨m, p, hr, hm⟩ := read_int a ha
  obtain ⟨n, q, hs, hn⟩ := read_int b hb
  unfold Format.order
  rw [hr, hs]
  unfold Datum.order
  simp only
  rw [signed_int a m p _ hm, signed_int b n q _ hn]
  rw [show p + ((-(p : Int)) - min (-(p : Int)) (-(q : Int))).toNat = max p q by omega, show q + ((-(q : Int)) - min (-(p : Int)) (-(q : Int))).toNat = max p q by omega]
  rw [compare_scale a b _]

end Go.Proofs.YtahfcgjlcdbnjaaGreatDoor
