/- strings.Builder's methods, wherever the builder lies (alone, or among a struct's cells): its buffer is a row of its own. -/
import Derived.Test.YtalmkfikfmpmoaaGreatDoorProg
import Derived.Test.YtalmkfikfmpmoaaGreatDoorRow
import Derived.WalkSpells
import Derived.WalkLawsBesides
import Derived.Handy
import Derived.Deep.QuietTactic
import Derived.BigQuiet
import Derived.Lib.Builder
import Derived.Lib.UnsafeStr
import Derived.Laws.Externs
import Derived.Lib.Hide
namespace Go.Proofs.YtalmkfikfmpmoaaGreatDoor
open Go.RowKit

theorem infoByte : (Tryz.prog.info? 5).map (fun i => (i.zero, i.size, i.bytes)) = some (some (.int .u8 0), 1, 1) := by kernel_rfl
theorem cellsByte : Tryz.prog.cellsOf 5 = 1 := by kernel_rfl
theorem undBytes : Tryz.prog.underlying 50 = some (.slice 5) := by kernel_rfl
theorem undString : Tryz.prog.underlying 9 = some .string := by kernel_rfl
theorem undBldPtr : Tryz.prog.underlying 49 = some (.pointer 52) := by kernel_rfl
theorem undUnsafe : Tryz.prog.underlying 125 = some .unsafePointer := by kernel_rfl
theorem undBytePtr : Tryz.prog.underlying 103 = some (.pointer 5) := by kernel_rfl
theorem infoBld : (Tryz.prog.info? 52).map (·.size) = some 2 := by kernel_rfl

/-- The bytes l in a row of their own. -/
def Buf (v : Value) (l : List UInt8) : Asn := Row 5 1 v l.length (Lib.byteCells l)

/-- Among the cells cs of block b (of element type T) there is a builder at o: its address is nil or its own, its buffer is the value v. -/
structure Bat (b o : Nat) (cs : Array Value) (T : TypeId) (v : Value) : Prop where
  addr : cs[o]? = some (.pointer none) ∨ cs[o]? = some (.pointer (some ⟨b, o, none⟩))
  buf : cs[o + 1]? = some v
  lies : liesAt Tryz.prog Tryz.prog.depth T (cs.size / Tryz.prog.cellsOf T) o 52 1 = true

/-- The cells with the builder marked as its own and the buffer v. -/
def bset (b o : Nat) (cs : Array Value) (v : Value) : Array Value := (cs.setIfInBounds o (.pointer (some ⟨b, o, none⟩))).setIfInBounds (o + 1) v

theorem run_noesc (p : Value) (w : World) : (callFunc 101 #[p]).run Tryz.prog w = .ok (.value p) w := by
  rw [run_callFunc_extern Tryz.func101 (by kernel_rfl) (by kernel_rfl) (by kernel_rfl) (e := Extern.AbiNoEscape.same) (by kernel_rfl)]
  rw [Lib.run_noEscape]
  rfl

section
variable {W w : World} {L : List Asn} {b o : Nat} {cs : Array Value} {T : TypeId} {v : Value} {l : List UInt8}

theorem Bat.size (h : Bat b o cs T v) : o + 1 < cs.size := by
  have := h.buf
  exact (Array.getElem?_eq_some_iff.1 this).1

theorem Bat.set (h : Bat b o cs T v) (u : Value) : Bat b o (bset b o cs u) T u := by
  have := h.size
  refine ⟨.inr ?_, ?_, by simpa [bset] using h.lies⟩
  · unfold bset; rw [Array.getElem?_setIfInBounds_ne (by omega), Array.getElem?_setIfInBounds_self_of_lt (by omega)]
  · unfold bset; rw [Array.getElem?_setIfInBounds_self_of_lt (by simpa using this)]

set_option maxHeartbeats 1000000 in
set_option maxRecDepth 100000 in
theorem copyCheck_any (x : Hold W w (Asn.pts b (.cells cs T (0, 0)) :: L)) (h : Bat b o cs T v) :
    Calls Tryz.prog 64 #[.pointer (some ⟨b, o, none⟩)] w fun e w' => e = .returned (.tuple #[]) ∧
      Hold W w' (Asn.pts b (.cells (cs.setIfInBounds o (.pointer (some ⟨b, o, none⟩))) T (0, 0)) :: L) := by
  have hf := x.free o
  have hsz := h.size
  have hlies := h.lies
  obtain ⟨j, hj, hjs⟩ := Option.map_eq_some_iff.1 infoBld
  have hsh : w.shape? b = some (T, cs.size) := by simp [World.shape?, x.block]
  rcases h.addr with ha | ha
  · have hc : w.cell? ⟨b, o, none⟩ = some (.pointer none) := by rw [x.cell, ha]
    have hfin := x.set o (.pointer (some ⟨b, o, none⟩))
    have hlies' := Lib.run_from_unsafe w ⟨b, o, none⟩ undUnsafe undBldPtr hj hsh hlies
    have hto := Lib.run_to_unsafe w ⟨b, o, none⟩ undBldPtr undUnsafe hj (by rw [hjs]; decide) hsh (show o < cs.size by omega)
    have hNE := fun p w => run_noesc p w
    clear ha h x hsh hlies hsz hj hjs
    go_enter Tryz.func64, Tryz.ntmps64
    go_wp2_with fail
    go_end0
    exact ⟨rfl, hfin⟩
  · have hc : w.cell? ⟨b, o, none⟩ = some (.pointer (some ⟨b, o, none⟩)) := by rw [x.cell, ha]
    have hfin : Hold W w (Asn.pts b (.cells (cs.setIfInBounds o (.pointer (some ⟨b, o, none⟩))) T (0, 0)) :: L) := by
      rw [show cs.setIfInBounds o (.pointer (some ⟨b, o, none⟩)) = cs from ?_]
      · exact x
      · obtain ⟨hl, he⟩ := Array.getElem?_eq_some_iff.1 ha
        refine Array.ext (by simp) fun i h1 h2 => ?_
        rw [Array.getElem_setIfInBounds]
        split
        · rename_i e; subst e; exact he.symm
        · rfl
    have hne := Lib.run_neq_ptr_same (P := Tryz.prog) w (⟨b, o, none⟩ : Addr) undBldPtr hj
    clear ha h x hsh hlies hsz hj hjs
    go_enter Tryz.func64, Tryz.ntmps64
    go_wp2_with fail
    go_end0
    exact ⟨rfl, hfin⟩

set_option maxHeartbeats 400000 in
theorem len_any (x : Hold W w (Asn.pts b (.cells cs T (0, 0)) :: Buf v l :: L)) (h : cs[o + 1]? = some v) :
    Calls Tryz.prog 34 #[.pointer (some ⟨b, o, none⟩)] w fun e w' => e = .returned (.int .i64 l.length) ∧ w = w' := by
  obtain ⟨a, c, rfl⟩ := Row.slice x.f1
  have hc : w.cell? ⟨b, o + 1, none⟩ = some (.slice a l.length c) := by rw [x.cell, h]
  clear x h
  go_enter Tryz.func34, Tryz.ntmps34
  go_wp2
  go_ret
  exact ⟨rfl, rfl⟩

set_option maxHeartbeats 400000 in
theorem reset_any (x : Hold W w (Asn.pts b (.cells cs T (0, 0)) :: L)) (hs : o + 1 < cs.size) :
    Calls Tryz.prog 149 #[.pointer (some ⟨b, o, none⟩)] w fun e w' => e = .returned (.tuple #[]) ∧
      Hold W w' (Asn.pts b (.cells ((cs.setIfInBounds o (.pointer none)).setIfInBounds (o + 1) (.slice none 0 0)) T (0, 0)) :: L) := by
  have hfin := (x.set o (.pointer none)).set (o + 1) (.slice none 0 0)
  have hf0 := x.free o
  have hf1 := x.free (o + 1)
  have hc0 : w.cell? ⟨b, o, none⟩ = some cs[o] := by rw [x.cell, Array.getElem?_eq_getElem (by omega)]
  have hc1 : w.cell? ⟨b, o + 1, none⟩ = some cs[o + 1] := by rw [x.cell, Array.getElem?_eq_getElem (by omega)]
  clear x
  go_enter Tryz.func149, Tryz.ntmps149
  go_wp2
  go_end0
  exact ⟨rfl, hfin⟩

set_option maxHeartbeats 400000 in
set_option maxRecDepth 100000 in
theorem writeString_any (s : ByteArray) (x : Hold W w (Asn.pts b (.cells cs T (0, 0)) :: Buf v l :: L)) (h : Bat b o cs T v) (hlen : l.length + s.size ≤ 140737488355328) :
    Calls Tryz.prog 33 #[.pointer (some ⟨b, o, none⟩), .string s] w fun e w' => e = .returned (.tuple #[.int .i64 s.size, .nilIface]) ∧
      ∃ u, Hold W w' (Asn.pts b (.cells (bset b o cs u) T (0, 0)) :: Buf u (l ++ s.data.toList) :: L) := by
  obtain ⟨i0, hi, hz0, hz1, hz2⟩ := info_parts infoByte
  have hs2 : s.size ≤ 9223372036854775807 := by omega
  have hsz := h.size
  have hH := Lib.hid h
  clear h
  go_enter Tryz.func33, Tryz.ntmps33
  go_wp2_with fail
  refine (copyCheck_any x hH.out).mono ?_
  rintro e w1 ⟨rfl, y⟩
  have hf := y.free (o + 1)
  have hc : w1.cell? ⟨b, o + 1, none⟩ = some v := by
    rw [y.cell, Array.getElem?_setIfInBounds_ne (by omega)]; exact hH.out.buf
  go_wp2_with (at_builtin; refine wpl_append_str rfl _ _ 50 9 rfl i0 undBytes undString hi hz0 hz1 hz2 rfl y.f1 s rfl ?c3 ?c4 ?_)
  case c3 => unfold maxLen; omega
  case c4 => omega
  intro u w2 z
  obtain ⟨ua, uc, rfl⟩ := Row.slice z
  have z := z.f1
  have hf' := z.free (o + 1)
  have hc' : w2.cell? ⟨b, o + 1, none⟩ = some v := by
    rw [z.cell, Array.getElem?_setIfInBounds_ne (by omega)]; exact hH.out.buf
  go_wp2
  go_ret2
  refine ⟨rfl, .slice ua (l.length + s.size) uc, ?_⟩
  have := z.set (o + 1) (.slice ua (l.length + s.size) uc)
  simpa [Buf, bset, Lib.byteCells_append, Lib.strCells_eq] using this

set_option maxHeartbeats 400000 in
set_option maxRecDepth 100000 in
theorem writeByte_any (c : UInt8) (x : Hold W w (Asn.pts b (.cells cs T (0, 0)) :: Buf v l :: L)) (h : Bat b o cs T v) (hlen : l.length + 1 ≤ 140737488355328) :
    Calls Tryz.prog 152 #[.pointer (some ⟨b, o, none⟩), .int .u8 c.toNat] w fun e w' => e = .returned .nilIface ∧
      ∃ u, Hold W w' (Asn.pts b (.cells (bset b o cs u) T (0, 0)) :: Buf u (l ++ [c]) :: L) := by
  obtain ⟨i0, hi, hz0, hz1, hz2⟩ := info_parts infoByte
  have hsz := h.size
  have hH := Lib.hid h
  clear h
  go_enter Tryz.func152, Tryz.ntmps152
  go_wp2_with fail
  refine (copyCheck_any x hH.out).mono ?_
  rintro e w1 ⟨rfl, y⟩
  have hf := y.free (o + 1)
  have hc : w1.cell? ⟨b, o + 1, none⟩ = some v := by
    rw [y.cell, Array.getElem?_setIfInBounds_ne (by omega)]; exact hH.out.buf
  have y' := (y.alloc (.cells #[.int .u8 c.toNat] 5))
  go_wp2_with (at_builtin; refine wpl_append rfl _ _ 50 rfl i0 (.int .u8 0) 1 undBytes hi hz0 hz1 hz2 rfl (by decide) rfl y'.f2 ⟨w1.heap.size, 0, none⟩ 1 1 [.int .u8 c.toNat] rfl rfl ?c1 ?c2 ?c3 ?c4 ?_)
  case c1 =>
    intro j u hj
    match j, hj with
    | 0, hj => simp at hj; subst hj; simp [Addr.add]
  case c2 => intro u hu; simp at hu; subst hu; rfl
  case c3 => unfold maxLen; omega
  case c4 => omega
  intro u w2 z
  obtain ⟨ua, uc, rfl⟩ := Row.slice z
  have z := z.f1.drop.f1
  have hf' := z.free (o + 1)
  have hc' : w2.cell? ⟨b, o + 1, none⟩ = some v := by
    rw [z.cell, Array.getElem?_setIfInBounds_ne (by omega)]; exact hH.out.buf
  go_wp2
  go_ret
  refine ⟨rfl, .slice ua (l.length + 1) uc, ?_⟩
  have := z.set (o + 1) (.slice ua (l.length + 1) uc)
  simpa [Buf, bset, Lib.byteCells_append, Lib.byteCells] using this

theorem string_nil (q : Option Addr) (w : World) : (Builtin.unsafeString_ #[103, 3] 9 #[.pointer q, .int .i64 0]).run Tryz.prog w = .ok (.string .empty) w :=
  Lib.run_unsafeString_none w _ _ _ q

set_option maxHeartbeats 2000000 in
set_option maxRecDepth 100000 in
/-- What the builder holds, as a string; its buffer is given up. -/
theorem string_any (x : Hold W w (Asn.pts b (.cells cs T (0, 0)) :: Buf v l :: L)) (h : cs[o + 1]? = some v) :
    Calls Tryz.prog 35 #[.pointer (some ⟨b, o, none⟩)] w fun e w' => e = .returned (.string ⟨l.toArray⟩) ∧
      Hold W w' (Asn.pts b (.cells cs T (0, 0)) :: L) := by
  obtain ⟨hl, p⟩ := Row.cases x.f1
  have hUS := string_nil
  rcases p with ⟨rfl, h0, y⟩ | ⟨g, cap, cur, rfl, h4, h5, h6, h7, y⟩
  · have hl0 : l = [] := List.eq_nil_of_length_eq_zero h0
    subst hl0
    have c1 : w.drew.cell? ⟨b, o + 1, none⟩ = some (.slice none 0 0) := by rw [World.cell?_drew, y.cell, h]
    have hSD : (Builtin.unsafeSliceData_ #[50] 103 #[.slice none 0 0]).run Tryz.prog w.drew = .ok (.pointer none) w.drew := rfl
    have hfin := Lib.hid y.drew
    clear x y h hl h0
    go_enter Tryz.func35, Tryz.ntmps35
    go_wp2
    go_region
    all_goals (go_wp2; go_ret; exact ⟨rfl, hfin.out⟩)
  · have hz := y.f1
    have hbw := hz.block
    have hgw := y.block
    have hblt : b < w.heap.size := lt_of_block hbw
    have hc0 : w.cell? ⟨b, o + 1, none⟩ = some (.slice (some ⟨g, 0, none⟩) l.length cap) := by rw [hz.cell, h]
    by_cases hn : l = []
    · subst hn
      by_cases hcap : cap = 0
      · subst hcap
        have c1 : w.drew.cell? ⟨b, o + 1, none⟩ = some (.slice (some ⟨g, 0, none⟩) 0 0) := hc0
        have hSD : (Builtin.unsafeSliceData_ #[50] 103 #[.slice (some ⟨g, 0, none⟩) 0 0]).run Tryz.prog w.drew = .ok (.pointer (some ⟨w.drew.heap.size, 0, none⟩)) (w.drew.alloc (.view ⟨g, 0, none⟩ 5)) :=
          Lib.run_unsafeSliceData_zero w.drew _ _ 5 undBytePtr ⟨g, 0, none⟩ 0 (5, cur.size) (by have hg' : w.drew.heap[g]? = some (.cells cur 5 (0, 0)) := hgw; simp [World.shape?, hg'])
        have c2 : (w.drew.alloc (.view ⟨g, 0, none⟩ 5)).cell? ⟨b, o + 1, none⟩ = some (.slice (some ⟨g, 0, none⟩) 0 0) := by
          rw [World.cell?_alloc_lt _ _ _ (by exact hblt)]; exact c1
        have c3 : (w.alloc (.view ⟨g, 0, none⟩ 5)).drew.cell? ⟨b, o + 1, none⟩ = some (.slice (some ⟨g, 0, none⟩) 0 0) := c2
        have hfin := Lib.hid (((hz.f1.drop).drew).alloc (.view ⟨g, 0, none⟩ 5)).drop
        clear x y h hl h4 h5 h6 h7 hz hbw hgw
        go_enter Tryz.func35, Tryz.ntmps35
        go_wp2
        go_region
        all_goals (go_wp2; go_ret; exact ⟨rfl, hfin.out⟩)
      · have c1 : w.drew.cell? ⟨b, o + 1, none⟩ = some (.slice (some ⟨g, 0, none⟩) 0 cap) := hc0
        have hSD : (Builtin.unsafeSliceData_ #[50] 103 #[.slice (some ⟨g, 0, none⟩) 0 cap]).run Tryz.prog w.drew = .ok (.pointer (some ⟨g, 0, none⟩)) w.drew :=
          Lib.run_unsafeSliceData_row _ _ _ _ _ _ hcap
        have hfin := Lib.hid (hz.f1.drop).drew
        clear x y h hl h4 h5 h6 h7 hz hbw hgw
        go_enter Tryz.func35, Tryz.ntmps35
        go_wp2
        go_region
        all_goals (go_wp2; go_ret; exact ⟨rfl, hfin.out⟩)
    · have hl0 : l.length ≠ 0 := by simpa using hn
      have c1 : w.drew.cell? ⟨b, o + 1, none⟩ = some (.slice (some ⟨g, 0, none⟩) l.length cap) := hc0
      have hSD : (Builtin.unsafeSliceData_ #[50] 103 #[.slice (some ⟨g, 0, none⟩) l.length cap]).run Tryz.prog w.drew = .ok (.pointer (some ⟨g, 0, none⟩)) w.drew :=
        Lib.run_unsafeSliceData_row _ _ _ _ _ _ (by omega)
      have hUS' : (Builtin.unsafeString_ #[103, 3] 9 #[.pointer (some ⟨g, 0, none⟩), .int .i64 l.length]).run Tryz.prog w.drew = .ok (.string ⟨l.toArray⟩) (w.drew.freeze ⟨g, 0, none⟩ l.length) := by
        refine Lib.run_unsafeString_row w.drew 103 3 9 5 undBytePtr cellsByte g cur.size (by have hg' : w.drew.heap[g]? = some (.cells cur 5 (0, 0)) := hgw; simp [World.shape?, hg']) l hn (by omega) (by unfold maxLen at h5; omega) ?_
        intro j u hx
        have := (Row.own x.f1).cells (g := g) rfl j (.int .u8 u.toNat) (by simp [Lib.byteCells, hx])
        exact this
      have hfin := Lib.hid (show Hold W (w.drew.freeze ⟨g, 0, none⟩ l.length) (Asn.pts b (.cells cs T (0, 0)) :: L) by
        refine Hold.drop (y.drew.put (o' := .cells cur 5 (0, l.length)) (by simp [World.freeze, hl0]) (by simp [World.freeze, hl0]) (by simp [World.freeze, hl0]) (by simp [World.freeze, hl0]) ?_ ?_)
        · have hg' : w.drew.heap[g]? = some (.cells cur 5 (0, 0)) := hgw
          simp only [World.freeze, hl0, if_false, Array.getElem?_modify, if_true, hg', Option.map_some]
          simp
        · intro k _ hk
          simp only [World.freeze, hl0, if_false, Array.getElem?_modify]
          rw [if_neg (by omega)])
      clear x y h hl h4 h5 h6 h7 hz hbw hgw hUS
      go_enter Tryz.func35, Tryz.ntmps35
      go_wp2
      go_region
      all_goals (go_wp2; go_ret; exact ⟨rfl, hfin.out⟩)

end
end Go.Proofs.YtalmkfikfmpmoaaGreatDoor
