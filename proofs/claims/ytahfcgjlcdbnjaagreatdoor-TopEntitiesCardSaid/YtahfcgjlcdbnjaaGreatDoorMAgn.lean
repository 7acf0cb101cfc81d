/- What the rows' laid variables give: the library's tables; what a call that makes new blocks alone leaves. -/
import Derived.Test.YtahfcgjlcdbnjaaGreatDoorMLaw
import Derived.Test.YtahfcgjlcdbnjaaGreatDoorCards
import Derived.Test.YtahfcgjlcdbnjaaGreatDoorTie
import Derived.WalkKit
import Derived.ProofKit
import Derived.OpenShut
import Derived.ShutString
import Derived.Lay
import Derived.HandedShaped
import Derived.Shelf.Vars
import Derived.Lib.LaidU8
import Derived.Lib.LaidTab
import Derived.Deep.DeepHandedRow
import Derived.Test.YtahfcgjlcdbnjaaGreatDoorMWid
import Derived.Deep.Slices
import Derived.Deep.SlicePairs
import Derived.Deep.Frames
import Derived.ChangeBook
import Derived.ChangeBears
import Derived.ChangeStays
namespace Go.Proofs.YtahfcgjlcdbnjaaGreatDoor
open Go.ChangeShapes Go.WideShapes Go.ChangeAt Go.RowKit Go.Lib
open Go.ChangeMaps (open_string shut_string)

/-- What is behind a call that makes new blocks alone, of arguments without places. -/
theorem post_new {H : Type} {enc : TypeId × Value → H} {P : Program} {f : Func} {s : ChangeSpec} {apart fresh handsOn : Bool} {W W' : World} {args : Array Value} {v : Value} {ds gs : List (DataW H)}
    (hW : DataW.Whole enc P f.params.toList s.vars apart W args.toList ds gs [])
    (hres : ∀ (b : Nat) (sp : Nat → Bool) (hd : Bool), DataW.TrodAll enc P W' b sp hd f.resultTypes.toList (v.resultList f.resultTypes.size) (s.fn H (ds ++ gs)).results [])
    (hargs : ∀ sp : Nat → Bool, DataW.TrodAll enc P W' 0 sp true f.params.toList args.toList (s.fn H (ds ++ gs)).args [])
    (hvars : ∀ sp : Nat → Bool, DataW.TrodVars enc P W' sp s.vars (s.fn H (ds ++ gs)).vars [])
    (hb : Below W.heap.size W W') : s.post enc P f apart fresh handsOn false W args v W' :=
  ⟨ds, gs, [], [], [], [], hW, hres _ _ _, hargs _, hvars _, hb.frame _, fun h => by cases h⟩

def foldZ : List Int := (List.range 128).map fun (n : Nat) => if n == 107 then 8490 else if n == 115 then 383 else if 65 ≤ n && n ≤ 90 then (n : Int) + 32 else if 97 ≤ n && n ≤ 122 then (n : Int) - 32 else (n : Int)

theorem own : ownKnob Tryz.prog.godebug = none := by kernel_rfl

/-- The tables, of a list of laid variables that has them. -/
theorem glob_of {W : World} {l : List (String × DataW Unit)} (hL : laidMet Tryz.prog l W) (hsh : W.ShapedOpen Tryz.prog)
    (h1 : ("unicode/utf8.first", Rows.laid_unicode_utf8_first) ∈ l) (h2 : ("unicode/utf8.acceptRanges", (Rows.laid_unicode_utf8_acceptRanges : DataW Unit)) ∈ l) (h3 : ("unicode.asciiFold", (Rows.laid_unicode_asciiFold : DataW Unit)) ∈ l) : Glob W := by
  refine ⟨?_, ?_, ?_⟩
  · have r1 := laidMet.reads hL h1
    have r2 := laidMet.reads hL h2
    rw [show Rows.laid_unicode_utf8_first = firstData from (by kernel_rfl : Pinned.utf8First = firstData)] at r1
    rw [show (Rows.laid_unicode_utf8_acceptRanges : DataW Unit) = acceptData from by kernel_rfl] at r2
    exact utf8Tabs_of_reads Tryz.lays260 ⟨by kernel_rfl, by kernel_rfl, by kernel_rfl, by kernel_rfl, by kernel_rfl, by kernel_rfl, by kernel_rfl⟩ r1 r2
  · exact cell_of_shapedOpen_int (t := 3) (zero := #[.int .i64 0]) hsh (of_decide_eq_true (by kernel_rfl)) (by kernel_rfl) rfl (by kernel_rfl) (by kernel_rfl) Tryz.underlying3
  · obtain ⟨g, t, cs, fuel, p, hg, hty, hvar, hd⟩ := laidMet.reads hL h3
    obtain rfl := Option.some.inj ((show Tryz.prog.globalNamed "unicode.asciiFold" = some 3 by kernel_rfl).symm.trans hg)
    obtain rfl := Option.some.inj ((show (Tryz.prog.globals[3]?).map (·.type) = some 236 by kernel_rfl).symm.trans hty)
    rw [show (Rows.laid_unicode_asciiFold : DataW Unit) = tabData .u16 foldZ from by kernel_rfl] at hd
    have hcs := cells_of_tab Tryz.underlying236 Tryz.underlying235 (by kernel_rfl) (by kernel_rfl) hd
    have hcell : ∀ i z, foldZ[i]? = some z → W.cell? ⟨3, i, none⟩ = some (.int .u16 z) := fun i z hz => by
      rw [World.var?_cell hg hvar i, ← Array.getElem?_toList, hcs, List.getElem?_map, hz]
      rfl
    intro p hp
    have : foldZ[p.1]? = some (p.2 : Int) := by
      have hall : (foldPairs.all fun p => decide (foldZ[p.1]? = some (p.2 : Int))) = true := by kernel_rfl
      exact of_decide_eq_true (List.all_eq_true.1 hall p hp)
    exact hcell _ _ this
end Go.Proofs.YtahfcgjlcdbnjaaGreatDoor
/- Tokens as an argument: opened; read again where new blocks alone were made. -/
namespace Go.Proofs.YtahfcgjlcdbnjaaGreatDoor
open Go.ChangeShapes Go.WideShapes Go.ChangeAt Go.RowKit Go.Lib Go.Deep

theorem undToksS : Tryz.prog.underlying 34 = some (.slice 38) := by kernel_rfl
theorem cellsTok : Tryz.prog.cellsOf 38 = 4 := by kernel_rfl
theorem cellsPair : Tryz.prog.cellsOf 45 = 2 := by kernel_rfl
theorem tokS : ((Tryz.prog.underlying 38).bind fun d => match d with | .struct fs => some (fs.toList.map fun f => (Tryz.prog.underlying f.type, f.offset, Tryz.prog.cellsOf f.type)) | _ => none) =
    some [(some (.int .i64), 0, 1), (some .string, 1, 1), (some (.slice 45), 2, 1), (some .string, 3, 1)] := by kernel_rfl
theorem pairS : ((Tryz.prog.underlying 45).bind fun d => match d with | .struct fs => some (fs.toList.map fun f => (Tryz.prog.underlying f.type, f.offset, Tryz.prog.cellsOf f.type)) | _ => none) =
    some [(some .string, 0, 1), (some .string, 1, 1)] := by kernel_rfl
theorem struct_of {P : Program} {t : TypeId} {r : List (Option TypeDesc × Nat × Nat)} (h : ((P.underlying t).bind fun d => match d with | .struct fs => some (fs.toList.map fun f => (P.underlying f.type, f.offset, P.cellsOf f.type)) | _ => none) = some r) :
    ∃ fs : List Field, P.underlying t = some (.struct fs.toArray) ∧ (fs.map fun f => (P.underlying f.type, f.offset, P.cellsOf f.type)) = r := by
  cases hu : P.underlying t with
  | none => rw [hu] at h; cases h
  | some d =>
    rw [hu] at h
    cases d with
    | struct fs => exact ⟨fs.toList, rfl, Option.some.inj h⟩
    | _ => cases h
theorem len2 {α : Type} : ∀ {l : List α}, l.length = 2 → ∃ a b, l = [a, b]
  | [a, b], _ => ⟨a, b, rfl⟩
theorem len4 {α : Type} : ∀ {l : List α}, l.length = 4 → ∃ a b c d, l = [a, b, c, d]
  | [a, b, c, d], _ => ⟨a, b, c, d, rfl⟩
theorem tokFs : ∃ f0 f1 f2 f3 : Field, Tryz.prog.underlying 38 = some (.struct #[f0, f1, f2, f3]) ∧ (Tryz.prog.underlying f0.type = some (.int .i64) ∧ f0.offset = 0 ∧ Tryz.prog.cellsOf f0.type = 1) ∧ (Tryz.prog.underlying f1.type = some .string ∧ f1.offset = 1 ∧ Tryz.prog.cellsOf f1.type = 1) ∧
    (Tryz.prog.underlying f2.type = some (.slice 45) ∧ f2.offset = 2 ∧ Tryz.prog.cellsOf f2.type = 1) ∧ (Tryz.prog.underlying f3.type = some .string ∧ f3.offset = 3 ∧ Tryz.prog.cellsOf f3.type = 1) := by
  obtain ⟨fs, hu, hr⟩ := struct_of tokS
  obtain ⟨f0, f1, f2, f3, rfl⟩ := len4 (l := fs) (by have := congrArg List.length hr; simpa using this)
  simp only [List.map_cons, List.map_nil, List.cons.injEq, Prod.mk.injEq, and_true] at hr
  exact ⟨f0, f1, f2, f3, hu, hr.1, hr.2.1, hr.2.2.1, hr.2.2.2⟩
theorem pairFs : ∃ f0 f1 : Field, Tryz.prog.underlying 45 = some (.struct #[f0, f1]) ∧ (Tryz.prog.underlying f0.type = some .string ∧ f0.offset = 0 ∧ Tryz.prog.cellsOf f0.type = 1) ∧ (Tryz.prog.underlying f1.type = some .string ∧ f1.offset = 1 ∧ Tryz.prog.cellsOf f1.type = 1) := by
  obtain ⟨fs, hu, hr⟩ := struct_of pairS
  obtain ⟨f0, f1, rfl⟩ := len2 (l := fs) (by have := congrArg List.length hr; simpa using this)
  simp only [List.map_cons, List.map_nil, List.cons.injEq, Prod.mk.injEq, and_true] at hr
  exact ⟨f0, f1, hu, hr.1, hr.2⟩

section
variable {H : Type} {enc : TypeId × Value → H} {w : World} {base : Nat} {spare : Nat → Bool} {held : Bool}

theorem bulk_one : ∀ d : DataW H, 1 ≤ Rows.uptoBulk d := by
  intro d
  cases d with
  | lit v => cases v <;> simp [Rows.uptoBulk]
  | _ => simp [Rows.uptoBulk]
theorem bulk_len : ∀ ds : List (DataW H), ds.length ≤ Rows.uptoBulkAll ds
  | [] => Nat.zero_le _
  | d :: ds => by
    have h1 := bulk_one d
    have h2 := bulk_len ds
    simp only [List.length_cons, Rows.uptoBulkAll]; omega
theorem bulk_mem : ∀ {ds : List (DataW H)} {d : DataW H}, d ∈ ds → Rows.uptoBulk d ≤ Rows.uptoBulkAll ds
  | d :: ds, e, h => by
    rcases List.mem_cons.1 h with rfl | h
    · simp only [Rows.uptoBulkAll]; omega
    · have := bulk_mem h
      simp only [Rows.uptoBulkAll]; omega

theorem str_of_trod {t : TypeId} {n : Nat} {cs : List Value} {x : DataW H × List MemPlace} (ht : Tryz.prog.underlying t = some .string) (h : DataW.trod enc Tryz.prog w base spare held n t cs = some x) :
    ∃ l : Bytes, cs = [str l] ∧ x = (.lit (.string l), []) := by
  obtain ⟨s, rfl, rfl, _⟩ := DataW.trod_string ht h
  exact ⟨s.data.toList, by rw [show (str s.data.toList) = .string s from (congrArg Value.string (bytes_str s)).symm], rfl⟩

theorem open_pair {n : Nat} {cs : List Value} {x : DataW H × List MemPlace} (h : DataW.trod enc Tryz.prog w base spare held n 45 cs = some x) :
    ∃ p : Bytes × Bytes, cs = [str p.1, str p.2] ∧ x.1 = .agg [.lit (.string p.1), .lit (.string p.2)] := by
  obtain ⟨f0, f1, hu, ⟨u0, o0, c0⟩, ⟨u1, o1, c1⟩⟩ := pairFs
  obtain ⟨xs, k, hk, hxy, hl, hxl, hf⟩ := DataW.trod_struct hu h
  rw [cellsPair] at hl
  have hxl : xs.length = 2 := hxl
  obtain ⟨y0, y1, rfl⟩ := len2 hxl
  obtain ⟨v0, v1, rfl⟩ := len2 hl
  have g0 := hf 0 f0 rfl
  have g1 := hf 1 f1 rfl
  simp [o0, o1, c0, c1] at g0 g1
  obtain ⟨l0, h0, rfl⟩ := str_of_trod u0 g0
  obtain ⟨l1, h1, rfl⟩ := str_of_trod u1 g1
  simp only [List.cons.injEq, and_true] at h0 h1
  subst h0 h1
  exact ⟨(l0, l1), rfl, by rw [hxy]; rfl⟩

theorem open_attrs {t : TypeId} {n : Nat} {v : Value} {x : DataW H × List MemPlace} (ht : Tryz.prog.underlying t = some (.slice 45)) (h : DataW.trod enc Tryz.prog w base spare held n t [v] = some x) :
    ∃ l : List (Bytes × Bytes), AttrsAt w v l ∧ l.length ≤ Rows.uptoBulk x.1 ∧ ∀ p ∈ l, p.1.length ≤ Rows.uptoBulk x.1 ∧ p.2.length ≤ Rows.uptoBulk x.1 := by
  rcases open_slice ht h with ⟨e, rfl⟩ | ⟨a, len, cap, m, n, D, Pl, e, hb, hl, hm, hmm, rfl, hx⟩
  · simp only [List.cons.injEq, and_true] at e
    subst e
    exact ⟨[], ⟨none, 0, rfl, fun h => absurd h (Nat.lt_irrefl _)⟩, Nat.zero_le _, fun p hp => by cases hp⟩
  · simp only [List.cons.injEq, and_true] at e
    subst e
    have hlm : len ≤ m := by rw [hmm]; split <;> omega
    rw [cellsPair] at hx
    have each : ∀ i, i < len → ∃ p : Bytes × Bytes, w.cell? (a.add (i * 2)) = some (str p.1) ∧ w.cell? (a.add (i * 2 + 1)) = some (str p.2) ∧ D i = .agg [.lit (.string p.1), .lit (.string p.2)] := by
      intro i hi
      obtain ⟨cs', h1, h2⟩ := hx i (by omega)
      obtain ⟨p, rfl, hd⟩ := open_pair h2
      obtain ⟨_, hlen, hcell⟩ := World.cells?_some h1
      have k0 := hcell 0 (by omega)
      have k1 := hcell 1 (by omega)
      rw [add_add] at k0 k1
      exact ⟨p, by simpa using k0, by simpa using k1, hd⟩
    obtain ⟨f, hf⟩ := choose_lt each
    refine ⟨(List.range len).map f, ⟨some a, cap, by simp, fun hp => ?_⟩, ?_, ?_⟩
    · have hp : 0 < len := by simpa using hp
      have hsp := World.cell?_spot (hf 0 hp).1
      obtain ⟨b, off, spot⟩ := a
      have : spot = none := by simpa [Addr.add] using hsp
      subst this
      refine ⟨b, off, rfl, fun j p hj => ?_⟩
      have hj' : j < len := by have := (List.getElem?_eq_some_iff.1 hj).1; simpa using this
      have hjp : f j = p := by simpa [hj'] using hj
      obtain ⟨k0, k1, _⟩ := hf j hj'
      rw [Go.WideShapes.add_plain] at k0 k1
      rw [hjp] at k0 k1
      exact ⟨k0, k1⟩
    · have := bulk_len ((List.range len).map D)
      simp only [List.length_map, List.length_range, Rows.uptoBulk] at this ⊢
      omega
    · intro p hp
      obtain ⟨i, hi, rfl⟩ := List.mem_map.1 hp
      have hi' : i < len := by simpa using hi
      have hd := (hf i hi').2.2
      have := bulk_mem (List.mem_map.2 ⟨i, hi, rfl⟩ : D i ∈ (List.range len).map D)
      rw [hd] at this
      simp only [Rows.uptoBulk, Rows.uptoBulkAll] at this ⊢
      omega

theorem open_token {n : Nat} {cs : List Value} {x : DataW H × List MemPlace} (h : DataW.trod enc Tryz.prog w base spare held n 38 cs = some x) (hb : Rows.uptoBulk x.1 ≤ 1048576) :
    ∃ (t : Tok) (av : Value), cs = [.int .i64 t.kind, str t.name, av, str t.text] ∧ AttrsAt w av t.attrs ∧ SmallTok t := by
  obtain ⟨f0, f1, f2, f3, hu, ⟨u0, o0, c0⟩, ⟨u1, o1, c1⟩, ⟨u2, o2, c2⟩, ⟨u3, o3, c3⟩⟩ := tokFs
  obtain ⟨xs, k, hk, hxy, hl, hxl, hf⟩ := DataW.trod_struct hu h
  rw [cellsTok] at hl
  have hxl : xs.length = 4 := hxl
  obtain ⟨y0, y1, y2, y3, rfl⟩ := len4 hxl
  obtain ⟨v0, v1, v2, v3, rfl⟩ := len4 hl
  have g0 := hf 0 f0 rfl
  have g1 := hf 1 f1 rfl
  have g2 := hf 2 f2 rfl
  have g3 := hf 3 f3 rfl
  simp [o0, o1, o2, o3, c0, c1, c2, c3] at g0 g1 g2 g3
  obtain ⟨kd, h0, rfl, _⟩ := DataW.trod_int u0 g0
  obtain ⟨l1, h1, rfl⟩ := str_of_trod u1 g1
  obtain ⟨l3, h3, rfl⟩ := str_of_trod u3 g3
  obtain ⟨at_, hat, hn, hsz⟩ := open_attrs u2 g2
  simp only [List.cons.injEq, and_true] at h0 h1 h3
  subst h0 h1 h3
  rw [hxy] at hb
  simp only [List.map_cons, List.map_nil, Rows.uptoBulk, Rows.uptoBulkAll] at hb
  exact ⟨⟨kd, l1, at_, l3⟩, v2, rfl, hat, by simp only; omega, by simp only; omega, by simp only; omega, fun p hp => by have := hsz p hp; omega⟩

theorem open_tokens {n : Nat} {v : Value} {x : DataW H × List MemPlace} (h : DataW.trod enc Tryz.prog w base spare held n 34 [v] = some x) (hb : Rows.uptoBulk x.1 ≤ 1048576) :
    ∃ l : List Tok, TokRow w v l ∧ l.length ≤ 1048576 ∧ ∀ t ∈ l, SmallTok t := by
  rcases open_slice undToksS h with ⟨e, rfl⟩ | ⟨a, len, cap, m, n, D, Pl, e, hb0, hl, hm, hmm, rfl, hx⟩
  · simp only [List.cons.injEq, and_true] at e
    subst e
    exact ⟨[], ⟨none, 0, rfl, fun h => absurd h (Nat.lt_irrefl _)⟩, Nat.zero_le _, fun p hp => by cases hp⟩
  · simp only [List.cons.injEq, and_true] at e
    subst e
    have hlm : len ≤ m := by rw [hmm]; split <;> omega
    rw [cellsTok] at hx
    simp only [Rows.uptoBulk] at hb
    have each : ∀ i, i < len → ∃ p : Tok × Value, w.cell? (a.add (i * 4)) = some (.int .i64 p.1.kind) ∧ w.cell? (a.add (i * 4 + 1)) = some (str p.1.name) ∧ w.cell? (a.add (i * 4 + 2)) = some p.2 ∧ w.cell? (a.add (i * 4 + 3)) = some (str p.1.text) ∧ AttrsAt w p.2 p.1.attrs ∧ SmallTok p.1 := by
      intro i hi
      obtain ⟨cs', h1, h2⟩ := hx i (by omega)
      have hbi := bulk_mem (List.mem_map.2 ⟨i, List.mem_range.2 hi, rfl⟩ : D i ∈ (List.range len).map D)
      obtain ⟨t, av, rfl, hat, hst⟩ := open_token h2 (by simp only; omega)
      obtain ⟨_, hlen, hcell⟩ := World.cells?_some h1
      have k0 := hcell 0 (by omega)
      have k1 := hcell 1 (by omega)
      have k2 := hcell 2 (by omega)
      have k3 := hcell 3 (by omega)
      rw [add_add] at k0 k1 k2 k3
      exact ⟨(t, av), by simpa using k0, by simpa using k1, by simpa using k2, by simpa using k3, hat, hst⟩
    haveI : Inhabited (Tok × Value) := ⟨(⟨0, [], [], []⟩, undef)⟩
    obtain ⟨f, hf⟩ := choose_lt each
    refine ⟨(List.range len).map fun i => (f i).1, ⟨some a, cap, by simp, fun hp => ?_⟩, ?_, ?_⟩
    · have hp : 0 < len := by simpa using hp
      have hsp := World.cell?_spot (hf 0 hp).1
      obtain ⟨b, off, spot⟩ := a
      have : spot = none := by simpa [Addr.add] using hsp
      subst this
      refine ⟨b, off, rfl, fun j p hj => ?_⟩
      have hj' : j < len := by have := (List.getElem?_eq_some_iff.1 hj).1; simpa using this
      have hjp : (f j).1 = p := by simpa [hj'] using hj
      obtain ⟨k0, k1, k2, k3, hat, _⟩ := hf j hj'
      rw [Go.WideShapes.add_plain] at k0 k1 k2 k3
      rw [hjp] at k0 k1 k3 hat
      exact ⟨(f j).2, k0, k1, k2, k3, hat⟩
    · have := bulk_len ((List.range len).map D)
      simp only [List.length_map, List.length_range] at this ⊢
      omega
    · intro p hp
      obtain ⟨i, hi, rfl⟩ := List.mem_map.1 hp
      exact (hf i (by simpa using hi)).2.2.2.2.2
end
end Go.Proofs.YtahfcgjlcdbnjaaGreatDoor
/- Arguments read again where new blocks alone were made. -/
namespace Go.Proofs.YtahfcgjlcdbnjaaGreatDoor
open Go.ChangeShapes Go.WideShapes Go.ChangeAt Go.RowKit Go.Lib Go.Deep

theorem laidOut' : laidOutB Tryz.prog = true := by kernel_rfl
theorem readToks : Tryz.prog.readableRec 34 = true := by kernel_rfl
theorem rowToks : 34 < Tryz.prog.types.size := of_decide_eq_true (by kernel_rfl)

theorem one_cell {P : Program} {W : World} {b : Nat} {t e : TypeId} {v : Value} (ht : P.underlying t = some (.slice e)) (hv : Value.okWide P W .any b t v) : v.cells.toList = [v] := by
  cases v <;> first | rfl | (simp [Value.okWide, ht, Cell.okWide, Cell.ok] at hv)

section
variable {H : Type} {enc : TypeId × Value → H}

theorem carry_below {t : TypeId} (hr : Tryz.prog.readableRec t = true) (hrow : t < Tryz.prog.types.size) {W W' : World} (hb : Below W.heap.size W W') {n : Nat} {cs : List Value} {x : DataW H × List MemPlace}
    (h : DataW.trod enc Tryz.prog W 0 (fun _ => true) true n t cs = some x) (hlt : ∀ p ∈ x.2, p.block < W.heap.size) {sp : Nat → Bool} (hsp : ∀ p ∈ x.2, sp p.block = true) :
    DataW.trod enc Tryz.prog W' 0 sp true n t cs = some x :=
  DataW.trod_stays (kids_book laidOut' hr) (book_sized hr) (fun h => by cases h) ⟨hrow, book_self t⟩ h
    (fun p hp => World.keptBut.sameAt (hb.frame (fun _ => False)) (hlt p hp) id (fun b e => by
      have := DataW.trod_good (kids_book laidOut' hr) (fun h => by cases h) n t cs x ⟨hrow, book_self t⟩ h p hp
      subst e
      exact this))
    hsp

theorem post_new2 {f : Func} {s : ChangeSpec} {apart fresh handsOn : Bool} {W W' : World} {args : Array Value} {v : Value} {ds gs : List (DataW H)} {before pa pv : List MemPlace}
    (hW : DataW.Whole enc Tryz.prog f.params.toList s.vars apart W args.toList ds gs before)
    (hres : ∀ (b : Nat) (sp : Nat → Bool) (hd : Bool), DataW.TrodAll enc Tryz.prog W' b sp hd f.resultTypes.toList (v.resultList f.resultTypes.size) (s.fn H (ds ++ gs)).results [])
    (hargs : ∀ sp : Nat → Bool, (∀ p ∈ before, sp p.block = true) → DataW.TrodAll enc Tryz.prog W' 0 sp true f.params.toList args.toList (s.fn H (ds ++ gs)).args pa)
    (hvars : ∀ sp : Nat → Bool, (∀ p ∈ before, sp p.block = true) → DataW.TrodVars enc Tryz.prog W' sp s.vars (s.fn H (ds ++ gs)).vars pv)
    (hb : Below W.heap.size W W') : s.post enc Tryz.prog f apart fresh handsOn false W args v W' :=
  have hold : ∀ p ∈ before, (fun b => decide (b < W.heap.size)) p.block = true := fun p hp => by simpa using hW.lt p hp
  ⟨ds, gs, before, [], pa, pv, hW, hres _ _ _, hargs _ hold, hvars _ hold, hb.frame _, fun h => by cases h⟩
end
end Go.Proofs.YtahfcgjlcdbnjaaGreatDoor
