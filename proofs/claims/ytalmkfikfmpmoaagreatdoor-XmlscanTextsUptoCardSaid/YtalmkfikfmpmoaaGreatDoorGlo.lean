/- What the rows' laid variables give: the library's tables; what a call that makes new blocks alone leaves. -/
import Derived.Test.YtalmkfikfmpmoaaGreatDoorLaw
import Derived.Test.YtalmkfikfmpmoaaGreatDoorCards
import Derived.Test.YtalmkfikfmpmoaaGreatDoorTie
import Derived.WalkKit
import Derived.ProofKit
import Derived.OpenShut
import Derived.ShutString
import Derived.Lay
import Derived.HandedShaped
import Derived.Shelf.Vars
import Derived.Lib.LaidU8
import Derived.Lib.LaidTab
import Derived.Deep.DeepHandedRow
namespace Go.Proofs.YtalmkfikfmpmoaaGreatDoor
open Go.ChangeShapes Go.WideShapes Go.ChangeAt Go.RowKit Go.Lib
open Go.ChangeMaps (open_string shut_string)

/-- What is behind a call that makes new blocks alone, of arguments without places. -/
theorem post_new {H : Type} {enc : TypeId × Value → H} {P : Program} {f : Func} {s : ChangeSpec} {apart fresh handsOn : Bool} {W W' : World} {args : Array Value} {v : Value} {ds gs : List (DataW H)}
    (hW : DataW.Whole enc P f.params.toList s.vars apart W args.toList ds gs [])
    (hres : ∀ (b : Nat) (sp : Nat → Bool) (hd : Bool), DataW.TrodAll enc P W' b sp hd f.resultTypes.toList (v.resultList f.resultTypes.size) (s.fn H (ds ++ gs)).results [])
    (hargs : ∀ sp : Nat → Bool, DataW.TrodAll enc P W' 0 sp true f.params.toList args.toList (s.fn H (ds ++ gs)).args [])
    (hvars : ∀ sp : Nat → Bool, DataW.TrodVars enc P W' sp s.vars (s.fn H (ds ++ gs)).vars [])
    (hb : Below W.heap.size W W') : s.post enc P f apart fresh handsOn false W args v W' :=
  ⟨ds, gs, [], [], [], [], hW, hres _ _ _, hargs _, hvars _, hb.frame _, fun h => by cases h⟩

def foldZ : List Int := (List.range 128).map fun (n : Nat) => if n == 107 then 8490 else if n == 115 then 383 else if 65 ≤ n && n ≤ 90 then (n : Int) + 32 else if 97 ≤ n && n ≤ 122 then (n : Int) - 32 else (n : Int)

theorem own : ownKnob Tryz.prog.godebug = none := by kernel_rfl

/-- The tables, of a list of laid variables that has them. -/
theorem glob_of {W : World} {l : List (String × DataW Unit)} (hL : laidMet Tryz.prog l W) (hsh : W.ShapedOpen Tryz.prog)
    (h1 : ("unicode/utf8.first", Rows.laid_unicode_utf8_first) ∈ l) (h2 : ("unicode/utf8.acceptRanges", (Rows.laid_unicode_utf8_acceptRanges : DataW Unit)) ∈ l) (h3 : ("unicode.asciiFold", (Rows.laid_unicode_asciiFold : DataW Unit)) ∈ l) : Glob W := by
  refine ⟨?_, ?_, ?_⟩
  · have r1 := laidMet.reads hL h1
    have r2 := laidMet.reads hL h2
    rw [show Rows.laid_unicode_utf8_first = firstData from (by kernel_rfl : Pinned.utf8First = firstData)] at r1
    rw [show (Rows.laid_unicode_utf8_acceptRanges : DataW Unit) = acceptData from by kernel_rfl] at r2
    exact utf8Tabs_of_reads Tryz.lays260 ⟨by kernel_rfl, by kernel_rfl, by kernel_rfl, by kernel_rfl, by kernel_rfl, by kernel_rfl, by kernel_rfl⟩ r1 r2
  · exact cell_of_shapedOpen_int (t := 3) (zero := #[.int .i64 0]) hsh (of_decide_eq_true (by kernel_rfl)) (by kernel_rfl) rfl (by kernel_rfl) (by kernel_rfl) Tryz.underlying3
  · obtain ⟨g, t, cs, fuel, p, hg, hty, hvar, hd⟩ := laidMet.reads hL h3
    obtain rfl := Option.some.inj ((show Tryz.prog.globalNamed "unicode.asciiFold" = some 2 by kernel_rfl).symm.trans hg)
    obtain rfl := Option.some.inj ((show (Tryz.prog.globals[2]?).map (·.type) = some 179 by kernel_rfl).symm.trans hty)
    rw [show (Rows.laid_unicode_asciiFold : DataW Unit) = tabData .u16 foldZ from by kernel_rfl] at hd
    have hcs := cells_of_tab Tryz.underlying179 Tryz.underlying41 (by kernel_rfl) (by kernel_rfl) hd
    have hcell : ∀ i z, foldZ[i]? = some z → W.cell? ⟨2, i, none⟩ = some (.int .u16 z) := fun i z hz => by
      rw [World.var?_cell hg hvar i, ← Array.getElem?_toList, hcs, List.getElem?_map, hz]
      rfl
    intro p hp
    have : foldZ[p.1]? = some (p.2 : Int) := by
      have hall : (foldPairs.all fun p => decide (foldZ[p.1]? = some (p.2 : Int))) = true := by kernel_rfl
      exact of_decide_eq_true (List.all_eq_true.1 hall p hp)
    exact hcell _ _ this
end Go.Proofs.YtalmkfikfmpmoaaGreatDoor
