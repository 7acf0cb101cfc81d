/- sync.Once in a block of the call's own: what Do leaves. -/
import Derived.Test.YtalmkfikfmpmoaaGreatDoorLib
import Derived.Tactics2
import Derived.Defers
import Derived.Laws.Pointers
import Derived.Laws.LoneSync
import Derived.RegionTactic
import Derived.RegionCalls
namespace Go.Proofs.YtalmkfikfmpmoaaGreatDoor
open Go.RowKit

section
variable {W w : World} {L : List Asn} {b i : Nat} {cs : Array Value} {T : TypeId}

theorem raceOff (w : World) : (callFunc 175 #[]).run Tryz.prog w = .ok (.value (.tuple #[])) w := run_call_mark0 Tryz.func175 (by kernel_rfl) (by kernel_rfl) (by kernel_rfl) .disable (by kernel_rfl) w
theorem raceOn (w : World) : (callFunc 177 #[]).run Tryz.prog w = .ok (.value (.tuple #[])) w := run_call_mark0 Tryz.func177 (by kernel_rfl) (by kernel_rfl) (by kernel_rfl) .enable (by kernel_rfl) w
theorem raceGet (a : Addr) (w : World) : (callFunc 178 #[.pointer (some a)]).run Tryz.prog w = .ok (.value (.tuple #[])) w := run_call_marked Tryz.func178 (by kernel_rfl) (by kernel_rfl) (by kernel_rfl) .acquire (by kernel_rfl) a w
theorem raceLet (a : Addr) (w : World) : (callFunc 180 #[.pointer (some a)]).run Tryz.prog w = .ok (.value (.tuple #[])) w := run_call_marked Tryz.func180 (by kernel_rfl) (by kernel_rfl) (by kernel_rfl) .releaseMerge (by kernel_rfl) a w

set_option maxRecDepth 100000 in
theorem onceLoad_any (x : Hold W w (Asn.pts b (.cells cs T (0, 0)) :: L)) (d : Bool) (hc : cs[i]? = some (.int .u32 (if d then 1 else 0))) :
    Calls Tryz.prog 91 #[.pointer (some ⟨b, i, none⟩)] w fun e w' => e = .returned (.bool d) ∧ w' = w := by
  have h0 := (x.cell i).trans hc
  have hl := run_call_load (P := Tryz.prog) Tryz.func128 (by kernel_rfl) (by kernel_rfl) (by kernel_rfl) .u32 (by kernel_rfl) h0
  go_enter Tryz.func91, Tryz.ntmps91
  cases d
  · go_wp2
    go_ret
    exact ⟨rfl, rfl⟩
  · go_wp2
    go_ret
    exact ⟨rfl, rfl⟩

set_option maxRecDepth 100000 in
/-- The flag is set, as a deferred call. -/
theorem onceStore_any (x : Hold W w (Asn.pts b (.cells cs T (0, 0)) :: L)) (v : Value) (hc : cs[i]? = some v) (u : FrameMode) :
    CallsD Tryz.prog 131 #[.pointer (some ⟨b, i, none⟩), .bool true] u w fun e u' w' => u' = u ∧ (e = .returned (.tuple #[]) ∧ Hold W w' (Asn.pts b (.cells (cs.setIfInBounds i (.int .u32 1)) T (0, 0)) :: L)) := by
  have hc' : w.drew.cell? ⟨b, i, none⟩ = some v := (x.drew.cell i).trans hc
  have hz' : w.drew.frozen? ⟨b, i, none⟩ = false := x.drew.free i
  have hst := run_call_store (P := Tryz.prog) Tryz.func161 (by kernel_rfl) (by kernel_rfl) (by kernel_rfl) (by kernel_rfl) (k := .u32) (y := 1) hc' hz'
  have hy := x.drew.set i (.int .u32 1)
  go_enter_d Tryz.func131, Tryz.ntmps131
  go_wp2
  go_region_calls
  all_goals (go_end0; exact ⟨rfl, hy⟩)

set_option maxRecDepth 100000 in
theorem innerUnlock_any (x : Hold W w (Asn.pts b (.cells cs T (0, 0)) :: L)) (hc : cs[i]? = some (.int .i32 1)) :
    Calls Tryz.prog 160 #[.pointer (some ⟨b, i, none⟩)] w fun e w' => e = .returned (.tuple #[]) ∧ Hold W w' (Asn.pts b (.cells (cs.setIfInBounds i (.int .i32 0)) T (0, 0)) :: L) := by
  have hd := raceOff
  have he := raceOn
  have hr := raceLet
  have hcell := (x.cell i).trans hc
  have hz := x.free i
  have hadd := run_call_add (P := Tryz.prog) Tryz.func181 (by kernel_rfl) (by kernel_rfl) (by kernel_rfl) .i32 (by kernel_rfl) (y := -1) (s := 0) hcell hz (by simp [go_sem]; rfl)
  have hcv := run_convert_to_unsafe (P := Tryz.prog) (src := 193) (dst := 125) Tryz.underlying193 Tryz.underlying125 (by kernel_rfl) hcell
  have hy := x.set i (.int .i32 0)
  go_enter Tryz.func160, Tryz.ntmps160
  go_wp2
  go_end0
  exact ⟨rfl, hy⟩

set_option maxRecDepth 100000 in
/-- The lock is let go, as a deferred call. -/
theorem onceUnlock_any (x : Hold W w (Asn.pts b (.cells cs T (0, 0)) :: L)) (hc : cs[i]? = some (.int .i32 1)) (u : FrameMode) :
    CallsD Tryz.prog 130 #[.pointer (some ⟨b, i, none⟩)] u w fun e u' w' => u' = u ∧ (e = .returned (.tuple #[]) ∧ Hold W w' (Asn.pts b (.cells (cs.setIfInBounds i (.int .i32 0)) T (0, 0)) :: L)) := by
  go_enter_d Tryz.func130, Tryz.ntmps130
  go_wp2_with fail
  refine (innerUnlock_any x hc).mono ?_
  rintro e w1 ⟨rfl, hy⟩
  go_wp2
  go_end0
  exact ⟨rfl, hy⟩

set_option maxRecDepth 100000 in
theorem innerLock_any (x : Hold W w (Asn.pts b (.cells cs T (0, 0)) :: L)) (hc : cs[i]? = some (.int .i32 0)) :
    Calls Tryz.prog 159 #[.pointer (some ⟨b, i, none⟩)] w fun e w' => e = .returned (.tuple #[]) ∧ Hold W w' (Asn.pts b (.cells (cs.setIfInBounds i (.int .i32 1)) T (0, 0)) :: L) := by
  have hd := raceOff
  have he := raceOn
  have ha := raceGet
  have hcell := (x.cell i).trans hc
  have hz := x.free i
  have hcas := run_call_cas_hit (P := Tryz.prog) Tryz.func176 (by kernel_rfl) (by kernel_rfl) (by kernel_rfl) .i32 (by kernel_rfl) (y := 1) hcell hz
  have hy := x.set i (.int .i32 1)
  have hc' : (w.setCell ⟨b, i, none⟩ (.int .i32 1)).cell? ⟨b, i, none⟩ = some (.int .i32 1) := World.cell?_setCell_same w ⟨b, i, none⟩ _ hcell
  have hcv := run_convert_to_unsafe (P := Tryz.prog) (src := 193) (dst := 125) Tryz.underlying193 Tryz.underlying125 (by kernel_rfl) hc'
  go_enter Tryz.func159, Tryz.ntmps159
  go_wp2
  first | go_end0 | (simp only [Exit.inBlock, Exit.then]; refine bodyPost_ret (results_none rfl _ _ _) rfl ?_) | refine bodyPost_ret (results_none rfl _ _ _) rfl ?_
  exact ⟨rfl, hy⟩

set_option maxRecDepth 100000 in
theorem onceLock_any (x : Hold W w (Asn.pts b (.cells cs T (0, 0)) :: L)) (hc : cs[i]? = some (.int .i32 0)) :
    Calls Tryz.prog 129 #[.pointer (some ⟨b, i, none⟩)] w fun e w' => e = .returned (.tuple #[]) ∧ Hold W w' (Asn.pts b (.cells (cs.setIfInBounds i (.int .i32 1)) T (0, 0)) :: L) := by
  go_enter Tryz.func129, Tryz.ntmps129
  go_wp2_with fail
  refine (innerLock_any x hc).mono ?_
  rintro e w1 ⟨rfl, hy⟩
  go_wp2
  go_end0
  exact ⟨rfl, hy⟩

set_option maxRecDepth 100000 in
set_option maxHeartbeats 1600000 in
/-- The slow road: not yet done, the lock free: the function is called; then the flag, then the lock. -/
theorem onceSlow_any (p : Value) (Q : Array Value → List Asn → Prop) (x : Hold W w (Asn.pts b (.cells cs T (0, 0)) :: L)) (h0 : cs[0]? = some (.int .u32 0)) (h1 : cs[1]? = some (.int .i32 0))
    (hF : ∀ w1, Hold W w1 (Asn.pts b (.cells (cs.setIfInBounds 1 (.int .i32 1)) T (0, 0)) :: L) → Calls Tryz.prog 60 #[p] w1 fun e w' => e = .returned (.tuple #[]) ∧ ∃ cs' L', Q cs' L' ∧ cs'[0]? = some (.int .u32 0) ∧ cs'[1]? = some (.int .i32 1) ∧ Hold W w' (Asn.pts b (.cells cs' T (0, 0)) :: L')) :
    Calls Tryz.prog 92 #[.pointer (some ⟨b, 0, none⟩), .func (.func 60) #[p] #[]] w fun e w' => e = .returned (.tuple #[]) ∧
      ∃ cs' L', Q cs' L' ∧ Hold W w' (Asn.pts b (.cells ((cs'.setIfInBounds 0 (.int .u32 1)).setIfInBounds 1 (.int .i32 0)) T (0, 0)) :: L') := by
  have hnot : ∀ (x : Bool) (w : World), (Op.unary .not (.bool x)).run Tryz.prog w = .ok (.bool (!x)) w := fun _ _ => rfl
  have hk0 : (cs.setIfInBounds 1 (.int .i32 1))[0]? = some (.int .u32 (if false then 1 else 0)) := by
    rw [Array.getElem?_setIfInBounds_ne (by decide)]; exact h0
  go_enter_defers Tryz.func92, Tryz.ntmps92
  go_wp2_with fail
  refine (onceLock_any x h1).mono ?_
  rintro e w1 ⟨rfl, y⟩
  have HY := Lib.hid y
  clear y
  go_wp2_with fail
  refine (onceLoad_any HY.out false hk0).mono ?_
  rintro e w2 ⟨rfl, rfl⟩
  go_wp2_with fail
  refine (hF _ HY.out).mono ?_
  rintro e w3 ⟨rfl, cs', L', hq, k0, k1, z⟩
  have HZ := Lib.hid z
  clear z
  go_wp2_with fail
  refine leaves_cons (f := 131) (args := #[.pointer (some ⟨b, 0, none⟩), .bool true]) (by simp) (by simp [go_sem]) ?_
  refine (onceStore_any HZ.out _ k0 .returning).mono ?_
  rintro e u' w4 ⟨rfl, rfl, z4⟩
  refine leaves_cons (f := 130) (args := #[.pointer (some ⟨b, 1, none⟩)]) (by simp [settle]) (by simp [go_sem]) ?_
  refine (onceUnlock_any z4 (by rw [Array.getElem?_setIfInBounds_ne (by decide)]; exact k1) _).mono ?_
  rintro e u' w5 ⟨rfl, rfl, z5⟩
  simp [Leaves, settle, results, Tryz.results92]
  exact ⟨cs', L', hq, z5⟩

set_option maxRecDepth 100000 in
set_option maxHeartbeats 1600000 in
/-- Do, the first time. -/
theorem onceDo_any (p : Value) (Q : Array Value → List Asn → Prop) (x : Hold W w (Asn.pts b (.cells cs T (0, 0)) :: L)) (h0 : cs[0]? = some (.int .u32 0)) (h1 : cs[1]? = some (.int .i32 0))
    (hF : ∀ w1, Hold W w1 (Asn.pts b (.cells (cs.setIfInBounds 1 (.int .i32 1)) T (0, 0)) :: L) → Calls Tryz.prog 60 #[p] w1 fun e w' => e = .returned (.tuple #[]) ∧ ∃ cs' L', Q cs' L' ∧ cs'[0]? = some (.int .u32 0) ∧ cs'[1]? = some (.int .i32 1) ∧ Hold W w' (Asn.pts b (.cells cs' T (0, 0)) :: L')) :
    Calls Tryz.prog 59 #[.pointer (some ⟨b, 0, none⟩), .func (.func 60) #[p] #[]] w fun e w' => e = .returned (.tuple #[]) ∧
      ∃ cs' L', Q cs' L' ∧ Hold W w' (Asn.pts b (.cells ((cs'.setIfInBounds 0 (.int .u32 1)).setIfInBounds 1 (.int .i32 0)) T (0, 0)) :: L') := by
  have hnot : ∀ (x : Bool) (w : World), (Op.unary .not (.bool x)).run Tryz.prog w = .ok (.bool (!x)) w := fun _ _ => rfl
  go_enter Tryz.func59, Tryz.ntmps59
  go_wp2_with fail
  refine (onceLoad_any x false h0).mono ?_
  rintro e w2 ⟨rfl, rfl⟩
  go_wp2_with fail
  refine (onceSlow_any p Q x h0 h1 hF).mono ?_
  rintro e w3 ⟨rfl, hq⟩
  go_wp2_with fail
  go_end0
  exact ⟨rfl, hq⟩
end
end Go.Proofs.YtalmkfikfmpmoaaGreatDoor
