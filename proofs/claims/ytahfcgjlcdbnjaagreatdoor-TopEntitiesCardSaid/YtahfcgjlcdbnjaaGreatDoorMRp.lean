/- sync.Once in a block of the call's own: what Do leaves. -/
import Derived.Test.YtahfcgjlcdbnjaaGreatDoorMScn2
import Derived.Tactics2
import Derived.Defers
import Derived.Laws.Pointers
import Derived.Laws.LoneSync
import Derived.RegionTactic
import Derived.RegionCalls
import Derived.Test.YtahfcgjlcdbnjaaGreatDoorMTxt
import Derived.Lib.TrimUEq
import Derived.Lib.ValidLaws
import Derived.Lib.MapLaws
import Derived.Lib.TrimAscii
import Derived.Lib.CutLaws
import Derived.Lib.Bytealg
namespace Go.Proofs.YtahfcgjlcdbnjaaGreatDoor
open Go.RowKit

section
variable {W w : World} {L : List Asn} {b i : Nat} {cs : Array Value} {T : TypeId}

theorem raceOff (w : World) : (callFunc 241 #[]).run Tryz.prog w = .ok (.value (.tuple #[])) w := run_call_mark0 Tryz.func241 (by kernel_rfl) (by kernel_rfl) (by kernel_rfl) .disable (by kernel_rfl) w
theorem raceOn (w : World) : (callFunc 243 #[]).run Tryz.prog w = .ok (.value (.tuple #[])) w := run_call_mark0 Tryz.func243 (by kernel_rfl) (by kernel_rfl) (by kernel_rfl) .enable (by kernel_rfl) w
theorem raceGet (a : Addr) (w : World) : (callFunc 244 #[.pointer (some a)]).run Tryz.prog w = .ok (.value (.tuple #[])) w := run_call_marked Tryz.func244 (by kernel_rfl) (by kernel_rfl) (by kernel_rfl) .acquire (by kernel_rfl) a w
theorem raceLet (a : Addr) (w : World) : (callFunc 246 #[.pointer (some a)]).run Tryz.prog w = .ok (.value (.tuple #[])) w := run_call_marked Tryz.func246 (by kernel_rfl) (by kernel_rfl) (by kernel_rfl) .releaseMerge (by kernel_rfl) a w

set_option maxRecDepth 100000 in
theorem onceLoad_any (x : Hold W w (Asn.pts b (.cells cs T (0, 0)) :: L)) (d : Bool) (hc : cs[i]? = some (.int .u32 (if d then 1 else 0))) :
    Calls Tryz.prog 206 #[.pointer (some ⟨b, i, none⟩)] w fun e w' => e = .returned (.bool d) ∧ w' = w := by
  have h0 := (x.cell i).trans hc
  have hl := run_call_load (P := Tryz.prog) Tryz.func217 (by kernel_rfl) (by kernel_rfl) (by kernel_rfl) .u32 (by kernel_rfl) h0
  go_enter Tryz.func206, Tryz.ntmps206
  cases d
  · go_wp2
    go_ret
    exact ⟨rfl, rfl⟩
  · go_wp2
    go_ret
    exact ⟨rfl, rfl⟩

set_option maxRecDepth 100000 in
/-- The flag is set, as a deferred call. -/
theorem onceStore_any (x : Hold W w (Asn.pts b (.cells cs T (0, 0)) :: L)) (v : Value) (hc : cs[i]? = some v) (u : FrameMode) :
    CallsD Tryz.prog 220 #[.pointer (some ⟨b, i, none⟩), .bool true] u w fun e u' w' => u' = u ∧ (e = .returned (.tuple #[]) ∧ Hold W w' (Asn.pts b (.cells (cs.setIfInBounds i (.int .u32 1)) T (0, 0)) :: L)) := by
  have hc' : w.drew.cell? ⟨b, i, none⟩ = some v := (x.drew.cell i).trans hc
  have hz' : w.drew.frozen? ⟨b, i, none⟩ = false := x.drew.free i
  have hst := run_call_store (P := Tryz.prog) Tryz.func230 (by kernel_rfl) (by kernel_rfl) (by kernel_rfl) (by kernel_rfl) (k := .u32) (y := 1) hc' hz'
  have hy := x.drew.set i (.int .u32 1)
  go_enter_d Tryz.func220, Tryz.ntmps220
  go_wp2
  go_region_calls
  all_goals (go_end0; exact ⟨rfl, hy⟩)

set_option maxRecDepth 100000 in
theorem innerUnlock_any (x : Hold W w (Asn.pts b (.cells cs T (0, 0)) :: L)) (hc : cs[i]? = some (.int .i32 1)) :
    Calls Tryz.prog 229 #[.pointer (some ⟨b, i, none⟩)] w fun e w' => e = .returned (.tuple #[]) ∧ Hold W w' (Asn.pts b (.cells (cs.setIfInBounds i (.int .i32 0)) T (0, 0)) :: L) := by
  have hd := raceOff
  have he := raceOn
  have hr := raceLet
  have hcell := (x.cell i).trans hc
  have hz := x.free i
  have hadd := run_call_add (P := Tryz.prog) Tryz.func247 (by kernel_rfl) (by kernel_rfl) (by kernel_rfl) .i32 (by kernel_rfl) (y := -1) (s := 0) hcell hz (by simp [go_sem]; rfl)
  have hcv := run_convert_to_unsafe (P := Tryz.prog) (src := 285) (dst := 160) Tryz.underlying285 Tryz.underlying160 (by kernel_rfl) hcell
  have hy := x.set i (.int .i32 0)
  go_enter Tryz.func229, Tryz.ntmps229
  go_wp2
  go_end0
  exact ⟨rfl, hy⟩

set_option maxRecDepth 100000 in
/-- The lock is let go, as a deferred call. -/
theorem onceUnlock_any (x : Hold W w (Asn.pts b (.cells cs T (0, 0)) :: L)) (hc : cs[i]? = some (.int .i32 1)) (u : FrameMode) :
    CallsD Tryz.prog 219 #[.pointer (some ⟨b, i, none⟩)] u w fun e u' w' => u' = u ∧ (e = .returned (.tuple #[]) ∧ Hold W w' (Asn.pts b (.cells (cs.setIfInBounds i (.int .i32 0)) T (0, 0)) :: L)) := by
  go_enter_d Tryz.func219, Tryz.ntmps219
  go_wp2_with fail
  refine (innerUnlock_any x hc).mono ?_
  rintro e w1 ⟨rfl, hy⟩
  go_wp2
  go_end0
  exact ⟨rfl, hy⟩

set_option maxRecDepth 100000 in
theorem innerLock_any (x : Hold W w (Asn.pts b (.cells cs T (0, 0)) :: L)) (hc : cs[i]? = some (.int .i32 0)) :
    Calls Tryz.prog 228 #[.pointer (some ⟨b, i, none⟩)] w fun e w' => e = .returned (.tuple #[]) ∧ Hold W w' (Asn.pts b (.cells (cs.setIfInBounds i (.int .i32 1)) T (0, 0)) :: L) := by
  have hd := raceOff
  have he := raceOn
  have ha := raceGet
  have hcell := (x.cell i).trans hc
  have hz := x.free i
  have hcas := run_call_cas_hit (P := Tryz.prog) Tryz.func242 (by kernel_rfl) (by kernel_rfl) (by kernel_rfl) .i32 (by kernel_rfl) (y := 1) hcell hz
  have hy := x.set i (.int .i32 1)
  have hc' : (w.setCell ⟨b, i, none⟩ (.int .i32 1)).cell? ⟨b, i, none⟩ = some (.int .i32 1) := World.cell?_setCell_same w ⟨b, i, none⟩ _ hcell
  have hcv := run_convert_to_unsafe (P := Tryz.prog) (src := 285) (dst := 160) Tryz.underlying285 Tryz.underlying160 (by kernel_rfl) hc'
  go_enter Tryz.func228, Tryz.ntmps228
  go_wp2
  first | go_end0 | (simp only [Exit.inBlock, Exit.then]; refine bodyPost_ret (results_none rfl _ _ _) rfl ?_) | refine bodyPost_ret (results_none rfl _ _ _) rfl ?_
  exact ⟨rfl, hy⟩

set_option maxRecDepth 100000 in
theorem onceLock_any (x : Hold W w (Asn.pts b (.cells cs T (0, 0)) :: L)) (hc : cs[i]? = some (.int .i32 0)) :
    Calls Tryz.prog 218 #[.pointer (some ⟨b, i, none⟩)] w fun e w' => e = .returned (.tuple #[]) ∧ Hold W w' (Asn.pts b (.cells (cs.setIfInBounds i (.int .i32 1)) T (0, 0)) :: L) := by
  go_enter Tryz.func218, Tryz.ntmps218
  go_wp2_with fail
  refine (innerLock_any x hc).mono ?_
  rintro e w1 ⟨rfl, hy⟩
  go_wp2
  go_end0
  exact ⟨rfl, hy⟩

set_option maxRecDepth 100000 in
set_option maxHeartbeats 1600000 in
/-- The slow road: not yet done, the lock free: the function is called; then the flag, then the lock. -/
theorem onceSlow_any (p : Value) (Q : Array Value → List Asn → Prop) (x : Hold W w (Asn.pts b (.cells cs T (0, 0)) :: L)) (h0 : cs[0]? = some (.int .u32 0)) (h1 : cs[1]? = some (.int .i32 0))
    (hF : ∀ w1, Hold W w1 (Asn.pts b (.cells (cs.setIfInBounds 1 (.int .i32 1)) T (0, 0)) :: L) → Calls Tryz.prog 178 #[p] w1 fun e w' => e = .returned (.tuple #[]) ∧ ∃ cs' L', Q cs' L' ∧ cs'[0]? = some (.int .u32 0) ∧ cs'[1]? = some (.int .i32 1) ∧ Hold W w' (Asn.pts b (.cells cs' T (0, 0)) :: L')) :
    Calls Tryz.prog 207 #[.pointer (some ⟨b, 0, none⟩), .func (.func 178) #[p] #[]] w fun e w' => e = .returned (.tuple #[]) ∧
      ∃ cs' L', Q cs' L' ∧ Hold W w' (Asn.pts b (.cells ((cs'.setIfInBounds 0 (.int .u32 1)).setIfInBounds 1 (.int .i32 0)) T (0, 0)) :: L') := by
  have hnot : ∀ (x : Bool) (w : World), (Op.unary .not (.bool x)).run Tryz.prog w = .ok (.bool (!x)) w := fun _ _ => rfl
  have hk0 : (cs.setIfInBounds 1 (.int .i32 1))[0]? = some (.int .u32 (if false then 1 else 0)) := by
    rw [Array.getElem?_setIfInBounds_ne (by decide)]; exact h0
  go_enter_defers Tryz.func207, Tryz.ntmps207
  go_wp2_with fail
  refine (onceLock_any x h1).mono ?_
  rintro e w1 ⟨rfl, y⟩
  have HY := Lib.hid y
  clear y
  go_wp2_with fail
  refine (onceLoad_any HY.out false hk0).mono ?_
  rintro e w2 ⟨rfl, rfl⟩
  go_wp2_with fail
  refine (hF _ HY.out).mono ?_
  rintro e w3 ⟨rfl, cs', L', hq, k0, k1, z⟩
  have HZ := Lib.hid z
  clear z
  go_wp2_with fail
  refine leaves_cons (f := 220) (args := #[.pointer (some ⟨b, 0, none⟩), .bool true]) (by simp) (by simp [go_sem]) ?_
  refine (onceStore_any HZ.out _ k0 .returning).mono ?_
  rintro e u' w4 ⟨rfl, rfl, z4⟩
  refine leaves_cons (f := 219) (args := #[.pointer (some ⟨b, 1, none⟩)]) (by simp [settle]) (by simp [go_sem]) ?_
  refine (onceUnlock_any z4 (by rw [Array.getElem?_setIfInBounds_ne (by decide)]; exact k1) _).mono ?_
  rintro e u' w5 ⟨rfl, rfl, z5⟩
  simp [Leaves, settle, results, Tryz.results207]
  exact ⟨cs', L', hq, z5⟩

set_option maxRecDepth 100000 in
set_option maxHeartbeats 1600000 in
/-- Do, the first time. -/
theorem onceDo_any (p : Value) (Q : Array Value → List Asn → Prop) (x : Hold W w (Asn.pts b (.cells cs T (0, 0)) :: L)) (h0 : cs[0]? = some (.int .u32 0)) (h1 : cs[1]? = some (.int .i32 0))
    (hF : ∀ w1, Hold W w1 (Asn.pts b (.cells (cs.setIfInBounds 1 (.int .i32 1)) T (0, 0)) :: L) → Calls Tryz.prog 178 #[p] w1 fun e w' => e = .returned (.tuple #[]) ∧ ∃ cs' L', Q cs' L' ∧ cs'[0]? = some (.int .u32 0) ∧ cs'[1]? = some (.int .i32 1) ∧ Hold W w' (Asn.pts b (.cells cs' T (0, 0)) :: L')) :
    Calls Tryz.prog 177 #[.pointer (some ⟨b, 0, none⟩), .func (.func 178) #[p] #[]] w fun e w' => e = .returned (.tuple #[]) ∧
      ∃ cs' L', Q cs' L' ∧ Hold W w' (Asn.pts b (.cells ((cs'.setIfInBounds 0 (.int .u32 1)).setIfInBounds 1 (.int .i32 0)) T (0, 0)) :: L') := by
  have hnot : ∀ (x : Bool) (w : World), (Op.unary .not (.bool x)).run Tryz.prog w = .ok (.bool (!x)) w := fun _ _ => rfl
  go_enter Tryz.func177, Tryz.ntmps177
  go_wp2_with fail
  refine (onceLoad_any x false h0).mono ?_
  rintro e w2 ⟨rfl, rfl⟩
  go_wp2_with fail
  refine (onceSlow_any p Q x h0 h1 hF).mono ?_
  rintro e w3 ⟨rfl, hq⟩
  go_wp2_with fail
  go_end0
  exact ⟨rfl, hq⟩
end
end Go.Proofs.YtahfcgjlcdbnjaaGreatDoor
/- More of the separation logic: pieces that are beside each other; a fact of the world that its own blocks bear. -/
namespace Go.Proofs.YtahfcgjlcdbnjaaGreatDoor
open Go.RowKit

/-- A fact of worlds that some blocks bear. -/
def ownOf (P : World → Prop) (S : List (Nat × Obj)) : Asn := Asn.star (Asn.pure (∀ w : World, (∀ p ∈ S, w.heap[p.1]? = some p.2) → P w)) (Asn.all (S.map fun p => Asn.pts p.1 p.2))
def Own (P : World → Prop) : Asn := Asn.ex (ownOf P)

section
variable {W w w' : World} {L M : List Asn}

theorem Hold.join (x : Hold W w L) (y : Hold w w' M) : Hold W w' (M ++ L) := by
  obtain ⟨o1, h1, a1, d1⟩ := x
  obtain ⟨o2, h2, a2, d2⟩ := y
  have hlt : W.heap.size ≤ w.heap.size := o1.size
  have k1 : ∀ k o, h1 k = some o → k < w.heap.size := fun k o h => (Array.getElem?_eq_some_iff.1 (d1 k o h).2).1
  refine ⟨o1.trans ⟨o2.os, o2.tape, o2.output, o2.size, fun k hk => o2.block k (by omega)⟩, fun k => (h2 k).or (h1 k), ?_, ?_⟩
  · refine Asn.spill M L _ ⟨h2, h1, a2, a1, ?_, ?_⟩
    · intro k o
      cases hk : h2 k with
      | none => simp [hk]
      | some o' =>
        have hn : h1 k = none := by
          cases hh : h1 k with
          | none => rfl
          | some o1 => have := k1 k o1 hh; have := (d2 k o' hk).1; omega
        simp [hn, hk]
    · intro k
      cases hk : h2 k with
      | none => exact .inl rfl
      | some o' =>
        right
        cases hh : h1 k with
        | none => rfl
        | some o1 => have := k1 k o1 hh; have := (d2 k o' hk).1; omega
  · intro k o hk
    have hk : (h2 k).or (h1 k) = some o := hk
    cases hk2 : h2 k with
    | none =>
      rw [hk2] at hk
      have hk : h1 k = some o := by simpa using hk
      have := d1 k o hk
      exact ⟨this.1, (o2.block k (k1 k o hk)).trans this.2⟩
    | some o' =>
      rw [hk2] at hk
      obtain rfl : o' = o := by simpa using hk
      have := d2 k o' hk2
      exact ⟨by omega, this.2⟩

theorem Asn.all_blocks : ∀ {S : List (Nat × Obj)} {h : PHeap}, Asn.all (S.map fun p => Asn.pts p.1 p.2) h → ∀ p ∈ S, h p.1 = some p.2
  | [], _, _, p, hp => by cases hp
  | q :: S, h, a, p, hp => by
    obtain ⟨h1, h2, b, c, e, d⟩ := a
    rcases List.mem_cons.1 hp with rfl | hp
    · exact (e _ _).2 (.inl ((b _ _).2 ⟨rfl, rfl⟩))
    · exact (e _ _).2 (.inr (Asn.all_blocks c p hp))

theorem Own.get {P : World → Prop} (x : Hold W w (Own P :: L)) : P w := by
  obtain ⟨S, x⟩ := x.ex
  obtain ⟨hp, x⟩ := x.sep.pure
  refine hp w fun p hpS => ?_
  obtain ⟨_, h, ⟨h1, h2, a, _, e, _⟩, d⟩ := x
  exact (d p.1 p.2 ((e _ _).2 (.inl (Asn.all_blocks a p hpS)))).2

theorem Own.none (x : Hold W w L) : Hold W w (Own (fun _ => True) :: L) :=
  Hold.ex' (P := ownOf fun _ => True) [] (Hold.sep' (Hold.pure' (fun _ _ => trivial) x.emp'))

theorem Own.mono {P Q : World → Prop} (x : Hold W w (Own P :: L)) (h : ∀ w, P w → Q w) : Hold W w (Own Q :: L) :=
  x.mono fun _ a => by
    obtain ⟨S, h1, h2, ⟨p, e⟩, b, r⟩ := a
    exact ⟨S, h1, h2, ⟨fun w hw => h w (p w hw), e⟩, b, r⟩

/-- One block more. -/
theorem Own.block {P Q : World → Prop} {b : Nat} {o : Obj} (x : Hold W w (Asn.pts b o :: Own P :: L)) (h : ∀ w : World, w.heap[b]? = some o → Q w) : Hold W w (Own (fun w => P w ∧ Q w) :: L) := by
  obtain ⟨S, x⟩ := x.f1.ex
  obtain ⟨hp, x⟩ := x.sep.pure
  have y := x.f1
  refine Hold.ex' (P := ownOf fun w => P w ∧ Q w) ((b, o) :: S) ?_
  refine Hold.sep' (Hold.pure' (fun w hw => ⟨hp w fun p hpS => hw p (by simp [hpS]), h w (hw (b, o) (by simp))⟩) ?_)
  exact y.sep'

theorem Own.both {P Q : World → Prop} (x : Hold W w (Own P :: Own Q :: L)) : Hold W w (Own (fun w => P w ∧ Q w) :: L) := by
  obtain ⟨S, x⟩ := x.ex
  obtain ⟨hp, x⟩ := x.sep.pure
  obtain ⟨S', x⟩ := x.f1.ex
  obtain ⟨hq, x⟩ := x.sep.pure
  refine Hold.ex' (P := ownOf fun w => P w ∧ Q w) (S ++ S') ?_
  refine Hold.sep' (Hold.pure' (fun w hw => ⟨hp w fun p hpS => hw p (by simp [hpS]), hq w fun p hpS => hw p (by simp [hpS])⟩) ?_)
  have y := x.f1.spill
  have z : Hold W w ((S.map fun p => Asn.pts p.1 p.2) ++ ((S'.map fun p => Asn.pts p.1 p.2) ++ L)) := y.imp fun h a => by
    have e : ∀ (As : List Asn) (B : Asn), Asn.all (As ++ B :: L) h → Asn.star (Asn.all As) (Asn.star B (Asn.all L)) h := fun As B a => Asn.soak As (B :: L) h a
    refine Asn.spill _ _ h (Asn.star_mono (fun _ b => b) (fun h b => Asn.spill _ _ h b) (e _ _ a))
  rw [← List.append_assoc, ← List.map_append] at z
  exact z.soak
end
end Go.Proofs.YtahfcgjlcdbnjaaGreatDoor
/- Letters replaced: plain. -/
namespace Go.Proofs.YtahfcgjlcdbnjaaGreatDoor
open Go.RowKit

abbrev Pairs := List (UInt8 × Bytes)
/-- What a letter is replaced by. -/
def replB (ps : Pairs) (c : UInt8) : Bytes := match ps.find? (fun p => p.1 == c) with | some p => p.2 | none => [c]
def repl (ps : Pairs) (s : Bytes) : Bytes := s.flatMap (replB ps)
def growP (ps : Pairs) (s : Bytes) : Nat := (ps.map fun p => Lib.countByte s p.1 * (p.2.length - 1)).sum

theorem replB_mem {ps : Pairs} (hnd : (ps.map (·.1)).Nodup) {p : UInt8 × Bytes} (hp : p ∈ ps) : replB ps p.1 = p.2 := by
  unfold replB
  induction ps with
  | nil => cases hp
  | cons q ps ih =>
    simp only [List.map_cons, List.nodup_cons] at hnd
    rcases List.mem_cons.1 hp with rfl | hp
    · simp
    · have hne : (q.1 == p.1) = false := by
        rw [beq_eq_false_iff_ne]
        intro he
        exact hnd.1 (he ▸ List.mem_map_of_mem hp)
      rw [List.find?_cons, hne]
      exact ih hnd.2 hp
theorem replB_off {ps : Pairs} {c : UInt8} (h : ∀ p ∈ ps, p.1 ≠ c) : replB ps c = [c] := by
  unfold replB
  have : ps.find? (fun p => p.1 == c) = none := List.find?_eq_none.2 fun p hp => by simpa using h p hp
  rw [this]

theorem growP_nil (ps : Pairs) : growP ps [] = 0 := by
  unfold growP
  induction ps with
  | nil => rfl
  | cons p ps ih => simp only [List.map_cons, List.sum_cons, ih]; simp [Lib.countByte]

theorem growP_cons (ps : Pairs) (hnd : (ps.map (·.1)).Nodup) (c : UInt8) (s : Bytes) : growP ps (c :: s) = growP ps s + ((replB ps c).length - 1) := by
  have hcnt : ∀ k : UInt8, Lib.countByte (c :: s) k = Lib.countByte s k + (if c = k then 1 else 0) := fun k => by
    unfold Lib.countByte
    by_cases h : c = k <;> simp [h]
  unfold growP
  induction ps with
  | nil => simp [replB]
  | cons q ps ih =>
    simp only [List.map_cons, List.nodup_cons] at hnd
    simp only [List.map_cons, List.sum_cons]
    rw [ih hnd.2, hcnt]
    by_cases h : c = q.1
    · subst h
      have hoff : replB ps q.1 = [q.1] := replB_off fun p hp he => hnd.1 (he ▸ List.mem_map_of_mem hp)
      have hon : replB (q :: ps) q.1 = q.2 := by simp [replB]
      rw [hoff, hon]
      simp [Nat.add_mul]
      omega
    · have hb : (q.1 == c) = false := by rw [beq_eq_false_iff_ne]; exact Ne.symm h
      have : replB (q :: ps) c = replB ps c := by unfold replB; rw [List.find?_cons, hb]
      rw [this, if_neg h, Nat.add_zero]
      omega

theorem replB_pos {ps : Pairs} (hne : ∀ p ∈ ps, p.2 ≠ []) (c : UInt8) : 1 ≤ (replB ps c).length := by
  unfold replB
  split
  · rename_i p hp
    exact List.length_pos_iff.2 (hne p (List.mem_of_find?_eq_some hp))
  · simp

theorem repl_len {ps : Pairs} (hnd : (ps.map (·.1)).Nodup) (hne : ∀ p ∈ ps, p.2 ≠ []) : ∀ s : Bytes, (repl ps s).length = s.length + growP ps s
  | [] => by rw [growP_nil]; rfl
  | c :: s => by
    have ih := repl_len hnd hne s
    have hp := replB_pos hne c
    rw [growP_cons ps hnd]
    simp only [repl, List.flatMap_cons, List.length_append, List.length_cons] at ih ⊢
    omega

theorem repl_same {ps : Pairs} : ∀ {s : Bytes}, (∀ p ∈ ps, Lib.countByte s p.1 = 0) → repl ps s = s
  | [], _ => rfl
  | c :: s, h => by
    have hcnt : ∀ k : UInt8, Lib.countByte (c :: s) k = Lib.countByte s k + (if c = k then 1 else 0) := fun k => by
      unfold Lib.countByte
      by_cases h : c = k <;> simp [h]
    have hoff : replB ps c = [c] := replB_off fun p hp he => by
      have := h p hp
      rw [hcnt, if_pos he.symm] at this
      omega
    have ih := repl_same (ps := ps) (s := s) fun p hp => by have := h p hp; rw [hcnt] at this; omega
    simp only [repl, List.flatMap_cons] at ih ⊢
    rw [hoff, ih]; rfl

theorem growP_rev (ps : Pairs) (s : Bytes) : growP ps.reverse s = growP ps s := by
  unfold growP
  rw [List.map_reverse, List.sum_reverse]
theorem growP_snoc (ps : Pairs) (p : UInt8 × Bytes) (s : Bytes) : growP (ps ++ [p]) s = growP ps s + Lib.countByte s p.1 * (p.2.length - 1) := by
  simp [growP]

theorem repl_snoc (ps : Pairs) (s : Bytes) (c : UInt8) : repl ps (s ++ [c]) = repl ps s ++ replB ps c := by simp [repl]
theorem repl_le {ps : Pairs} {m : Nat} (hm : ∀ p ∈ ps, p.2.length ≤ m) (h1 : 1 ≤ m) : ∀ s : Bytes, (repl ps s).length ≤ m * s.length
  | [] => by simp [repl]
  | c :: s => by
    have ih := repl_le hm h1 s
    have : (replB ps c).length ≤ m := by
      unfold replB
      split
      · rename_i p hp; exact hm p (List.mem_of_find?_eq_some hp)
      · simpa using h1
    simp only [repl, List.flatMap_cons, List.length_append, List.length_cons, Nat.mul_add] at ih ⊢
    omega
theorem repl_mono {ps : Pairs} (s : Bytes) (i : Nat) : (repl ps (s.take i)).length ≤ (repl ps s).length := by
  have e : repl ps (s.take i ++ s.drop i) = repl ps (s.take i) ++ repl ps (s.drop i) := by simp only [repl, List.flatMap_append]
  rw [List.take_append_drop] at e
  rw [e, List.length_append]
  omega

def escPs : Pairs := [(38, [38, 97, 109, 112, 59]), (60, [38, 108, 116, 59]), (62, [38, 103, 116, 59]), (13, [38, 35, 49, 51, 59])]
def quoPs : Pairs := [(38, [38, 97, 109, 112, 59]), (60, [38, 108, 116, 59]), (34, [38, 113, 117, 111, 116, 59]), (9, [38, 35, 57, 59]), (10, [38, 35, 49, 48, 59]), (13, [38, 35, 49, 51, 59])]

theorem replB_esc (c : UInt8) : replB escPs c = escB c := by
  unfold replB escPs escB
  simp only [List.find?_cons, List.find?_nil]
  by_cases h1 : c = 38
  · subst h1; rfl
  by_cases h2 : c = 60
  · subst h2; rfl
  by_cases h3 : c = 62
  · subst h3; rfl
  by_cases h4 : c = 13
  · subst h4; rfl
  have e : ∀ k : UInt8, c ≠ k → (k == c) = false := fun k hk => by rw [beq_eq_false_iff_ne]; exact Ne.symm hk
  rw [e _ h1, e _ h2, e _ h3, e _ h4, if_neg h1, if_neg h2, if_neg h3, if_neg h4]
theorem replB_quo (c : UInt8) : replB quoPs c = quoB c := by
  unfold replB quoPs quoB
  simp only [List.find?_cons, List.find?_nil]
  by_cases h1 : c = 38
  · subst h1; rfl
  by_cases h2 : c = 60
  · subst h2; rfl
  by_cases h3 : c = 34
  · subst h3; rfl
  by_cases h4 : c = 9
  · subst h4; rfl
  by_cases h5 : c = 10
  · subst h5; rfl
  by_cases h6 : c = 13
  · subst h6; rfl
  have e : ∀ k : UInt8, c ≠ k → (k == c) = false := fun k hk => by rw [beq_eq_false_iff_ne]; exact Ne.symm hk
  rw [e _ h1, e _ h2, e _ h3, e _ h4, e _ h5, e _ h6, if_neg h1, if_neg h2, if_neg h3, if_neg h4, if_neg h5, if_neg h6]
theorem repl_esc (s : Bytes) : repl escPs s = esc s := by
  unfold repl esc
  rw [show replB escPs = escB from funext replB_esc]
theorem repl_quo (s : Bytes) : repl quoPs s = quo s := by
  unfold repl quo
  rw [show replB quoPs = quoB from funext replB_quo]
end Go.Proofs.YtahfcgjlcdbnjaaGreatDoor
