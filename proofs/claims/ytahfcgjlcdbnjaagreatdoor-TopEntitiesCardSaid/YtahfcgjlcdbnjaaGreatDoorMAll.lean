/- all: a whole document is scanned; a fault is caught. -/
import Derived.Test.YtahfcgjlcdbnjaaGreatDoorMCon
import Derived.Test.YtahfcgjlcdbnjaaGreatDoorMBes
import Derived.Recover
import Derived.Defers
import Derived.StillTailTactics
namespace Go.Proofs.YtahfcgjlcdbnjaaGreatDoor
open Go.RowKit

theorem still_of_quiet {P : Program} {o : Oper} {a : Act} {w : World} {K : Act → Prop} (h : o.quiet P a (fun w' => w' = w) K) : o.still P a w K := by
  obtain ⟨v, hv, hk⟩ := h
  have h := hv w rfl
  unfold Oper.still
  unfold Oper.quietAt at h
  generalize (execOp a.eval o).run P w = r at *
  cases r with
  | ok n w' =>
    cases n <;> simp only [Oper.quietUpon, Oper.stillUpon] at h ⊢
    case value u => obtain ⟨h1, rfl⟩ := h; exact ⟨h1, hk⟩
    case skip => obtain ⟨h1, rfl⟩ := h; exact ⟨h1, hk⟩
    case enter f args => exact ⟨h.1, v, h.1 ▸ h.2, hk⟩
  | halt x w' => exact h.elim

theorem wpStill_of_quiet {P : Program} {ops : Array Oper} {w : World} {Q : Act → Prop} : ∀ (l : List Oper) (a : Act), wpQuiet P ops (fun w' => w' = w) Q l a → wpStill P ops w Q l a
  | [], _, h => h
  | o :: l, a, h => by
    unfold wpQuiet at h
    unfold wpStill
    split
    · rename_i hw
      rw [if_pos hw] at h
      exact Oper.still_mono (fun a' h' => wpStill_of_quiet l a' h') (still_of_quiet h)
    · rename_i hw
      rw [if_neg hw] at h
      exact wpStill_of_quiet l _ h

/-- A region that draws its order: a quiet head, and a tail that waits for it. -/
theorem wp_region_quiet_tail {P : Program} {id : Nat} {Q : Exit → Act → World → Prop} {a : Act} {w : World} {l : List Oper} (n : Nat) (hm : P.follows .mixedOrders = true) (hB : Region.lexTailB .any l.toArray n = true)
    (h : wpQuiet P l.toArray (fun w' => w' = w.drew) (fun a' => wpList P l.toArray Q (l.drop n) a' w.drew) (l.take n) a) : (Code.region id l.toArray true).wp P Q a w :=
  wp_region_still_tail n hm hB (wpStill_of_quiet _ _ h)

section
variable {W w : World} {L : List Asn} {b : Nat} {s : ByteArray} {σ : St}

def xmlDecl (s : ByteArray) (σ : St) : Bool := has s σ xmldB && decide (6 ≤ s.size) && isBlank ((s.data.toList.getD 5 0).toNat : Int)

set_option maxHeartbeats 2000000 in
set_option maxRecDepth 100000 in
theorem declared_any (x : Hold W w (Scn b s σ :: L)) (h : Ok s σ) (hno : xmlDecl s σ = false) :
    Calls Tryz.prog 96 #[.pointer (some ⟨b, 0, none⟩)] w fun e w' => e = .returned (.tuple #[]) ∧ ∃ n, w' = w.drewN n := by
  have hcs := Scn.strCell x
  have HX := Lib.hid x
  have HK := Lib.hid h
  unfold xmlDecl at hno
  have HN := Lib.hid hno
  have h1 := h.size
  clear x h hno
  go_enter Tryz.func96, Tryz.ntmps96
  go_wp2_with fail
  refine (has_any HX.out HK.out xmldB).mono ?_
  rintro e w1 ⟨rfl, n, hw⟩
  have hcs1 : w1.cell? ⟨b, 0, none⟩ = some (.string s) := by rw [hw]; exact hcs
  have HW := Lib.hid hw
  clear hw hcs
  cases hh : has s σ xmldB
  · clear hh
    go_wp2_with fail
    first | go_end0 | refine bodyPost_ret (results_none rfl _ _ _) rfl ?_
    exact ⟨rfl, n, HW.out⟩
  · by_cases h6 : 6 ≤ s.size
    · have h6' : ¬ ((s.size : Int) < 6) := by omega
      have hbl : isBlank ((s.data.toList.getD 5 0).toNat : Int) = false := by
        have := HN.out
        rw [hh] at this
        rw [decide_eq_true h6] at this
        exact this
      have hg : s.data.toList.getD 5 0 = s[5]'(by omega) := by
        have := Lib.data_getElem? s 5 (by omega)
        simp only [List.getD, this, Option.getD_some]
      rw [hg] at hbl
      obtain ⟨c, hc⟩ : ∃ c, s[5]'(show 5 < s.size by omega) = c := ⟨_, rfl⟩
      rw [hc] at hbl
      have HB := Lib.hid hbl
      have hcb := c.toNat_lt
      clear hh hbl hg
      go_wp2_with fail
      refine (isBlank_any _ _).mono ?_
      rintro e w2 ⟨rfl, rfl⟩
      rw [HB.out]
      go_wp2_with fail
      first | go_end0 | refine bodyPost_ret (results_none rfl _ _ _) rfl ?_
      exact ⟨rfl, n, HW.out⟩
    · have h6' : (s.size : Int) < 6 := by omega
      clear hh
      go_wp2_with fail
      first | go_end0 | refine bodyPost_ret (results_none rfl _ _ _) rfl ?_
      exact ⟨rfl, n, HW.out⟩

abbrev catchArgs (b1 b2 b3 : Nat) : Array Value := #[.pointer (some ⟨b1, 0, none⟩), .pointer (some ⟨b2, 0, none⟩), .pointer (some ⟨b3, 0, none⟩)]
abbrev one (b : Nat) (T : TypeId) (v : Value) : Asn := Asn.pts b (.cells #[v] T (0, 0))

set_option maxHeartbeats 2000000 in
set_option maxRecDepth 100000 in
theorem catch_idle (b1 b2 b3 : Nat) (w : World) :
    CallsD Tryz.prog 95 (catchArgs b1 b2 b3) .returning w fun e u' w' => e = .returned (.tuple #[]) ∧ u' = .returning ∧ w' = w := by
  refine callsD_of_wpS Tryz.func95 rfl fun c₀ cs hu => ?_
  apply wpS_seq
  apply wpS_region
  simp [wpOpsS, go_sem, recoverD, hu, Tryz.ntmps95, Exit.thenS]
  refine wpS_of_wp ?_
  go_wp2
  cases c₀
  simp_all [bodyPostS, results, Tryz.results95]

set_option maxHeartbeats 2000000 in
set_option maxRecDepth 100000 in
theorem catch_fault (b1 b2 b3 : Nat) (v1 v2 v3 : Value) (en p : Int) (x : Hold W w (one b1 34 v1 :: one b2 25 v2 :: one b3 3 v3 :: L)) :
    CallsD Tryz.prog 95 (catchArgs b1 b2 b3) (.panicking (fault en p)) w fun e u' w' => e = .returned (.tuple #[]) ∧
      u' = .panicking [{ v := .iface 153 (.agg #[.int .i64 en, .int .i64 p]), recovered := true }] ∧
      Hold W w' (one b1 34 (.slice none 0 0) :: one b2 25 (.int .i64 en) :: one b3 3 (.int .i64 p) :: L) := by
  have y := (x.alloc (.cells #[.int .i64 en, .int .i64 p] 153))
  have c1 := y.f1.cell 0
  have f1 := y.f1.free 0
  have y1 := y.f1.set 0 (.slice none 0 0)
  have c2 := y1.f2.cell 0
  have f2 := y.f2.free 0
  have y2 := y1.f2.set 0 (.int .i64 en)
  have c3 := y2.f3.cell 0
  have f3 := y.f3.free 0
  have y3 := y2.f3.set 0 (.int .i64 p)
  have n00 := y.cell 0
  have n01 := y.cell 1
  have n10 := y1.f1.cell 0
  have n11 := y1.f1.cell 1
  have n20 := y2.f2.cell 0
  have n21 := y2.f2.cell 1
  have HY := Lib.hid y3
  have hta : ∀ w, (Instr.typeAssert (.iface 153 (.agg #[.int .i64 en, .int .i64 p])) 20 153 true).run Tryz.prog w = .ok (.tuple #[.agg #[.int .i64 en, .int .i64 p], .bool true]) w := fun w => by kernel_rfl
  clear x y y1 y2 y3
  refine callsD_of_wpS Tryz.func95 rfl fun c₀ cs hu => ?_
  apply wpS_seq
  apply wpS_region
  simp [wpOpsS, go_sem, recoverD, hu, fault, Tryz.ntmps95, Exit.thenS]
  refine wpS_of_wp ?_
  have hfr : (catchArgs b1 b2 b3 ++ (Array.replicate 13 undef).setIfInBounds 3 (.iface 153 (.agg #[.int .i64 en, .int .i64 p]))) = #[.pointer (some ⟨b1, 0, none⟩), .pointer (some ⟨b2, 0, none⟩), .pointer (some ⟨b3, 0, none⟩), undef, undef, undef, .iface 153 (.agg #[.int .i64 en, .int .i64 p]), undef, undef, undef, undef, undef, undef, undef, undef, undef] := rfl
  rw [hfr]
  clear hfr
  go_wp2
  go_region
  all_goals
    go_wp2
    refine ⟨rfl, _, rfl, .tuple #[], ?_, rfl, rfl, (HY.out.drew.re [3, 2, 1, 0]).drop⟩
    simp [results, Tryz.results95]

/-- How all ends that answers r. -/
def AllPost (W : World) (L : List Asn) : M Unit → Ending → World → Prop
  | .ok (_, σ'), e, w' => ∃ v, e = .returned (.tuple #[v, .int .i64 0, .int .i64 0]) ∧ Hold W w' (Toks v σ'.toks :: L)
  | .error (en, p), e, w' => e = .returned (.tuple #[.slice none 0 0, .int .i64 en, .int .i64 p]) ∧ Hold W w' L

/-- A fault at the door: it is caught, and told. -/
theorem door_fault {tmps : Array Value} {r : M Unit} {en p : Int} {b1 b2 b3 : Nat} {v1 v2 v3 : Value} (hr : r = .error (en, p))
    (h2 : tmps[2]? = some (.pointer (some ⟨b1, 0, none⟩))) (h3 : tmps[3]? = some (.pointer (some ⟨b2, 0, none⟩))) (h4 : tmps[4]? = some (.pointer (some ⟨b3, 0, none⟩)))
    (x : Hold W w (one b1 34 v1 :: one b2 25 v2 :: one b3 3 v3 :: L)) :
    Leaves Tryz.prog Tryz.f60 tmps (AllPost W L r) [{ target := .fn (.func 95) (catchArgs b1 b2 b3), args := #[] }] (.panicking (fault en p)) w := by
  subst hr
  refine leaves_cons (f := 95) (args := catchArgs b1 b2 b3) (by simp) (by simp [go_sem]) ?_
  refine (catch_fault b1 b2 b3 v1 v2 v3 en p x).mono ?_
  rintro e u' w' ⟨rfl, rfl, y⟩
  have c1 := y.cell 0
  have c2 := y.f1.cell 0
  have c3 := y.f2.cell 0
  show ∃ v, (results Tryz.f60 tmps).run Tryz.prog w' = .ok v w' ∧ AllPost W L (.error (en, p)) (.returned v) w'
  refine ⟨.tuple #[.slice none 0 0, .int .i64 en, .int .i64 p], ?_, rfl, y.drop.drop.drop⟩
  simp [results, Tryz.results60, go_sem, h2, h3, h4, c1, c2, c3]

/-- What stands behind the parts. -/
def wholeTail (s : ByteArray) : M Unit → M Unit
  | .error x => .error x
  | .ok (_, σ') => if σ'.ended && σ'.opn.length == 0 then .ok ((), σ') else .error (5, s.size)

set_option maxHeartbeats 8000000 in
set_option maxRecDepth 100000 in
theorem all_any (g : Glob W) (x : Hold W w (Scn b s σ :: L)) (h : Inv s σ) (hnw : whole s σ ≠ .error wild) :
    Calls Tryz.prog 60 #[.pointer (some ⟨b, 0, none⟩)] w (AllPost W L (whole s σ)) := by
  have hmf : ∀ (fn : Fn) (first cap : Array Value) (w : World), (Instr.makeFunc fn first cap).run Tryz.prog w = .ok (.func fn first cap) w := fun _ _ _ _ => rfl
  have hdc : xmlDecl s σ = false := by
    cases hx : xmlDecl s σ
    · rfl
    · exact absurd (show whole s σ = .error wild by unfold whole; unfold xmlDecl at hx; rw [hx]; rfl) hnw
  obtain ⟨tot, htot⟩ : ∃ r, parts s (s.size + 1) σ false = r := ⟨_, rfl⟩
  have hwt : whole s σ = wholeTail s tot := by
    unfold whole
    unfold xmlDecl at hdc
    rw [hdc, htot]
    cases tot <;> rfl
  have HWT := Lib.hid hwt
  have HI := Lib.hid h
  have HG := Lib.hid g
  have HNW := Lib.hid hnw
  have HDC := Lib.hid hdc
  have HTT := Lib.hid htot
  have y := ((x.alloc (.cells #[.slice none 0 0] 34)).allocAt (o := .cells #[.int .i64 0] 25) (b := w.heap.size + 1) rfl (by simp)).allocAt (o := .cells #[.int .i64 0] 3) (b := w.heap.size + 1 + 1) rfl (by simp)
  have HX := Lib.hid (y.re [3, 2, 1, 0])
  clear x y h g hnw hdc htot hwt
  go_enter_defers Tryz.func60, Tryz.ntmps60
  go_wp2_with fail
  refine (declared_any HX.out HI.out.ok HDC.out).mono ?_
  rintro e w1 ⟨rfl, n, hw⟩
  have hz := HX.out.drewN n
  rw [← hw] at hz
  have HX1 := Lib.hid hz
  clear hw hz
  go_wp2_with fail
  go_loopg [5] (s.size + 1) (fun gk v5 wr => ∃ (σ' : St) (typed : Bool), v5 = .bool typed ∧ Hold W wr (Scn b s σ' :: one w.heap.size 34 (.slice none 0 0) :: one (w.heap.size + 1) 25 (.int .i64 0) :: one (w.heap.size + 1 + 1) 3 (.int .i64 0) :: L) ∧ Hid (Inv s σ') ∧ s.size < gk + σ'.pos ∧ Hid (parts s gk σ' typed = tot))
  case atStart => exact ⟨σ, false, rfl, HX1.out, HI, by omega, HTT⟩
  case round =>
    obtain ⟨σ', typed, rfl, z, HI', hgk, HTL⟩ := hrel
    have hps := HI'.out.ok.pos
    have h1 := HI'.out.ok.size
    obtain ⟨n, rfl⟩ : ∃ n, gk = n + 1 := ⟨gk - 1, by omega⟩
    have hvl : parts s (n + 1) σ' typed = tot := HTL.out
    simp only [parts] at hvl
    have HVL := Lib.hid hvl
    have hc0 := Scn.strCell z
    have hc1 := Scn.posCell z
    have HZ := Lib.hid z
    clear z hvl HTL
    by_cases hlt : σ'.pos < s.size
    · have hlt' : (decide ((σ'.pos : Int) < (s.size : Int))) = true := by simp; omega
      have hvl := HVL.out
      rw [if_pos hlt] at hvl
      have HVL2 := Lib.hid hvl
      clear hvl
      go_wp2_with fail
      go_quiet (fail)
      have HZ3 := Lib.hid (HZ.out.drewN nq)
      clear hc0 hc1
      generalize wr.drewN nq = w4 at *
      obtain ⟨oa, oc, hop⟩ := Scn.opnCell HZ3.out
      by_cases ho : 0 < σ'.opn.length
      · have ho' : (decide ((0 : Int) < (σ'.opn.length : Int))) = true := by simp; simpa using ho
        have hvl := HVL2.out
        rw [if_pos ho] at hvl
        have HVM := Lib.hid hvl
        clear hvl
        have hne : content s σ' ≠ .error wild := by
          intro hc
          have hv := HVM.out
          rw [hc] at hv
          have hv : Except.error wild = tot := hv
          exact HNW.out (by rw [HWT.out, ← hv]; rfl)
        have HNE := Lib.hid hne
        clear hne
        go_wp2_with fail
        refine (content_any HG.out HZ3.out HI'.out hlt HNE.out).mono ?_
        intro e w5 hpost
        cases hq : content s σ' with
        | error er =>
          obtain ⟨en, ep⟩ := er
          rw [hq] at hpost
          obtain ⟨rfl, z⟩ := hpost
          have hv := HVM.out
          rw [hq] at hv
          have hv : Except.error (en, ep) = tot := hv
          have hwe : whole s σ = .error (en, ep) := by rw [HWT.out, ← hv]; rfl
          have HZE := Lib.hid z
          have HWE := Lib.hid hwe
          clear hq z hv hwe hop ho'
          go_wp2_with fail
          exact door_fault HWE.out rfl rfl rfl HZE.out
        | ok r =>
          obtain ⟨_, σ2⟩ := r
          rw [hq] at hpost
          obtain ⟨rfl, z⟩ := hpost
          have hv := HVM.out
          rw [hq] at hv
          have HVN : Hid (parts s n σ2 typed = tot) := hv
          have hinv := content_inv HI'.out hlt hq
          have HIN := Lib.hid hinv.1
          have hpp := hinv.2
          have HZN := Lib.hid z
          clear hq z hv hinv hop ho'
          go_wp2_with fail
          go_roundg n
          case measure => omega
          case rel => exact ⟨σ2, typed, rfl, HZN.out, HIN, by omega, HVN⟩
      · have ho' : (decide ((0 : Int) < (σ'.opn.length : Int))) = false := by simp; simpa using ho
        have hvl := HVL2.out
        rw [if_neg ho] at hvl
        have HVM := Lib.hid hvl
        clear hvl
        have hne : beside s σ' typed ≠ .error wild := by
          intro hc
          have hv := HVM.out
          rw [hc] at hv
          have hv : Except.error wild = tot := hv
          exact HNW.out (by rw [HWT.out, ← hv]; rfl)
        have HNE := Lib.hid hne
        clear hne
        go_wp2_with fail
        refine (beside_any HG.out typed HZ3.out HI'.out HNE.out).mono ?_
        intro e w5 hpost
        cases hq : beside s σ' typed with
        | error er =>
          obtain ⟨en, ep⟩ := er
          rw [hq] at hpost
          obtain ⟨rfl, z⟩ := hpost
          have hv := HVM.out
          rw [hq] at hv
          have hv : Except.error (en, ep) = tot := hv
          have hwe : whole s σ = .error (en, ep) := by rw [HWT.out, ← hv]; rfl
          have HZE := Lib.hid z
          have HWE := Lib.hid hwe
          clear hq z hv hwe hop ho'
          go_wp2_with fail
          exact door_fault HWE.out rfl rfl rfl HZE.out
        | ok r =>
          obtain ⟨t2, σ2⟩ := r
          rw [hq] at hpost
          obtain ⟨rfl, z⟩ := hpost
          have hv := HVM.out
          rw [hq] at hv
          have HVN : Hid (parts s n σ2 t2 = tot) := hv
          have hinv := beside_inv HI'.out hlt hq
          have HIN := Lib.hid hinv.1
          have hpp := hinv.2
          have HZN := Lib.hid z
          clear hq z hv hinv hop ho'
          go_wp2_with fail
          go_roundg n
          case measure => omega
          case rel => exact ⟨σ2, t2, rfl, HZN.out, HIN, by omega, HVN⟩
    · have hlt' : (decide ((σ'.pos : Int) < (s.size : Int))) = false := by simp; omega
      have hvl := HVL.out
      rw [if_neg hlt] at hvl
      have hwe : whole s σ = if σ'.ended && σ'.opn.length == 0 then .ok ((), σ') else .error (5, s.size) := by rw [HWT.out, ← hvl]; rfl
      have HWE := Lib.hid hwe
      clear hvl hwe
      go_wp2_with fail
      go_quiet (fail)
      have HZ3 := Lib.hid (HZ.out.drewN nq)
      clear hc0 hc1
      generalize wr.drewN nq = w4 at *
      have hc0 := Scn.strCell HZ3.out
      have hc9 := Scn.endCell HZ3.out
      obtain ⟨oa, oc, hop⟩ := Scn.opnCell HZ3.out
      have hno : ∀ (hf : (σ'.ended && σ'.opn.length == 0) = false), whole s σ = .error (5, (s.size : Int)) := fun hf => by rw [HWE.out, hf]; rfl
      have HNO := Lib.hid hno
      clear hno
      clear HI HG HNW HDC HTT HX HX1 HWT HI' HVL HZ hlt' hlt hgk hps h1 hmf
      cases hen : σ'.ended
      · rw [hen] at hc9
        have HEN := Lib.hid hen
        clear hen
        go_wp2_with fail
        refine wp_region_quiet_tail 17 (by kernel_rfl) (by kernel_rfl) ?_
        simp only [List.take_succ_cons, List.take_zero, List.drop_succ_cons, List.drop_zero]
        repeat (go_big_quiet_step (fail))
        refine wpQuiet_nil ?_
        go_wp2_with fail
        refine (must_no _).mono ?_
        rintro e w9 ⟨rfl, rfl⟩
        go_wp2_with fail
        exact door_fault (HNO.out (by rw [HEN.out]; rfl)) rfl rfl rfl HZ3.out.drew.drop
      · rw [hen] at hc9
        have HEN := Lib.hid hen
        clear hen
        by_cases ho : σ'.opn.length = 0
        · have hl0 : ((σ'.opn.length : Int) == 0) = true := by rw [ho]; rfl
          have hwe : whole s σ = .ok ((), σ') := by rw [HWE.out, HEN.out, ho]; rfl
          have HW2 := Lib.hid hwe
          clear ho hwe
          go_wp2_with fail
          go_quiet ((go_at_call 99; exact Calls.quiet_of_same ((must_yes _).mono fun _ _ h => ⟨h.1, h.2.symm⟩)))
          have z := HZ3.out.drewN nq
          clear hc0 hc9 hop hl0
          generalize w4.drewN nq = w6 at *
          obtain ⟨lv, ov, tp, tv, m, htp, y⟩ := Scn.out z
          obtain ⟨la, lc, hlv⟩ := Toks.slice y.f1
          subst hlv
          have hc2 : w6.cell? ⟨b, 2, none⟩ = some (.slice la σ'.toks.length lc) := y.cell 2
          have y := (y.re [5, 6, 7, 1, 0, 2, 3, 4])
          have g1 : w6.cell? ⟨w.heap.size, 0, none⟩ = some (.slice none 0 0) := y.cell 0
          have k1 := y.free 0
          have y1 := y.set 0 (.slice la σ'.toks.length lc)
          have g2 := y1.f1.cell 0
          have k2 := y.f1.free 0
          have y2 := y1.f1.set 0 (.int .i64 0)
          have g3 := y2.f2.cell 0
          have k3 := y.f2.free 0
          have y3 := y2.f2.set 0 (.int .i64 0)
          have HY := Lib.hid y3
          clear y y1 y2 y3 z htp
          go_wp2_with fail
          rw [HW2.out]
          refine leaves_cons (f := 95) (args := catchArgs w.heap.size (w.heap.size + 1) (w.heap.size + 1 + 1)) (by simp) (by simp [go_sem]) ?_
          refine (catch_idle _ _ _ _).mono ?_
          rintro e u' w'' ⟨rfl, rfl, rfl⟩
          have d3 := HY.out.cell 0
          have d2 := HY.out.f1.cell 0
          have d1 := HY.out.f2.cell 0
          refine ⟨.tuple #[.slice la σ'.toks.length lc, .int .i64 0, .int .i64 0], ?_, _, rfl, HY.out.drop.drop.drop.f1.drop.f1.drop.f1.drop.f1.drop⟩
          simp [results, Tryz.results60, go_sem, d1, d2, d3]
        · have hl0 : ((σ'.opn.length : Int) == 0) = false := by simpa using ho
          have HL0 := Lib.hid ho
          clear ho
          go_wp2_with fail
          refine wp_region_quiet_tail 17 (by kernel_rfl) (by kernel_rfl) ?_
          simp only [List.take_succ_cons, List.take_zero, List.drop_succ_cons, List.drop_zero]
          repeat (go_big_quiet_step (fail))
          refine wpQuiet_nil ?_
          go_wp2_with fail
          refine (must_no _).mono ?_
          rintro e w9 ⟨rfl, rfl⟩
          go_wp2_with fail
          exact door_fault (HNO.out (by rw [HEN.out]; simpa using HL0.out)) rfl rfl rfl HZ3.out.drew.drop
end
end Go.Proofs.YtahfcgjlcdbnjaaGreatDoor

