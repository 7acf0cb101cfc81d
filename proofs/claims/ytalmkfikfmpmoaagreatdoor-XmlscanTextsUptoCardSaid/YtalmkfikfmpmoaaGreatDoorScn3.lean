/- The scanner's methods on names and signs. -/
import Derived.Test.YtalmkfikfmpmoaaGreatDoorNam
import Derived.LoopN
namespace Go.Proofs.YtalmkfikfmpmoaaGreatDoor
open Go.RowKit

section
variable {W w : World} {L : List Asn} {b : Nat} {s : ByteArray} {σ : St}

theorem Ok.to (h : Ok s σ) {p : Nat} (hp : p ≤ s.size) : Ok s (σ.to p) := ⟨h.size, hp, h.toks, h.opn, h.text, h.beg, h.grown⟩
theorem Ok.word (h : Ok s σ) (c : Bool) : Ok s (word s σ c).2 := by
  refine h.to ?_
  have := wordN_le c _ (rest s σ) (Nat.le_refl _)
  rw [rest_length] at this
  have := h.pos
  omega
theorem hasPrefix_length {l t : Bytes} (h : Lib.hasPrefix l t = true) : t.length ≤ l.length := by
  unfold Lib.hasPrefix at h
  exact (List.isPrefixOf_iff_prefix.1 h).length_le
theorem Ok.eat (h : Ok s σ) (t : Bytes) : Ok s (eat s σ t).2 := by
  unfold Go.Proofs.YtalmkfikfmpmoaaGreatDoor.eat
  split
  · rename_i hh
    have := hasPrefix_length hh
    rw [rest_length] at this
    exact h.to (by have := h.pos; omega)
  · exact h
theorem trimB_le (l : Bytes) : (trimB l).length ≤ l.length := by
  unfold trimB Lib.trimLeftS; exact (List.dropWhile_sublist _).length_le
theorem Ok.blanks (h : Ok s σ) : Ok s (blanks s σ).2 := by
  refine h.to ?_; omega
theorem Ok.upto (h : Ok s σ) (t : Bytes) : Ok s (upto s σ t).2 := by
  unfold Go.Proofs.YtalmkfikfmpmoaaGreatDoor.upto
  simp only
  split
  · rename_i hc
    have := cut_length _ _ hc
    rw [rest_length] at this
    exact h.to (by have := h.pos; omega)
  · exact h

theorem word_length (s : ByteArray) (σ : St) (c : Bool) (h : Ok s σ) : (word s σ c).1.length ≤ 32768 := by
  unfold word
  simp only [List.length_take, rest_length]
  have := h.size
  omega

/-- A QName is passed. -/
def qname (s : ByteArray) (σ : St) : (Bytes × Bool) × St := let r := word s σ true; ((r.1, (split r.1).isSome), r.2)
/-- A name is passed. -/
def name (s : ByteArray) (σ : St) : (Bytes × Bool) × St := let r := word s σ false; ((r.1, isName r.1), r.2)

theorem qname_any (g : Glob W) (x : Hold W w (Scn b s σ :: L)) (h : Ok s σ) :
    Calls Tryz.prog 111 #[.pointer (some ⟨b, 0, none⟩)] w
      fun e w' => e = .returned (.tuple #[str (qname s σ).1.1, .bool (qname s σ).1.2]) ∧ Hold W w' (Scn b s (qname s σ).2 :: L) := by
  have HO := Lib.hid x
  have HH := Lib.hid h
  have HG := Lib.hid g
  clear x h g
  go_enter Tryz.func111, Tryz.ntmps111
  go_wp2_with fail
  refine (word_any HG.out true HO.out HH.out).mono ?_
  rintro e w1 ⟨rfl, z⟩
  have HZ := Lib.hid z
  have hl := word_length s σ true HH.out
  clear z
  go_wp2_with fail
  refine (split_any (HG.out.carry HZ.out) (word s σ true).1 (by omega)).mono ?_
  rintro e w2 ⟨rfl, hb⟩
  have HZ2 := Lib.hid (HZ.out.below hb)
  clear hb
  have hq : qname s σ = (((word s σ true).1, (split (word s σ true).1).isSome), (word s σ true).2) := rfl
  have HQ := Lib.hid hq
  clear hq
  cases hs : split (word s σ true).1 with
  | none =>
    have HS := Lib.hid hs
    clear hs
    unfold splitV
    go_wp2_with fail
    go_ret2
    rw [HQ.out, HS.out]
    exact ⟨rfl, HZ2.out⟩
  | some p =>
    obtain ⟨p1, p2⟩ := p
    have HS := Lib.hid hs
    clear hs
    unfold splitV
    go_wp2_with fail
    go_ret2
    rw [HQ.out, HS.out]
    exact ⟨rfl, HZ2.out⟩

theorem name_any (g : Glob W) (x : Hold W w (Scn b s σ :: L)) (h : Ok s σ) :
    Calls Tryz.prog 114 #[.pointer (some ⟨b, 0, none⟩)] w
      fun e w' => e = .returned (.tuple #[str (name s σ).1.1, .bool (name s σ).1.2]) ∧ Hold W w' (Scn b s (name s σ).2 :: L) := by
  have HO := Lib.hid x
  have HH := Lib.hid h
  have HG := Lib.hid g
  clear x h g
  go_enter Tryz.func114, Tryz.ntmps114
  go_wp2_with fail
  refine (word_any HG.out false HO.out HH.out).mono ?_
  rintro e w1 ⟨rfl, z⟩
  have HZ := Lib.hid z
  have hl := word_length s σ false HH.out
  clear z
  go_wp2_with fail
  refine (isName_any (HG.out.carry HZ.out) (word s σ false).1 (by omega)).mono ?_
  rintro e w2 ⟨rfl, hb⟩
  have HZ2 := Lib.hid (HZ.out.below hb)
  clear hb
  go_wp2_with fail
  go_ret2
  exact ⟨rfl, HZ2.out⟩

/-- A sign that a text begins with is passed. -/
def sign (s : ByteArray) (σ : St) : (Bytes × Bool) × St :=
  if has s σ [39] then (([39], true), σ.to (σ.pos + 1))
  else if has s σ [34] then (([34], true), σ.to (σ.pos + 1))
  else (([], false), σ)

set_option maxHeartbeats 1000000 in
theorem sign_any (x : Hold W w (Scn b s σ :: L)) (h : Ok s σ) :
    Calls Tryz.prog 146 #[.pointer (some ⟨b, 0, none⟩)] w
      fun e w' => e = .returned (.tuple #[str (sign s σ).1.1, .bool (sign s σ).1.2]) ∧ Hold W w' (Scn b s (sign s σ).2 :: L) := by
  have x1 := (x.alloc (.cells #[str [39], str [34]] 9))
  have hc0 : (w.alloc (.cells #[str [39], str [34]] 9)).cell? ⟨w.heap.size, 0, none⟩ = some (str [39]) := x1.cell 0
  have HX := Lib.hid x1.f1
  have HH := Lib.hid h
  have he1 : eat s σ [39] = if has s σ [39] then (true, σ.to (σ.pos + 1)) else (false, σ) := rfl
  have he2 : eat s σ [34] = if has s σ [34] then (true, σ.to (σ.pos + 1)) else (false, σ) := rfl
  have hs : sign s σ = if has s σ [39] then (([39], true), σ.to (σ.pos + 1)) else if has s σ [34] then (([34], true), σ.to (σ.pos + 1)) else (([], false), σ) := rfl
  have HE1 := Lib.hid he1
  have HE2 := Lib.hid he2
  have HS := Lib.hid hs
  clear x x1 h he1 he2 hs
  go_enter Tryz.func146, Tryz.ntmps146
  go_wp2_with fail
  refine wp_loop_rounds 3 ?_
  rw [rounds_succ]
  go_wp2_with fail
  refine (eat_any HX.out HH.out [39] (by decide)).mono ?_
  rintro e w1 ⟨rfl, z⟩
  rw [HE1.out] at z ⊢
  cases h1 : has s σ [39]
  · simp only [h1, Bool.false_eq_true, if_false] at z ⊢
    have hc1 : w1.cell? ⟨w.heap.size, 1, none⟩ = some (str [34]) := z.f1.cell 1
    have HZ := Lib.hid z
    have H1 := Lib.hid h1
    clear z h1
    go_wp2_with fail
    rw [rounds_succ]
    go_wp2_with fail
    refine (eat_any HZ.out HH.out [34] (by decide)).mono ?_
    rintro e w2 ⟨rfl, z⟩
    rw [HE2.out] at z ⊢
    cases h2 : has s σ [34]
    · simp only [h2, Bool.false_eq_true, if_false] at z ⊢
      have HZ2 := Lib.hid z
      have H2 := Lib.hid h2
      clear z h2
      go_wp2_with fail
      rw [rounds_succ]
      go_wp2_with fail
      go_ret2
      rw [HS.out, H1.out, H2.out]
      exact ⟨rfl, HZ2.out.f1.drop⟩
    · simp only [h2, if_true] at z ⊢
      have HZ2 := Lib.hid z
      have H2 := Lib.hid h2
      clear z h2
      go_wp2_with fail
      go_ret2
      rw [HS.out, H1.out, H2.out]
      exact ⟨rfl, HZ2.out.f1.drop⟩
  · simp only [h1, if_true] at z ⊢
    have HZ := Lib.hid z
    have H1 := Lib.hid h1
    clear z h1
    go_wp2_with fail
    go_ret2
    rw [HS.out, H1.out]
    exact ⟨rfl, HZ.out.f1.drop⟩

/-- = with blanks around is passed. -/
def equal (s : ByteArray) (σ : St) : Bool × St :=
  let e := eat s (blanks s σ).2 [61]
  (e.1, (blanks s e.2).2)

theorem Ok.equal (h : Ok s σ) : Ok s (equal s σ).2 := ((h.blanks).eat _).blanks

theorem equal_any (x : Hold W w (Scn b s σ :: L)) (h : Ok s σ) :
    Calls Tryz.prog 106 #[.pointer (some ⟨b, 0, none⟩)] w
      fun e w' => e = .returned (.bool (equal s σ).1) ∧ Hold W w' (Scn b s (equal s σ).2 :: L) := by
  have HO := Lib.hid x
  have HH := Lib.hid h
  clear x h
  go_enter Tryz.func106, Tryz.ntmps106
  go_wp2_with fail
  refine (blanks_any HO.out HH.out).mono ?_
  rintro e w1 ⟨rfl, z⟩
  have HZ := Lib.hid z
  clear z
  go_wp2_with fail
  refine (eat_any HZ.out HH.out.blanks [61] (by decide)).mono ?_
  rintro e w2 ⟨rfl, z⟩
  have HZ2 := Lib.hid z
  clear z
  go_wp2_with fail
  refine (blanks_any HZ2.out (HH.out.blanks.eat _)).mono ?_
  rintro e w3 ⟨rfl, z⟩
  have HZ3 := Lib.hid z
  clear z
  go_wp2_with fail
  go_ret
  exact ⟨rfl, HZ3.out⟩

/-- Bytes that entities came to are counted. -/
def grow (σ : St) (n p : Nat) : M Unit := if σ.grown + n ≤ 32768 then .ok ((), { σ with grown := σ.grown + n }) else .error (6, p)

set_option maxHeartbeats 400000 in
theorem grow_any (n p : Nat) (hn : n ≤ 1048576) (x : Hold W w (Scn b s σ :: L)) (h : Ok s σ) :
    Calls Tryz.prog 155 #[.pointer (some ⟨b, 0, none⟩), .int .i64 n, .int .i64 p] w (Post W L b s nothing (grow σ n p)) := by
  obtain ⟨lv, ov, tp, tv, m, htp, x⟩ := Scn.out x
  have hc8 : w.cell? ⟨b, 8, none⟩ = some (.int .i64 σ.grown) := x.cell 8
  have hf := x.free 8
  have hg := h.grown
  have HY := Lib.hid (x.set 8 (.int .i64 ((σ.grown + n : Nat) : Int)))
  have HP := Lib.hid htp
  clear x h htp
  go_enter Tryz.func155, Tryz.ntmps155
  go_wp2_with fail
  refine (may_any _ _).mono ?_
  rintro e w1 ⟨⟨hl, rfl⟩ | ⟨hl, rfl⟩, rfl⟩
  · have hl' : σ.grown + n ≤ 32768 := by simp at hl; omega
    clear hl
    go_wp2_with fail
    go_end0
    unfold grow; rw [if_pos hl']
    refine ⟨rfl, Scn.mk (lv := lv) (ov := ov) (tp := tp) (tv := tv) (m := m) HP.out ?_⟩
    have z := HY.out
    push_cast at z
    exact z
  · have hl' : ¬ σ.grown + n ≤ 32768 := by simp at hl; omega
    clear hl
    go_wp2_with fail
    refine ⟨rfl, ?_⟩
    unfold grow; rw [if_neg hl']
    refine ⟨rfl, ?_⟩
    have z := HY.out
    push_cast at z
    exact z.drop.drop.drop.drop.drop

end
end Go.Proofs.YtalmkfikfmpmoaaGreatDoor
