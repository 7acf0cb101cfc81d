/- Names: a text is one, two with a colon between. -/
import Derived.Test.YtahfcgjlcdbnjaaGreatDoorMScn2
import Derived.LoopN
namespace Go.Proofs.YtahfcgjlcdbnjaaGreatDoor
open Go.RowKit

/-- Is a text a name? -/
def isName (l : Bytes) : Bool := Lib.validD l && !l.isEmpty && begins (Lib.decodeL l).1 && decide (wordN false l = l.length)

section
variable {W w : World} {L : List Asn} {b : Nat} {s : ByteArray} {σ : St}

theorem begins_goes (r : Int) (h : begins r = true) : goesOn r = true := by simp [goesOn, h]

set_option maxHeartbeats 2000000 in
set_option maxRecDepth 100000 in
theorem isName_any (g : Glob w) (l : Bytes) (hl : l.length ≤ 1048576) :
    Calls Tryz.prog 140 #[str l] w fun e w' => e = .returned (.bool (isName l)) ∧ Below w.heap.size w w' := by
  have HG := Lib.hid g
  clear g
  go_enter Tryz.func140, Tryz.ntmps140
  go_wp2_with fail
  refine (valid_any HG.out (Hold.start w) l (by omega)).mono ?_
  rintro e w1 ⟨rfl, hb⟩
  have x := (Hold.start w).below hb
  have HX := Lib.hid x
  clear hb x
  cases hv : Lib.validD l
  · have HN : Hid (isName l = false) := by show _ = _; simp [isName, hv]
    clear hv
    go_wp2_with fail
    go_ret
    exact ⟨by rw [HN.out]; rfl, HX.out.old⟩
  · have HV := Lib.hid hv
    clear hv
    go_wp2_with fail
    go_loopg [] l.length (fun k wr => ∃ p : Nat, Hold w wr [Asn.pts w1.heap.size (.stringIter ⟨l.toArray⟩ p)] ∧ k + p = l.length ∧
      Hid (wordN false l = p + wordN false (l.drop p)) ∧ Hid (0 < p → begins (Lib.decodeL l).1 = true))
    case atStart =>
      exact ⟨0, HX.out.allocAt rfl rfl, by simp, by show _ = _; simp, fun h => absurd h (Nat.lt_irrefl 0)⟩
    case round =>
      obtain ⟨p, z, hk, HW, HB⟩ := hrel
      have HZ := Lib.hid z
      have HK := Lib.hid hk
      by_cases hp : p < l.length
      · obtain ⟨w2, hnx, z2⟩ := run_next z (by simpa [ByteArray.size] using hp)
        rw [decode_list] at hnx z2
        have hne : l.drop p ≠ [] := by simp; omega
        have hst := Lib.hid (wordN_step false _ hne)
        have hw1 := Lib.decodeL_width (l.drop p)
        have hle := Lib.decodeL_le _ hne
        have hdl := decode_le ⟨l.toArray⟩ p
        rw [decode_list] at hdl
        rw [List.length_drop] at hle
        generalize hd : Lib.decodeL (l.drop p) = d at *
        have HD := Lib.hid hd
        obtain ⟨r, wd⟩ := d
        have hmv : l.drop (p + wd) = (l.drop p).drop wd := by rw [List.drop_drop]
        have HMV := Lib.hid hmv
        have HZ2 := Lib.hid z2
        clear z z2 hd hk hmv
        by_cases hp0 : p = 0
        · have hd0 : ((p : Int) == 0) = true := by simpa using hp0
          have hD0 := Lib.hid (show Lib.decodeL l = (r, wd) by have := HD.out; rw [hp0] at this; simpa using this)
          have HP0 := Lib.hid hp0
          clear hp0
          go_wp2_with fail
          refine (begins_any r w2 (by omega)).mono ?_
          rintro e w3 ⟨rfl, hb⟩
          have HZ3 := Lib.hid (HZ2.out.below hb)
          clear hb
          cases hbg : begins r
          · have HN : Hid (isName l = false) := by show _ = _; simp [isName, hD0.out, hbg]
            clear hbg
            go_wp2_with fail
            go_ret
            exact ⟨by rw [HN.out]; rfl, HZ3.out.old⟩
          · have hgo := begins_goes r hbg
            have HBG := Lib.hid hbg
            have HGO := Lib.hid hgo
            clear hgo hbg
            go_wp2_with fail
            refine (goesOn_any r w3 (by omega)).mono ?_
            rintro e w4 ⟨rfl, hb⟩
            have HZ4 := Lib.hid (HZ3.out.below hb)
            clear hb
            rw [HGO.out]
            go_wp2_with fail
            go_roundg (gk - wd)
            case measure => have := HK.out; omega
            case rel => exact ⟨p + wd, HZ4.out, by have := HK.out; omega, by show _ = _; rw [HW.out, hst.out, HGO.out, HMV.out]; simp; omega, fun _ => by rw [hD0.out]; exact HBG.out⟩
        · have hd0 : ((p : Int) == 0) = false := by simpa using hp0
          go_wp2_with fail
          refine (goesOn_any r w2 (by omega)).mono ?_
          rintro e w3 ⟨rfl, hb⟩
          have HZ3 := Lib.hid (HZ2.out.below hb)
          clear hb
          cases hgo : goesOn r
          · have HN : Hid (isName l = false) := by
              show _ = _
              have : wordN false l ≠ l.length := by rw [HW.out, hst.out, hgo]; simp; omega
              simp [isName, this]
            clear hgo
            go_wp2_with fail
            go_ret
            exact ⟨by rw [HN.out]; rfl, HZ3.out.old⟩
          · have HGO := Lib.hid hgo
            clear hgo
            go_wp2_with fail
            go_roundg (gk - wd)
            case measure => have := HK.out; omega
            case rel => exact ⟨p + wd, HZ3.out, by have := HK.out; omega, by show _ = _; rw [HW.out, hst.out, HGO.out, HMV.out]; simp; omega, fun _ => HB.out (by omega)⟩
      · have hov := run_over z (by simpa [ByteArray.size] using hp)
        have HN : Hid (isName l = !l.isEmpty) := by
          show _ = _
          have hd : l.drop p = [] := by simp; omega
          have : wordN false l = l.length := by rw [HW.out, hd, wordN_nil]; omega
          by_cases he : l = []
          · subst he; rfl
          · have h0 : 0 < p := by have := List.length_pos_iff.2 he; omega
            simp [isName, HV.out, HB.out h0, this]
        clear z hk
        go_wp2_with fail
        go_ret
        exact ⟨by rw [HN.out]; rfl, HZ.out.old⟩

/-- A QName's prefix and local name. -/
def split (l : Bytes) : Option (Bytes × Bytes) :=
  let c := Lib.cut l [58]
  if c.2.2 then (if isName c.2.1 && isName c.1 then some (c.1, c.2.1) else none)
  else if isName l then some ([], l) else none

def splitV : Option (Bytes × Bytes) → Value
  | some (a, b) => .tuple #[str a, str b, .bool true]
  | none => .tuple #[str [], str [], .bool false]

set_option maxHeartbeats 2000000 in
theorem split_any (g : Glob w) (l : Bytes) (hl : l.length ≤ 1048576) :
    Calls Tryz.prog 105 #[str l] w fun e w' => e = .returned (splitV (split l)) ∧ Below w.heap.size w w' := by
  have HG := Lib.hid g
  clear g
  go_enter Tryz.func105, Tryz.ntmps105
  go_wp2_with fail
  refine (cut_any HG.out (Hold.start w) l [58] (by omega)).mono ?_
  rintro e w1 ⟨rfl, n, rfl⟩
  have x := (Hold.start w).drewN n
  have HX := Lib.hid x
  have HG1 := Lib.hid (HG.out.carry x)
  have hcl := cut_length l [58]
  have hsp : split l = (if (Lib.cut l [58]).2.2 then (if isName (Lib.cut l [58]).2.1 && isName (Lib.cut l [58]).1 then some ((Lib.cut l [58]).1, (Lib.cut l [58]).2.1) else none) else if isName l then some ([], l) else none) := rfl
  have hc2 : (Lib.cut l [58]).2.1.length ≤ l.length := by
    unfold Lib.cut; split <;> simp
  generalize hcut : Lib.cut l [58] = c at *
  obtain ⟨c1, c2, c3⟩ := c
  have HS := Lib.hid hsp
  clear x hcut hsp
  cases c3
  · clear hcl
    go_wp2_with fail
    refine (isName_any HG1.out l hl).mono ?_
    rintro e w2 ⟨rfl, hb⟩
    have HX2 := Lib.hid (HX.out.below hb)
    clear hb
    cases hn : isName l
    · have HF : Hid (split l = none) := by show _ = _; rw [HS.out]; simp [hn]
      clear hn
      go_wp2_with fail
      go_ret3
      exact ⟨by rw [HF.out]; rfl, HX2.out.old⟩
    · have HF : Hid (split l = some ([], l)) := by show _ = _; rw [HS.out]; simp [hn]
      clear hn
      go_wp2_with fail
      go_ret3
      exact ⟨by rw [HF.out]; rfl, HX2.out.old⟩
  · have hcl := hcl rfl
    simp at hcl
    have h2 : c2.length ≤ 1048576 := by simp at hc2; omega
    have h1 : c1.length ≤ 1048576 := by omega
    clear hcl hc2
    go_wp2_with fail
    refine (isName_any HG1.out c2 h2).mono ?_
    rintro e w2 ⟨rfl, hb⟩
    have HX2 := Lib.hid (HX.out.below hb)
    have HG2 := Lib.hid (HG.out.carry HX2.out)
    clear hb
    cases hn : isName c2
    · have HF : Hid (split l = none) := by show _ = _; rw [HS.out]; simp [hn]
      clear hn
      go_wp2_with fail
      go_ret3
      exact ⟨by rw [HF.out]; rfl, HX2.out.old⟩
    · have HN2 := Lib.hid hn
      clear hn
      go_wp2_with fail
      refine (isName_any HG2.out c1 h1).mono ?_
      rintro e w3 ⟨rfl, hb⟩
      have HX3 := Lib.hid (HX2.out.below hb)
      clear hb
      cases hn : isName c1
      · have HF : Hid (split l = none) := by show _ = _; rw [HS.out]; simp [hn]
        clear hn
        go_wp2_with fail
        go_ret3
        exact ⟨by rw [HF.out]; rfl, HX3.out.old⟩
      · have HF : Hid (split l = some (c1, c2)) := by show _ = _; rw [HS.out]; simp [hn, HN2.out]
        clear hn
        go_wp2_with fail
        go_ret3
        exact ⟨by rw [HF.out]; rfl, HX3.out.old⟩
end
end Go.Proofs.YtahfcgjlcdbnjaaGreatDoor
/- The scanner's methods on names and signs. -/
namespace Go.Proofs.YtahfcgjlcdbnjaaGreatDoor
open Go.RowKit

section
variable {W w : World} {L : List Asn} {b : Nat} {s : ByteArray} {σ : St}

theorem Ok.to (h : Ok s σ) {p : Nat} (hp : p ≤ s.size) : Ok s (σ.to p) := ⟨h.size, hp, h.toks, h.opn, h.text, h.beg, h.grown⟩
theorem Ok.word (h : Ok s σ) (c : Bool) : Ok s (word s σ c).2 := by
  refine h.to ?_
  have := wordN_le c _ (rest s σ) (Nat.le_refl _)
  rw [rest_length] at this
  have := h.pos
  omega
theorem hasPrefix_length {l t : Bytes} (h : Lib.hasPrefix l t = true) : t.length ≤ l.length := by
  unfold Lib.hasPrefix at h
  exact (List.isPrefixOf_iff_prefix.1 h).length_le
theorem Ok.eat (h : Ok s σ) (t : Bytes) : Ok s (eat s σ t).2 := by
  unfold Go.Proofs.YtahfcgjlcdbnjaaGreatDoor.eat
  split
  · rename_i hh
    have := hasPrefix_length hh
    rw [rest_length] at this
    exact h.to (by have := h.pos; omega)
  · exact h
theorem trimB_le (l : Bytes) : (trimB l).length ≤ l.length := by
  unfold trimB Lib.trimLeftS; exact (List.dropWhile_sublist _).length_le
theorem Ok.blanks (h : Ok s σ) : Ok s (blanks s σ).2 := by
  refine h.to ?_; omega
theorem Ok.upto (h : Ok s σ) (t : Bytes) : Ok s (upto s σ t).2 := by
  unfold Go.Proofs.YtahfcgjlcdbnjaaGreatDoor.upto
  simp only
  split
  · rename_i hc
    have := cut_length _ _ hc
    rw [rest_length] at this
    exact h.to (by have := h.pos; omega)
  · exact h

theorem word_length (s : ByteArray) (σ : St) (c : Bool) (h : Ok s σ) : (word s σ c).1.length ≤ 32768 := by
  unfold word
  simp only [List.length_take, rest_length]
  have := h.size
  omega

/-- A QName is passed. -/
def qname (s : ByteArray) (σ : St) : (Bytes × Bool) × St := let r := word s σ true; ((r.1, (split r.1).isSome), r.2)
/-- A name is passed. -/
def name (s : ByteArray) (σ : St) : (Bytes × Bool) × St := let r := word s σ false; ((r.1, isName r.1), r.2)

theorem qname_any (g : Glob W) (x : Hold W w (Scn b s σ :: L)) (h : Ok s σ) :
    Calls Tryz.prog 162 #[.pointer (some ⟨b, 0, none⟩)] w
      fun e w' => e = .returned (.tuple #[str (qname s σ).1.1, .bool (qname s σ).1.2]) ∧ Hold W w' (Scn b s (qname s σ).2 :: L) := by
  have HO := Lib.hid x
  have HH := Lib.hid h
  have HG := Lib.hid g
  clear x h g
  go_enter Tryz.func162, Tryz.ntmps162
  go_wp2_with fail
  refine (word_any HG.out true HO.out HH.out).mono ?_
  rintro e w1 ⟨rfl, z⟩
  have HZ := Lib.hid z
  have hl := word_length s σ true HH.out
  clear z
  go_wp2_with fail
  refine (split_any (HG.out.carry HZ.out) (word s σ true).1 (by omega)).mono ?_
  rintro e w2 ⟨rfl, hb⟩
  have HZ2 := Lib.hid (HZ.out.below hb)
  clear hb
  have hq : qname s σ = (((word s σ true).1, (split (word s σ true).1).isSome), (word s σ true).2) := rfl
  have HQ := Lib.hid hq
  clear hq
  cases hs : split (word s σ true).1 with
  | none =>
    have HS := Lib.hid hs
    clear hs
    unfold splitV
    go_wp2_with fail
    go_ret2
    rw [HQ.out, HS.out]
    exact ⟨rfl, HZ2.out⟩
  | some p =>
    obtain ⟨p1, p2⟩ := p
    have HS := Lib.hid hs
    clear hs
    unfold splitV
    go_wp2_with fail
    go_ret2
    rw [HQ.out, HS.out]
    exact ⟨rfl, HZ2.out⟩

theorem name_any (g : Glob W) (x : Hold W w (Scn b s σ :: L)) (h : Ok s σ) :
    Calls Tryz.prog 165 #[.pointer (some ⟨b, 0, none⟩)] w
      fun e w' => e = .returned (.tuple #[str (name s σ).1.1, .bool (name s σ).1.2]) ∧ Hold W w' (Scn b s (name s σ).2 :: L) := by
  have HO := Lib.hid x
  have HH := Lib.hid h
  have HG := Lib.hid g
  clear x h g
  go_enter Tryz.func165, Tryz.ntmps165
  go_wp2_with fail
  refine (word_any HG.out false HO.out HH.out).mono ?_
  rintro e w1 ⟨rfl, z⟩
  have HZ := Lib.hid z
  have hl := word_length s σ false HH.out
  clear z
  go_wp2_with fail
  refine (isName_any (HG.out.carry HZ.out) (word s σ false).1 (by omega)).mono ?_
  rintro e w2 ⟨rfl, hb⟩
  have HZ2 := Lib.hid (HZ.out.below hb)
  clear hb
  go_wp2_with fail
  go_ret2
  exact ⟨rfl, HZ2.out⟩

/-- A sign that a text begins with is passed. -/
def sign (s : ByteArray) (σ : St) : (Bytes × Bool) × St :=
  if has s σ [39] then (([39], true), σ.to (σ.pos + 1))
  else if has s σ [34] then (([34], true), σ.to (σ.pos + 1))
  else (([], false), σ)

set_option maxHeartbeats 1000000 in
theorem sign_any (x : Hold W w (Scn b s σ :: L)) (h : Ok s σ) :
    Calls Tryz.prog 194 #[.pointer (some ⟨b, 0, none⟩)] w
      fun e w' => e = .returned (.tuple #[str (sign s σ).1.1, .bool (sign s σ).1.2]) ∧ Hold W w' (Scn b s (sign s σ).2 :: L) := by
  have x1 := (x.alloc (.cells #[str [39], str [34]] 9))
  have hc0 : (w.alloc (.cells #[str [39], str [34]] 9)).cell? ⟨w.heap.size, 0, none⟩ = some (str [39]) := x1.cell 0
  have HX := Lib.hid x1.f1
  have HH := Lib.hid h
  have he1 : eat s σ [39] = if has s σ [39] then (true, σ.to (σ.pos + 1)) else (false, σ) := rfl
  have he2 : eat s σ [34] = if has s σ [34] then (true, σ.to (σ.pos + 1)) else (false, σ) := rfl
  have hs : sign s σ = if has s σ [39] then (([39], true), σ.to (σ.pos + 1)) else if has s σ [34] then (([34], true), σ.to (σ.pos + 1)) else (([], false), σ) := rfl
  have HE1 := Lib.hid he1
  have HE2 := Lib.hid he2
  have HS := Lib.hid hs
  clear x x1 h he1 he2 hs
  go_enter Tryz.func194, Tryz.ntmps194
  go_wp2_with fail
  refine wp_loop_rounds 3 ?_
  rw [rounds_succ]
  go_wp2_with fail
  refine (eat_any HX.out HH.out [39] (by decide)).mono ?_
  rintro e w1 ⟨rfl, z⟩
  rw [HE1.out] at z ⊢
  cases h1 : has s σ [39]
  · simp only [h1, Bool.false_eq_true, if_false] at z ⊢
    have hc1 : w1.cell? ⟨w.heap.size, 1, none⟩ = some (str [34]) := z.f1.cell 1
    have HZ := Lib.hid z
    have H1 := Lib.hid h1
    clear z h1
    go_wp2_with fail
    rw [rounds_succ]
    go_wp2_with fail
    refine (eat_any HZ.out HH.out [34] (by decide)).mono ?_
    rintro e w2 ⟨rfl, z⟩
    rw [HE2.out] at z ⊢
    cases h2 : has s σ [34]
    · simp only [h2, Bool.false_eq_true, if_false] at z ⊢
      have HZ2 := Lib.hid z
      have H2 := Lib.hid h2
      clear z h2
      go_wp2_with fail
      rw [rounds_succ]
      go_wp2_with fail
      go_ret2
      rw [HS.out, H1.out, H2.out]
      exact ⟨rfl, HZ2.out.f1.drop⟩
    · simp only [h2, if_true] at z ⊢
      have HZ2 := Lib.hid z
      have H2 := Lib.hid h2
      clear z h2
      go_wp2_with fail
      go_ret2
      rw [HS.out, H1.out, H2.out]
      exact ⟨rfl, HZ2.out.f1.drop⟩
  · simp only [h1, if_true] at z ⊢
    have HZ := Lib.hid z
    have H1 := Lib.hid h1
    clear z h1
    go_wp2_with fail
    go_ret2
    rw [HS.out, H1.out]
    exact ⟨rfl, HZ.out.f1.drop⟩

/-- = with blanks around is passed. -/
def equal (s : ByteArray) (σ : St) : Bool × St :=
  let e := eat s (blanks s σ).2 [61]
  (e.1, (blanks s e.2).2)

theorem Ok.equal (h : Ok s σ) : Ok s (equal s σ).2 := ((h.blanks).eat _).blanks

theorem equal_any (x : Hold W w (Scn b s σ :: L)) (h : Ok s σ) :
    Calls Tryz.prog 157 #[.pointer (some ⟨b, 0, none⟩)] w
      fun e w' => e = .returned (.bool (equal s σ).1) ∧ Hold W w' (Scn b s (equal s σ).2 :: L) := by
  have HO := Lib.hid x
  have HH := Lib.hid h
  clear x h
  go_enter Tryz.func157, Tryz.ntmps157
  go_wp2_with fail
  refine (blanks_any HO.out HH.out).mono ?_
  rintro e w1 ⟨rfl, z⟩
  have HZ := Lib.hid z
  clear z
  go_wp2_with fail
  refine (eat_any HZ.out HH.out.blanks [61] (by decide)).mono ?_
  rintro e w2 ⟨rfl, z⟩
  have HZ2 := Lib.hid z
  clear z
  go_wp2_with fail
  refine (blanks_any HZ2.out (HH.out.blanks.eat _)).mono ?_
  rintro e w3 ⟨rfl, z⟩
  have HZ3 := Lib.hid z
  clear z
  go_wp2_with fail
  go_ret
  exact ⟨rfl, HZ3.out⟩

/-- Bytes that entities came to are counted. -/
def grow (σ : St) (n p : Nat) : M Unit := if σ.grown + n ≤ 32768 then .ok ((), { σ with grown := σ.grown + n }) else .error (6, p)

set_option maxHeartbeats 400000 in
theorem grow_any (n p : Nat) (hn : n ≤ 1048576) (x : Hold W w (Scn b s σ :: L)) (h : Ok s σ) :
    Calls Tryz.prog 202 #[.pointer (some ⟨b, 0, none⟩), .int .i64 n, .int .i64 p] w (Post W L b s nothing (grow σ n p)) := by
  obtain ⟨lv, ov, tp, tv, m, htp, x⟩ := Scn.out x
  have hc8 : w.cell? ⟨b, 8, none⟩ = some (.int .i64 σ.grown) := x.cell 8
  have hf := x.free 8
  have hg := h.grown
  have HY := Lib.hid (x.set 8 (.int .i64 ((σ.grown + n : Nat) : Int)))
  have HP := Lib.hid htp
  clear x h htp
  go_enter Tryz.func202, Tryz.ntmps202
  go_wp2_with fail
  refine (may_any _ _).mono ?_
  rintro e w1 ⟨⟨hl, rfl⟩ | ⟨hl, rfl⟩, rfl⟩
  · have hl' : σ.grown + n ≤ 32768 := by simp at hl; omega
    clear hl
    go_wp2_with fail
    go_end0
    unfold grow; rw [if_pos hl']
    refine ⟨rfl, Scn.mk (lv := lv) (ov := ov) (tp := tp) (tv := tv) (m := m) HP.out ?_⟩
    have z := HY.out
    push_cast at z
    exact z
  · have hl' : ¬ σ.grown + n ≤ 32768 := by simp at hl; omega
    clear hl
    go_wp2_with fail
    refine ⟨rfl, ?_⟩
    unfold grow; rw [if_neg hl']
    refine ⟨rfl, ?_⟩
    have z := HY.out
    push_cast at z
    exact z.drop.drop.drop.drop.drop

end
end Go.Proofs.YtahfcgjlcdbnjaaGreatDoor
