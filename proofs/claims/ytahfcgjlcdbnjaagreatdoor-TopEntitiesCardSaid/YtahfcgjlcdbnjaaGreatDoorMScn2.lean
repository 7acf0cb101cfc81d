/- Contracts of Go's library as the scanner calls it; the library's tables as they lie in the first memory. -/
import Derived.Test.YtahfcgjlcdbnjaaGreatDoorMScn
import Derived.Lib.OthersKept
import Derived.Deep.LoopGhost
import Derived.Lib.TrimUEq
import Derived.Lib.MapLaws
namespace Go.Proofs.YtahfcgjlcdbnjaaGreatDoor
open Go.RowKit

/-- The letters of "xml" and what they fold to. -/
def foldPairs : List (Nat × Nat) := [(120, 88), (88, 120), (109, 77), (77, 109), (108, 76), (76, 108)]

/-- The library's variables. -/
structure Glob (W : World) : Prop where
  tabs : Lib.Utf8Tabs 0 1 W
  maxLen : ∃ m, W.cell? ⟨2, 0, none⟩ = some (.int .i64 m)
  fold : ∀ p ∈ foldPairs, W.cell? ⟨3, p.1, none⟩ = some (.int .u16 p.2)

section
variable {W w : World} {L : List Asn}

theorem Glob.at_ (g : Glob W) (x : Hold W w L) : Lib.Utf8Tabs 0 1 w :=
  ⟨fun c hc => x.oldCell (g.tabs.1 c hc), fun i hi => ⟨x.oldCell (g.tabs.2 i hi).1, x.oldCell (g.tabs.2 i hi).2⟩⟩

theorem Glob.len (g : Glob W) (x : Hold W w L) : ∃ m, w.cell? ⟨2, 0, none⟩ = some (.int .i64 m) := by
  obtain ⟨m, h⟩ := g.maxLen
  exact ⟨m, x.oldCell h⟩

theorem Glob.carry (g : Glob W) (x : Hold W w L) : Glob w := ⟨g.at_ x, g.len x, fun p hp => x.oldCell (g.fold p hp)⟩

/-- The four blanks. -/
def blankSet : Bytes := [9, 10, 13, 32]
/-- A text without blanks at its begin. -/
def trimB (l : Bytes) : Bytes := Lib.trimLeftS l blankSet

theorem trimLeft_any (l : Bytes) : Calls Tryz.prog 161 #[str l, str blankSet] w fun e w' => e = .returned (str (trimB l)) ∧ Below w.heap.size w w' := by
  have := Any.strings_TrimLeft_laid Tryz.lays161 (by kernel_rfl) ⟨l.toArray⟩ ⟨blankSet.toArray⟩ w (by decide) (by
    intro j b h
    have h : blankSet[j]? = some b := h
    have : b ∈ blankSet := List.mem_of_getElem? h
    revert this
    unfold blankSet
    simp only [List.mem_cons, List.not_mem_nil, or_false]
    rintro (rfl | rfl | rfl | rfl) <;> decide)
  exact this

theorem cut_any (g : Glob W) (x : Hold W w L) (l t : Bytes) (hl : l.length < 4294967281) :
    Calls Tryz.prog 139 #[str l, str t] w fun e w' => e = .returned (.tuple #[str (Lib.cut l t).1, str (Lib.cut l t).2.1, .bool (Lib.cut l t).2.2]) ∧ ∃ n, w' = w.drewN n := by
  obtain ⟨m, hm⟩ := g.len x
  exact Tryz.strings_Cut ⟨l.toArray⟩ ⟨t.toArray⟩ m w (by simpa [ByteArray.size] using hl) hm

theorem contains_any (g : Glob W) (x : Hold W w L) (l t : Bytes) (hl : l.length < 4294967281) :
    Calls Tryz.prog 175 #[str l, str t] w fun e w' => e = .returned (.bool (Lib.contains l t)) ∧ w' = w := by
  obtain ⟨m, hm⟩ := g.len x
  exact Tryz.strings_Contains ⟨l.toArray⟩ ⟨t.toArray⟩ m w (by simpa [ByteArray.size] using hl) hm

theorem cutPrefix_any (l t : Bytes) :
    Calls Tryz.prog 106 #[str l, str t] w fun e w' => e = .returned (.tuple #[str (Lib.trimPrefix l t), .bool (Lib.hasPrefix l t)]) ∧ w' = w :=
  Tryz.strings_CutPrefix ⟨l.toArray⟩ ⟨t.toArray⟩ w

/-- The rune at a text's begin, and its bytes. -/
def dec (l : Bytes) : Nat × Nat := if l = [] then (65533, 0) else Lib.decodeL l

theorem decodeGo_eq (l : Bytes) : Lib.decodeGo ⟨l.toArray⟩ = dec l := by
  unfold Lib.decodeGo dec Lib.decodeL
  have : (⟨l.toArray⟩ : ByteArray).size = l.length := by simp [ByteArray.size]
  rw [this]
  by_cases h : l = []
  · subst h; rfl
  · rw [if_neg (by simpa using h), if_neg h]

theorem decode_any (g : Glob W) (x : Hold W w L) (l : Bytes) :
    Calls Tryz.prog 29 #[str l] w fun e w' => e = .returned (.tuple #[.int .i32 (dec l).1, .int .i64 (dec l).2]) ∧ Below w.heap.size w w' := by
  have := Tryz.utf8_DecodeRuneInString ⟨l.toArray⟩ w (g.at_ x)
  rw [decodeGo_eq] at this
  exact this

theorem valid_any (g : Glob W) (x : Hold W w L) (l : Bytes) (hl : l.length ≤ 9223372036854775807) :
    Calls Tryz.prog 180 #[str l] w fun e w' => e = .returned (.bool (Lib.validD l)) ∧ Below w.heap.size w w' :=
  Any.utf8_ValidString Tryz.lays196 ⟨l.toArray⟩ w (by simpa [ByteArray.size] using hl) (g.at_ x)
end
end Go.Proofs.YtahfcgjlcdbnjaaGreatDoor
/- The scanner's small methods: blanks, texts up to a sign, what is added to the text so far. -/
namespace Go.Proofs.YtahfcgjlcdbnjaaGreatDoor
open Go.RowKit

/-- Text is added. -/
def put (σ : St) (t : Bytes) (p : Nat) : M Unit :=
  if σ.text = [] then
    (if t = [] ∨ σ.toks.length < 4096 then .ok ((), { σ with beg := p, text := t }) else .error (6, p))
  else .ok ((), { σ with text := σ.text ++ t })

section
variable {W w : World} {L : List Asn} {b : Nat} {s : ByteArray} {σ : St}

set_option maxHeartbeats 1000000 in
set_option maxRecDepth 100000 in
theorem put_any (t : Bytes) (p : Nat) (ht : t.length ≤ 1048576) (_hp : p ≤ 32768) (x : Hold W w (Scn b s σ :: L)) (h : Ok s σ) :
    Calls Tryz.prog 129 #[.pointer (some ⟨b, 0, none⟩), str t, .int .i64 p] w (Post W L b s nothing (put σ t p)) := by
  obtain ⟨lv, ov, tp, tv, m, htp, x⟩ := Scn.out x
  obtain ⟨la, lc, rfl⟩ := Toks.slice x.f1
  have x := x.re [0, 3, 1, 2, 4]
  have hlies : liesAt Tryz.prog Tryz.prog.depth 116 (10 / Tryz.prog.cellsOf 116) 4 95 1 = true := by kernel_rfl
  have HX := Lib.hid x
  have htoks := h.toks
  have htext := h.text
  clear x h
  go_enter Tryz.func129, Tryz.ntmps129
  go_wp2_with fail
  refine (len_any (o := 4) HX.out rfl).mono ?_
  rintro e w1 ⟨rfl, rfl⟩
  by_cases hte : σ.text = []
  · have hd : ((σ.text.length : Int) == 0) = true := by rw [hte]; rfl
    have HT := Lib.hid hte
    have x6 := HX.out.set 6 (.int .i64 p)
    have hc6 : w.cell? ⟨b, 6, none⟩ = some (.int .i64 σ.beg) := HX.out.cell 6
    have hf6 := HX.out.free 6
    have hc2 : (w.setCell ⟨b, 6, none⟩ (.int .i64 p)).cell? ⟨b, 2, none⟩ = some (.slice la σ.toks.length lc) := x6.cell 2
    have X6 := Lib.hid x6
    clear hte x6
    have fin : ∀ u : Bytes, u.length ≤ 1048576 → Bat b 4 ((scnCells s σ (.slice la σ.toks.length lc) ov tp tv m).setIfInBounds 6 (.int .i64 p)) 116 tv := fun _ _ => ⟨htp.imp (congrArg some) (congrArg some), rfl, hlies⟩
    have FIN := Lib.hid fin
    clear fin
    cases t with
    | nil =>
      go_wp2_with fail
      refine (may_any _ _).mono ?_
      rintro e w1 ⟨⟨_, rfl⟩ | ⟨hl, rfl⟩, rfl⟩
      · go_wp2_with fail
        refine (writeString_any (o := 4) ⟨([] : Bytes).toArray⟩ X6.out (FIN.out [] ht) (by simp [ByteArray.size]; omega)).mono ?_
        rintro e w2 ⟨rfl, u, z⟩
        go_wp2_with fail
        go_end0
        unfold put; rw [if_pos HT.out, if_pos (.inl rfl)]
        refine ⟨rfl, Scn.mk (lv := .slice la σ.toks.length lc) (ov := ov) (tp := .pointer (some ⟨b, 4, none⟩)) (tv := u) (m := m) (.inr rfl) ?_⟩
        rw [HT.out] at z
        exact z.re [0, 2, 3, 1, 4]
      · cases hl
    | cons c t' =>
      go_wp2_with fail
      refine (may_any _ _).mono ?_
      rintro e w1 ⟨⟨hl, rfl⟩ | ⟨hl, rfl⟩, rfl⟩
      · have hl : σ.toks.length < 4096 := by simp at hl; omega
        go_wp2_with fail
        refine (writeString_any (o := 4) ⟨(c :: t').toArray⟩ X6.out (FIN.out _ ht) (by simp [ByteArray.size] at ht ⊢; omega)).mono ?_
        rintro e w2 ⟨rfl, u, z⟩
        go_wp2_with fail
        go_end0
        unfold put; rw [if_pos HT.out, if_pos (.inr hl)]
        refine ⟨rfl, Scn.mk (lv := .slice la σ.toks.length lc) (ov := ov) (tp := .pointer (some ⟨b, 4, none⟩)) (tv := u) (m := m) (.inr rfl) ?_⟩
        rw [HT.out] at z
        exact z.re [0, 2, 3, 1, 4]
      · have hl : ¬ σ.toks.length < 4096 := by simp at hl; omega
        go_wp2_with fail
        refine ⟨rfl, ?_⟩
        unfold put; rw [if_pos HT.out, if_neg (by simp; omega)]
        exact ⟨rfl, X6.out.drop.drop.drop.drop.drop⟩
  · have hd : ((σ.text.length : Int) == 0) = false := by simpa using hte
    have HT := Lib.hid hte
    clear hte
    go_wp2_with fail
    refine (writeString_any (o := 4) ⟨t.toArray⟩ HX.out ⟨htp.imp (congrArg some) (congrArg some), rfl, hlies⟩ (by simp [ByteArray.size]; omega)).mono ?_
    rintro e w2 ⟨rfl, u, z⟩
    go_wp2_with fail
    go_end0
    unfold put; rw [if_neg HT.out]
    refine ⟨rfl, Scn.mk (lv := .slice la σ.toks.length lc) (ov := ov) (tp := .pointer (some ⟨b, 4, none⟩)) (tv := u) (m := m) (.inr rfl) ?_⟩
    have z := z.re [0, 2, 3, 1, 4]
    exact z
/-- Blanks are passed. -/
def blanks (s : ByteArray) (σ : St) : Bool × St :=
  let p := s.size - (trimB (rest s σ)).length
  (decide (σ.pos < p), σ.to p)

set_option maxHeartbeats 1000000 in
set_option maxRecDepth 100000 in
theorem blanks_any (x : Hold W w (Scn b s σ :: L)) (h : Ok s σ) :
    Calls Tryz.prog 123 #[.pointer (some ⟨b, 0, none⟩)] w fun e w' => e = .returned (.bool (blanks s σ).1) ∧ Hold W w' (Scn b s (blanks s σ).2 :: L) := by
  have HO := Lib.hid x
  obtain ⟨lv, ov, tp, tv, m, htp, x⟩ := Scn.out x
  have hc0 : w.cell? ⟨b, 0, none⟩ = some (.string s) := x.cell 0
  have hc1 : w.cell? ⟨b, 1, none⟩ = some (.int .i64 σ.pos) := x.cell 1
  have h1 := h.size
  have h2 := h.pos
  have HH := Lib.hid h
  have HX := Lib.hid x
  have HP := Lib.hid htp
  have hle : (trimB (rest s σ)).length ≤ s.size := by
    unfold trimB Lib.trimLeftS rest
    refine Nat.le_trans (List.dropWhile_sublist _).length_le ?_
    simp
  have HLE := Lib.hid hle
  clear x h htp
  go_enter Tryz.func123, Tryz.ntmps123
  go_wp2_with fail
  go_region_held2 (fun w' => w'.cell? ⟨b, 0, none⟩ = some (.string s))
    (first | go_keep | exact k0 | (rw [World.cell?_setCell_other _ _ _ _ (by simp)]; exact k0))
    (first
      | (go_at_call 156
         refine (rest_any HO.out.drew HH.out).mono ?_
         rintro e w1 ⟨rfl, n, rfl⟩)
      | (go_at_call 161
         refine (trimLeft_any (rest s σ)).mono ?_
         rintro e w2 ⟨rfl, hb⟩
         have z := (HX.out.drewN _).below hb
         have k0 : w2.cell? ⟨b, 0, none⟩ = some (.string s) := z.cell 0
         have k1 : w2.cell? ⟨b, 1, none⟩ = some (.int .i64 σ.pos) := z.cell 1
         have kf := z.free 1
         have ZZ := Lib.hid z
         clear z hb))
  have hw : IntKind.i64.wrap ((s.size : Int) - ((trimB (rest s σ)).length : Int)) = ((s.size - (trimB (rest s σ)).length : Nat) : Int) := by
    have := HLE.out
    rw [IntWalk.i64_in _ (by omega)]; omega
  rw [hw]
  clear hw
  have hle2 : s.size - (trimB (rest s σ)).length ≤ 32768 := by omega
  go_wp2_with fail
  go_ret
  refine ⟨congrArg (fun q => Ending.returned (.bool q)) ?_, ?_⟩
  · simp [blanks]
  · exact Scn.mk (lv := lv) (ov := ov) (tp := tp) (tv := tv) (m := m) HP.out (ZZ.out.set 1 _)

/-- What stands ahead of a text is passed, and it. -/
def upto (s : ByteArray) (σ : St) (t : Bytes) : (Bytes × Bool) × St :=
  let c := Lib.cut (rest s σ) t
  ((c.1, c.2.2), if c.2.2 then σ.to (σ.pos + c.1.length + t.length) else σ)

theorem rest_length (s : ByteArray) (σ : St) : (rest s σ).length = s.size - σ.pos := by
  unfold rest; simp

theorem cut_length (l t : Bytes) (h : (Lib.cut l t).2.2 = true) : (Lib.cut l t).1.length + t.length ≤ l.length := by
  unfold Lib.cut at h ⊢
  by_cases hi : 0 ≤ Lib.index l t
  · have := Lib.index_room l t hi
    rw [if_pos hi]
    simp only [List.length_take]
    omega
  · rw [if_neg hi] at h; cases h

set_option maxHeartbeats 1000000 in
theorem until_any (g : Glob W) (x : Hold W w (Scn b s σ :: L)) (h : Ok s σ) (t : Bytes) :
    Calls Tryz.prog 128 #[.pointer (some ⟨b, 0, none⟩), str t] w
      fun e w' => e = .returned (.tuple #[str (upto s σ t).1.1, .bool (upto s σ t).1.2]) ∧ Hold W w' (Scn b s (upto s σ t).2 :: L) := by
  have HO := Lib.hid x
  have HH := Lib.hid h
  have h1 := h.size
  have h2 := h.pos
  have HG := Lib.hid g
  clear x h g
  go_enter Tryz.func128, Tryz.ntmps128
  go_wp2_with fail
  refine (rest_any HO.out HH.out).mono ?_
  rintro e w1 ⟨rfl, n, rfl⟩
  go_wp2_with fail
  refine (cut_any HG.out (HO.out.drewN n) (rest s σ) t (by rw [rest_length]; omega)).mono ?_
  rintro e w1 ⟨rfl, k, rfl⟩
  have x := HO.out.drewN (n + k)
  generalize hcut : Lib.cut (rest s σ) t = c
  have HC := Lib.hid hcut
  obtain ⟨c1, c2, c3⟩ := c
  cases c3
  · clear hcut x
    go_wp2_with fail
    go_ret2
    refine ⟨by simp [upto, HC.out], ?_⟩
    simp only [upto, HC.out]
    exact HO.out.drewN _
  · obtain ⟨lv, ov, tp, tv, m, htp, x⟩ := Scn.out x
    have hcl := cut_length (rest s σ) t (by rw [hcut])
    rw [hcut, rest_length] at hcl
    have hc1 : (w.drewN (n + k)).cell? ⟨b, 1, none⟩ = some (.int .i64 σ.pos) := x.cell 1
    have hf := x.free 1
    have HX := Lib.hid x
    have HP := Lib.hid htp
    have hcl' : σ.pos + c1.length + t.length ≤ 32768 := by simp at hcl; omega
    clear hcut x htp hcl
    go_wp2_with fail
    go_ret2
    refine ⟨by simp [upto, HC.out], ?_⟩
    simp only [upto, HC.out, if_true]
    refine Scn.mk (lv := lv) (ov := ov) (tp := tp) (tv := tv) (m := m) HP.out ?_
    have z := HX.out.set 1 (.int .i64 ((σ.pos : Int) + ((c1.length : Int) + (t.length : Int))))
    rw [show ((σ.pos : Int) + ((c1.length : Int) + (t.length : Int))) = ((σ.pos + c1.length + t.length : Nat) : Int) by push_cast; omega] at z ⊢
    exact z

theorem run_next {k : Nat} {t : ByteArray} {p : Nat} (x : Hold W w (Asn.pts k (.stringIter t p) :: L)) (h : p < t.size) :
    ∃ w', (∀ ty, (Instr.next (.pointer (some ⟨k, 0, none⟩)) true ty).run Tryz.prog w = .ok (.tuple #[.bool true, .int .i64 p, .int .i32 (Utf8.decode t p).1]) w') ∧
      Hold W w' (Asn.pts k (.stringIter t (p + (Utf8.decode t p).2)) :: L) := by
  refine ⟨_, fun ty => Lib.run_next_any_at w k t p ty x.block h, ?_⟩
  exact x.put rfl rfl rfl (by rw [Lib.iterAt_size]; exact Nat.le_refl _) (Lib.iterAt_heap w k t p _ x.block) fun j _ hj => Lib.iterAt_other w k j t _ hj

theorem run_over {k : Nat} {t : ByteArray} {p : Nat} (x : Hold W w (Asn.pts k (.stringIter t p) :: L)) (h : ¬ p < t.size) :
    ∀ ty, (Instr.next (.pointer (some ⟨k, 0, none⟩)) true ty).run Tryz.prog w = .ok (.tuple #[.bool false]) w :=
  fun ty => Lib.run_next_end_at w k t p ty x.block h

/-- How many bytes of a text are characters that go on in names, and colons. -/
def wordF (colons : Bool) : Nat → Bytes → Nat
  | 0, _ => 0
  | n + 1, l => if l = [] then 0 else if goesOn (Lib.decodeL l).1 || (colons && (((Lib.decodeL l).1 : Int) == 58)) then (Lib.decodeL l).2 + wordF colons n (l.drop (Lib.decodeL l).2) else 0
def wordN (colons : Bool) (l : Bytes) : Nat := wordF colons l.length l

theorem decode_list (l : Bytes) (p : Nat) : Utf8.decode ⟨l.toArray⟩ p = Lib.decodeL (l.drop p) := by
  have := Lib.decodeL_drop ⟨l.toArray⟩ p
  exact this.symm

theorem wordF_fuel (c : Bool) : ∀ (n m : Nat) (l : Bytes), l.length ≤ n → l.length ≤ m → wordF c n l = wordF c m l
  | 0, m, l, h, _ => by
    have : l = [] := List.eq_nil_of_length_eq_zero (by omega)
    subst this
    cases m <;> simp [wordF]
  | n + 1, 0, l, _, h => by
    have : l = [] := List.eq_nil_of_length_eq_zero (by omega)
    subst this
    simp [wordF]
  | n + 1, m + 1, l, h1, h2 => by
    unfold wordF
    by_cases hl : l = []
    · simp [hl]
    · have hw := Lib.decodeL_width l
      rw [if_neg hl, if_neg hl, wordF_fuel c n m (l.drop (Lib.decodeL l).2) (by simp; omega) (by simp; omega)]

theorem wordN_step (c : Bool) (l : Bytes) (hl : l ≠ []) : wordN c l = if goesOn (Lib.decodeL l).1 || (c && (((Lib.decodeL l).1 : Int) == 58)) then (Lib.decodeL l).2 + wordN c (l.drop (Lib.decodeL l).2) else 0 := by
  have hw := Lib.decodeL_width l
  have hp : l.length = (l.length - 1) + 1 := by have := List.length_pos_iff.2 hl; omega
  unfold wordN
  rw [hp]
  conv => lhs; unfold wordF
  rw [if_neg hl, wordF_fuel c (l.length - 1) _ (l.drop (Lib.decodeL l).2) (by simp; omega) (Nat.le_refl _)]

theorem wordN_nil (c : Bool) : wordN c [] = 0 := rfl

theorem wordN_le (c : Bool) : ∀ (n : Nat) (l : Bytes), l.length ≤ n → wordN c l ≤ l.length
  | 0, l, h => by
    have : l = [] := List.eq_nil_of_length_eq_zero (by omega)
    subst this; exact Nat.le_refl _
  | n + 1, l, h => by
    by_cases hl : l = []
    · subst hl; exact Nat.le_refl _
    · rw [wordN_step c l hl]
      have hw := Lib.decodeL_width l
      have hle := Lib.decodeL_le l hl
      split
      · have := wordN_le c n (l.drop (Lib.decodeL l).2) (by simp; omega)
        simp at this; omega
      · omega

/-- Characters of names are passed, and colons. -/
def word (s : ByteArray) (σ : St) (c : Bool) : Bytes × St :=
  let n := wordN c (rest s σ)
  ((rest s σ).take n, σ.to (σ.pos + n))

set_option maxHeartbeats 2000000 in
set_option maxRecDepth 100000 in
theorem word_any (g : Glob W) (c : Bool) (x : Hold W w (Scn b s σ :: L)) (h : Ok s σ) :
    Calls Tryz.prog 195 #[.pointer (some ⟨b, 0, none⟩), .bool c] w
      fun e w' => e = .returned (str (word s σ c).1) ∧ Hold W w' (Scn b s (word s σ c).2 :: L) := by
  have HO := Lib.hid x
  have HH := Lib.hid h
  have h1 := h.size
  have h2 := h.pos
  have HG := Lib.hid g
  obtain ⟨lv, ov, tp, tv, m, htp, y⟩ := Scn.out x
  have hc0 : w.cell? ⟨b, 0, none⟩ = some (.string s) := y.cell 0
  have hrl := rest_length s σ
  have HRL := Lib.hid hrl
  clear x h g y htp hrl
  go_enter Tryz.func195, Tryz.ntmps195
  go_wp2_with fail
  refine (rest_any HO.out HH.out).mono ?_
  rintro e w1 ⟨rfl, n, rfl⟩
  go_wp2_with fail
  go_loopg [5] (rest s σ).length (fun k v5 wr => ∃ p : Nat, v5 = .int .i64 s.size ∧ Hold W wr (Asn.pts w.heap.size (.stringIter ⟨(rest s σ).toArray⟩ p) :: Scn b s σ :: L) ∧ k + p = (rest s σ).length ∧
    Hid (wordN c (rest s σ) = p + wordN c ((rest s σ).drop p)))
  case atStart =>
    refine ⟨0, rfl, ?_, by simp, by show _ = _; simp⟩
    exact (HO.out.drewN n).allocAt rfl rfl
  case round =>
    obtain ⟨p, rfl, z, hk, HW⟩ := hrel
    have HZ := Lib.hid z
    have HK := Lib.hid hk
    by_cases hp : p < (rest s σ).length
    · obtain ⟨w2, hnx, z2⟩ := run_next z (by simpa [ByteArray.size] using hp)
      rw [decode_list] at hnx z2
      have hne : (rest s σ).drop p ≠ [] := by simp; omega
      have hst := Lib.hid (wordN_step c _ hne)
      have hw1 := Lib.decodeL_width ((rest s σ).drop p)
      have hle := Lib.decodeL_le _ hne
      have hdl := decode_le ⟨(rest s σ).toArray⟩ p
      rw [decode_list] at hdl
      rw [List.length_drop] at hle
      generalize hd : Lib.decodeL ((rest s σ).drop p) = d at *
      have HD := Lib.hid hd
      obtain ⟨r, wd⟩ := d
      have HZ2 := Lib.hid z2
      clear z z2 hd hk
      go_wp2_with fail
      refine (goesOn_any r w2 (by omega)).mono ?_
      rintro e w3 ⟨rfl, hb⟩
      have z3 := HZ2.out.below hb
      have HZ3 := Lib.hid z3
      have hmv : (rest s σ).drop (p + wd) = ((rest s σ).drop p).drop wd := by rw [List.drop_drop]
      have HMV := Lib.hid hmv
      clear hb z3 hmv
      cases hgo : goesOn r
      · by_cases hc : (c && ((r : Int) == 58)) = true
        · have HN : Hid (wordN c (rest s σ) = p + wd + wordN c ((rest s σ).drop (p + wd))) := by
            show _ = _
            rw [HW.out, hst.out, hgo, hc, HMV.out]; simp; omega
          obtain ⟨rfl, h58⟩ := Bool.and_eq_true_iff.1 hc
          clear hc
          go_wp2_with fail
          go_roundg (gk - wd)
          case measure => have := HK.out; omega
          case rel => exact ⟨p + wd, rfl, HZ3.out, by have := HK.out; omega, HN⟩
        · have HN : Hid (wordN c (rest s σ) = p) := by
            show _ = _
            rw [HW.out, hst.out, hgo, Bool.eq_false_iff.2 hc]; simp
          have hpl : p ≤ s.size - σ.pos := by have := HRL.out; omega
          cases c
          · clear hc
            obtain ⟨lv', ov', tp', tv', m', htp', y⟩ := Scn.out HZ3.out.drop
            have k0 : w3.cell? ⟨b, 0, none⟩ = some (.string s) := y.cell 0
            have k1 : w3.cell? ⟨b, 1, none⟩ = some (.int .i64 σ.pos) := y.cell 1
            have kf := y.free 1
            have HY := Lib.hid y
            have HTP := Lib.hid htp'
            clear y htp'
            go_wp2_with fail
            go_quiet (fail)
            go_wp2_with fail
            go_ret
            refine ⟨congrArg (fun q => Ending.returned (.string q)) ?_, ?_⟩
            · exact bytes_ext (by rw [extract_list]; simp only [word, rest]; congr 1; have a1 := HN.out; have a2 := HRL.out; unfold rest at a1 a2; omega)
            · have z := fun q => (HY.out.drewN q).set 1 (.int .i64 ((σ.pos : Int) + (p : Int)))
              have e : (((σ.pos : Int) + (p : Int)) : Int) = ((σ.pos + wordN false (rest s σ) : Nat) : Int) := by have := HN.out; have := HRL.out; omega
              rw [e] at z
              simp only [word]
              rw [e]
              exact Scn.mk (lv := lv') (ov := ov') (tp := tp') (tv := tv') (m := m') HTP.out (z _)
          · have h58 : ((r : Int) == 58) = false := by simpa using hc
            clear hc
            obtain ⟨lv', ov', tp', tv', m', htp', y⟩ := Scn.out HZ3.out.drop
            have k0 : w3.cell? ⟨b, 0, none⟩ = some (.string s) := y.cell 0
            have k1 : w3.cell? ⟨b, 1, none⟩ = some (.int .i64 σ.pos) := y.cell 1
            have kf := y.free 1
            have HY := Lib.hid y
            have HTP := Lib.hid htp'
            clear y htp'
            go_wp2_with fail
            go_quiet (fail)
            go_wp2_with fail
            go_ret
            refine ⟨congrArg (fun q => Ending.returned (.string q)) ?_, ?_⟩
            · exact bytes_ext (by rw [extract_list]; simp only [word, rest]; congr 1; have a1 := HN.out; have a2 := HRL.out; unfold rest at a1 a2; omega)
            · have z := fun q => (HY.out.drewN q).set 1 (.int .i64 ((σ.pos : Int) + (p : Int)))
              have e : (((σ.pos : Int) + (p : Int)) : Int) = ((σ.pos + wordN true (rest s σ) : Nat) : Int) := by have := HN.out; have := HRL.out; omega
              rw [e] at z
              simp only [word]
              rw [e]
              exact Scn.mk (lv := lv') (ov := ov') (tp := tp') (tv := tv') (m := m') HTP.out (z _)
      · have HN : Hid (wordN c (rest s σ) = p + wd + wordN c ((rest s σ).drop (p + wd))) := by
          show _ = _
          rw [HW.out, hst.out, hgo, HMV.out]; simp; omega
        go_wp2_with fail
        go_roundg (gk - wd)
        case measure => have := HK.out; omega
        case rel => exact ⟨p + wd, rfl, HZ3.out, by have := HK.out; omega, HN⟩
    · have hov := run_over z (by simpa [ByteArray.size] using hp)
      have HN : Hid (wordN c (rest s σ) = (rest s σ).length) := by
        show _ = _
        have : (rest s σ).drop p = [] := by simp; omega
        rw [HW.out, this, wordN_nil]; omega
      clear z hk
      obtain ⟨lv', ov', tp', tv', m', htp', y⟩ := Scn.out HZ.out.drop
      have k0 : wr.cell? ⟨b, 0, none⟩ = some (.string s) := y.cell 0
      have k1 : wr.cell? ⟨b, 1, none⟩ = some (.int .i64 σ.pos) := y.cell 1
      have kf := y.free 1
      have HY := Lib.hid y
      have HTP := Lib.hid htp'
      clear y htp'
      go_wp2_with fail
      go_quiet (fail)
      go_wp2_with fail
      go_ret
      refine ⟨congrArg (fun q => Ending.returned (.string q)) ?_, ?_⟩
      · exact bytes_ext (by rw [extract_list]; simp only [word, rest]; congr 1; have a1 := HN.out; have a2 := HRL.out; unfold rest at a1 a2; omega)
      · have z := fun q => (HY.out.drewN q).set 1 (.int .i64 (s.size : Int))
        have e : ((s.size : Int) : Int) = ((σ.pos + wordN c (rest s σ) : Nat) : Int) := by have := HN.out; have := HRL.out; omega
        rw [e] at z
        simp only [word]
        rw [e]
        exact Scn.mk (lv := lv') (ov := ov') (tp := tp') (tv := tv') (m := m') HTP.out (z _)

end
end Go.Proofs.YtahfcgjlcdbnjaaGreatDoor
