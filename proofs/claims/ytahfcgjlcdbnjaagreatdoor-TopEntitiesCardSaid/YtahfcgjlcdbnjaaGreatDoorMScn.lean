/- The scanner: its state as plain data, and where it lies in memory. -/
import Derived.Test.YtahfcgjlcdbnjaaGreatDoorMFlt
import Derived.Test.YtahfcgjlcdbnjaaGreatDoorMChr
import Derived.Test.YtahfcgjlcdbnjaaGreatDoorShelf
import Derived.Deep.RegionHeld3
import Derived.Deep.RegionLaw
namespace Go.Proofs.YtahfcgjlcdbnjaaGreatDoor
open Go.RowKit

abbrev Bytes := List UInt8
abbrev str (l : Bytes) : Value := .string ⟨l.toArray⟩

/-- A token of XML. -/
structure Tok where
  kind : Int
  name : Bytes
  attrs : List (Bytes × Bytes)
  text : Bytes
  deriving DecidableEq

/-- The scanner's state beside its text. -/
structure St where
  pos : Nat
  toks : List Tok
  opn : List Bytes
  text : Bytes
  beg : Nat
  ents : List (Bytes × Bytes)
  grown : Nat
  ended : Bool

def pairCells (p : Bytes × Bytes) : List Value := [str p.1, str p.2]
def Attrs (v : Value) (l : List (Bytes × Bytes)) : Asn := Row 45 2 v l.length (l.flatMap pairCells)
def tokCells (t : Tok) (av : Value) : List Value := [.int .i64 t.kind, str t.name, av, str t.text]
/-- Tokens in a row, with the rows of their attributes. -/
def Toks (v : Value) (l : List Tok) : Asn := Asn.ex fun avs : List Value =>
  Asn.star (Asn.pure (avs.length = l.length)) (Asn.star (Row 38 4 v l.length ((l.zip avs).flatMap fun p => tokCells p.1 p.2)) (Asn.all ((l.zip avs).map fun p => Attrs p.2 p.1.attrs)))
def Strs (v : Value) (l : List Bytes) : Asn := Row 9 1 v l.length (l.map str)
/-- A map of texts. -/
def Ents (m : Nat) (l : List (Bytes × Bytes)) : Asn := Asn.ex fun es : Array MapEntry => Asn.ex fun clock : Nat =>
  Asn.star (Asn.pure (es.toList.map (fun e => (e.key, e.val)) = l.map fun p => (str p.1, str p.2))) (Asn.pts m (.map es clock))

abbrev scnCells (s : ByteArray) (σ : St) (lv ov tp tv : Value) (m : Nat) : Array Value :=
  #[.string s, .int .i64 σ.pos, lv, ov, tp, tv, .int .i64 σ.beg, .map (some m), .int .i64 σ.grown, .bool σ.ended]

/-- The scanner of the text s in block b. -/
def Scn (b : Nat) (s : ByteArray) (σ : St) : Asn := Asn.ex fun lv => Asn.ex fun ov => Asn.ex fun tp => Asn.ex fun tv => Asn.ex fun m =>
  Asn.star (Asn.pure (tp = .pointer none ∨ tp = .pointer (some ⟨b, 4, none⟩)))
    (Asn.all [Asn.pts b (.cells (scnCells s σ lv ov tp tv m) 116 (0, 0)), Toks lv σ.toks, Strs ov σ.opn, Buf tv σ.text, Ents m σ.ents])

section
variable {W w : World} {L : List Asn} {b : Nat} {s : ByteArray} {σ : St}

theorem Scn.out (x : Hold W w (Scn b s σ :: L)) : ∃ lv ov tp tv m, (tp = .pointer none ∨ tp = .pointer (some ⟨b, 4, none⟩)) ∧
    Hold W w (Asn.pts b (.cells (scnCells s σ lv ov tp tv m) 116 (0, 0)) :: Toks lv σ.toks :: Strs ov σ.opn :: Buf tv σ.text :: Ents m σ.ents :: L) := by
  obtain ⟨lv, x⟩ := x.ex
  obtain ⟨ov, x⟩ := x.ex
  obtain ⟨tp, x⟩ := x.ex
  obtain ⟨tv, x⟩ := x.ex
  obtain ⟨m, x⟩ := x.ex
  obtain ⟨hp, x⟩ := x.sep.pure
  exact ⟨lv, ov, tp, tv, m, hp, x.spill⟩

theorem Scn.mk {lv ov tp tv : Value} {m : Nat} (hp : tp = .pointer none ∨ tp = .pointer (some ⟨b, 4, none⟩))
    (x : Hold W w (Asn.pts b (.cells (scnCells s σ lv ov tp tv m) 116 (0, 0)) :: Toks lv σ.toks :: Strs ov σ.opn :: Buf tv σ.text :: Ents m σ.ents :: L)) :
    Hold W w (Scn b s σ :: L) :=
  Hold.ex' lv (Hold.ex' ov (Hold.ex' tp (Hold.ex' tv (Hold.ex' m (Hold.sep' (Hold.pure' hp (Hold.soak (As := [Asn.pts b (.cells (scnCells s σ lv ov tp tv m) 116 (0, 0)), Toks lv σ.toks, Strs ov σ.opn, Buf tv σ.text, Ents m σ.ents]) x)))))))

theorem Toks.out {v : Value} {l : List Tok} (x : Hold W w (Toks v l :: L)) : ∃ avs : List Value, avs.length = l.length ∧
    Hold W w (Row 38 4 v l.length ((l.zip avs).flatMap fun p => tokCells p.1 p.2) :: Asn.all ((l.zip avs).map fun p => Attrs p.2 p.1.attrs) :: L) := by
  obtain ⟨avs, x⟩ := x.ex
  obtain ⟨h, x⟩ := x.sep.pure
  exact ⟨avs, h, x.sep⟩
theorem Toks.mk {v : Value} {l : List Tok} {avs : List Value} (h : avs.length = l.length)
    (x : Hold W w (Row 38 4 v l.length ((l.zip avs).flatMap fun p => tokCells p.1 p.2) :: Asn.all ((l.zip avs).map fun p => Attrs p.2 p.1.attrs) :: L)) : Hold W w (Toks v l :: L) :=
  Hold.ex' avs (Hold.sep' (Hold.pure' h (Hold.sep' x)))

theorem Toks.snoc {v : Value} {l : List Tok} {avs : List Value} {t : Tok} {av : Value} (h : avs.length = l.length)
    (x : Hold W w (Row 38 4 v (l.length + 1) (((l.zip avs).flatMap fun p => tokCells p.1 p.2) ++ tokCells t av) :: Asn.all ((l.zip avs).map fun p => Attrs p.2 p.1.attrs) :: Attrs av t.attrs :: L)) :
    Hold W w (Toks v (l ++ [t]) :: L) := by
  refine Toks.mk (avs := avs ++ [av]) (by simp [h]) ?_
  have hz : (l ++ [t]).zip (avs ++ [av]) = l.zip avs ++ [(t, av)] := by rw [List.zip_append h.symm]; rfl
  rw [hz, List.flatMap_append, List.map_append, List.length_append]
  have z := (x.re [1, 2, 0]).gulp.f1
  simpa using z

theorem Toks.slice {v : Value} {l : List Tok} (x : Hold W w (Toks v l :: L)) : ∃ a c, v = .slice a l.length c := by
  obtain ⟨avs, h, y⟩ := Toks.out x
  exact Row.slice y

theorem Ents.out {m : Nat} {l : List (Bytes × Bytes)} (x : Hold W w (Ents m l :: L)) : ∃ es clock, es.toList.map (fun e => (e.key, e.val)) = l.map (fun p => (str p.1, str p.2)) ∧
    Hold W w (Asn.pts m (.map es clock) :: L) := by
  obtain ⟨es, x⟩ := x.ex
  obtain ⟨c, x⟩ := x.ex
  obtain ⟨h, x⟩ := x.sep.pure
  exact ⟨es, c, h, x⟩
theorem Ents.mk {m : Nat} {l : List (Bytes × Bytes)} {es : Array MapEntry} {c : Nat} (h : es.toList.map (fun e => (e.key, e.val)) = l.map (fun p => (str p.1, str p.2)))
    (x : Hold W w (Asn.pts m (.map es c) :: L)) : Hold W w (Ents m l :: L) :=
  Hold.ex' es (Hold.ex' c (Hold.sep' (Hold.pure' h x)))
end

/-- What stays in bounds. -/
structure Ok (s : ByteArray) (σ : St) : Prop where
  size : s.size ≤ 32768
  pos : σ.pos ≤ s.size
  toks : σ.toks.length ≤ 4096
  opn : σ.opn.length ≤ 32
  text : σ.text.length ≤ 1048576
  beg : σ.beg ≤ s.size
  grown : σ.grown ≤ 32768

/-- What is left. -/
def rest (s : ByteArray) (σ : St) : Bytes := s.data.toList.drop σ.pos
def has (s : ByteArray) (σ : St) (t : Bytes) : Bool := Lib.hasPrefix (rest s σ) t
def St.to (σ : St) (p : Nat) : St := { σ with pos := p }

theorem extract_list (s : ByteArray) (i j : Nat) : (s.extract i j).data.toList = (s.data.toList.drop i).take (j - i) := by
  simp [ByteArray.data_extract]
theorem extract_end (s : ByteArray) (i : Nat) : (s.extract i s.size).data.toList = s.data.toList.drop i := by
  rw [extract_list]; exact List.take_of_length_le (by simp)

theorem bytes_ext {s t : ByteArray} (h : s.data.toList = t.data.toList) : s = t := ByteArray.ext (Array.ext' h)
theorem extract_str (s : ByteArray) (i : Nat) : s.extract i s.size = ⟨(s.data.toList.drop i).toArray⟩ := bytes_ext (by rw [extract_end])
theorem bytes_str (s : ByteArray) : s = ⟨s.data.toList.toArray⟩ := bytes_ext rfl

section
variable {W w : World} {L : List Asn} {b : Nat} {s : ByteArray} {σ : St}

set_option maxHeartbeats 400000 in
theorem rest_any (x : Hold W w (Scn b s σ :: L)) (h : Ok s σ) :
    Calls Tryz.prog 156 #[.pointer (some ⟨b, 0, none⟩)] w fun e w' => e = .returned (str (rest s σ)) ∧ ∃ n, w' = w.drewN n := by
  obtain ⟨lv, ov, tp, tv, m, hp, x⟩ := Scn.out x
  have hc0 := x.cell 0
  have hc1 := x.cell 1
  have h1 := h.size
  have h2 := h.pos
  clear hp x h
  simp only [scnCells] at hc0 hc1
  go_enter Tryz.func156, Tryz.ntmps156
  go_wp2
  go_quiet (fail)
  go_wp2
  go_ret
  exact ⟨congrArg (fun t => Ending.returned (.string t)) (extract_str s σ.pos), _, rfl⟩

set_option maxHeartbeats 400000 in
theorem has_any (x : Hold W w (Scn b s σ :: L)) (h : Ok s σ) (t : Bytes) :
    Calls Tryz.prog 119 #[.pointer (some ⟨b, 0, none⟩), str t] w fun e w' => e = .returned (.bool (has s σ t)) ∧ ∃ n, w' = w.drewN n := by
  go_enter Tryz.func119, Tryz.ntmps119
  go_wp2_with fail
  refine (rest_any x h).mono ?_
  rintro e w1 ⟨rfl, n, rfl⟩
  go_wp2_with fail
  refine (Tryz.strings_HasPrefix _ _ _).mono ?_
  rintro e w1 ⟨rfl, rfl⟩
  go_wp2_with fail
  go_ret
  exact ⟨rfl, _, rfl⟩

def eat (s : ByteArray) (σ : St) (t : Bytes) : Bool × St := if has s σ t then (true, σ.to (σ.pos + t.length)) else (false, σ)

set_option maxHeartbeats 400000 in
theorem eat_any (x : Hold W w (Scn b s σ :: L)) (h : Ok s σ) (t : Bytes) (ht : t.length ≤ 32768) :
    Calls Tryz.prog 124 #[.pointer (some ⟨b, 0, none⟩), str t] w fun e w' => e = .returned (.bool (eat s σ t).1) ∧ Hold W w' (Scn b s (eat s σ t).2 :: L) := by
  have HX := Lib.hid x
  go_enter Tryz.func124, Tryz.ntmps124
  go_wp2_with fail
  refine (has_any x h t).mono ?_
  rintro e w1 ⟨rfl, n, rfl⟩
  by_cases hh : has s σ t = true
  · rw [hh]
    have x := HX.out.drewN n
    obtain ⟨lv, ov, tp, tv, m, hp, x⟩ := Scn.out x
    have hc1 := x.cell 1
    have hf := x.free 1
    have h1 := h.size
    have h2 := h.pos
    simp only [scnCells] at hc1
    have HP := Lib.hid hp
    have HH := Lib.hid hh
    have y := Lib.hid (x.set 1 (.int .i64 (σ.pos + t.length)))
    clear hp h x hh
    go_wp2_with fail
    go_ret
    refine ⟨by simp [eat, HH.out], ?_⟩
    have y := y.out
    simp only [eat, HH.out, if_true]
    refine Scn.mk (tp := tp) (tv := tv) (lv := lv) (ov := ov) (m := m) HP.out ?_
    simpa [St.to, scnCells] using y
  · have hh : has s σ t = false := by simpa using hh
    rw [hh]
    have HH := Lib.hid hh
    clear hh x h
    go_wp2_with fail
    go_ret
    exact ⟨by simp [eat, HH.out], by simpa [eat, HH.out] using HX.out.drewN n⟩

/-- What a fault bears. -/
def fault (en p : Int) : List PanicEntry := [{ v := .iface 153 (.agg #[.int .i64 en, .int .i64 p]), recovered := false }]

set_option maxHeartbeats 400000 in
theorem must_yes (p : Int) : Calls Tryz.prog 99 #[.bool true, .int .i64 p] w fun e w' => e = .returned (.tuple #[]) ∧ w = w' := by
  go_enter Tryz.func99, Tryz.ntmps99
  go_wp2
  go_end0
  exact ⟨rfl, rfl⟩
set_option maxHeartbeats 400000 in
theorem must_no (p : Int) : Calls Tryz.prog 99 #[.bool false, .int .i64 p] w fun e w' => e = .panicked (fault 5 p) ∧ w = w' := by
  go_enter Tryz.func99, Tryz.ntmps99
  go_wp2
  exact ⟨rfl, rfl, rfl⟩
set_option maxHeartbeats 400000 in
theorem may_yes (p : Int) : Calls Tryz.prog 167 #[.bool true, .int .i64 p] w fun e w' => e = .returned (.tuple #[]) ∧ w = w' := by
  go_enter Tryz.func167, Tryz.ntmps167
  go_wp2
  go_end0
  exact ⟨rfl, rfl⟩
set_option maxHeartbeats 400000 in
theorem may_no (p : Int) : Calls Tryz.prog 167 #[.bool false, .int .i64 p] w fun e w' => e = .panicked (fault 6 p) ∧ w = w' := by
  go_enter Tryz.func167, Tryz.ntmps167
  go_wp2
  exact ⟨rfl, rfl, rfl⟩
theorem must_any (ok : Bool) (p : Int) : Calls Tryz.prog 99 #[.bool ok, .int .i64 p] w fun e w' => (ok = true ∧ e = .returned (.tuple #[]) ∨ ok = false ∧ e = .panicked (fault 5 p)) ∧ w = w' := by
  cases ok
  · exact (must_no p).mono fun _ _ h => ⟨.inr ⟨rfl, h.1⟩, h.2⟩
  · exact (must_yes p).mono fun _ _ h => ⟨.inl ⟨rfl, h.1⟩, h.2⟩
theorem may_any (ok : Bool) (p : Int) : Calls Tryz.prog 167 #[.bool ok, .int .i64 p] w fun e w' => (ok = true ∧ e = .returned (.tuple #[]) ∨ ok = false ∧ e = .panicked (fault 6 p)) ∧ w = w' := by
  cases ok
  · exact (may_no p).mono fun _ _ h => ⟨.inr ⟨rfl, h.1⟩, h.2⟩
  · exact (may_yes p).mono fun _ _ h => ⟨.inl ⟨rfl, h.1⟩, h.2⟩
end

/-- An answer, or a fault: its number and place. -/
abbrev M (α : Type) := Except (Int × Int) (α × St)

/-- How a call ends that answers r: it returns, and the scanner stands so; or it gives up. -/
def Post {α : Type} (W : World) (L : List Asn) (b : Nat) (s : ByteArray) (enc : α → Value) : M α → Ending → World → Prop
  | .ok (a, σ), e, w' => e = .returned (enc a) ∧ Hold W w' (Scn b s σ :: L)
  | .error (en, p), e, w' => e = .panicked (fault en p) ∧ Hold W w' L

abbrev nothing : Unit → Value := fun _ => .tuple #[]

/-- A token is added. -/
def add (σ : St) (t : Tok) (p : Int) : M Unit := if σ.toks.length < 4096 then .ok ((), { σ with toks := σ.toks ++ [t] }) else .error (6, p)

theorem infoTok : (Tryz.prog.info? 38).map (fun i => (i.zero, i.size, i.bytes)) = some (some (.agg #[.int .i64 0, .string ⟨#[]⟩, .slice none 0 0, .string ⟨#[]⟩]), 4, 64) := by kernel_rfl
theorem undToks : Tryz.prog.underlying 34 = some (.slice 38) := by kernel_rfl

section
variable {W w : World} {L : List Asn} {b : Nat} {s : ByteArray} {σ : St}

set_option maxHeartbeats 1000000 in
set_option maxRecDepth 100000 in
theorem add_raw (t : Tok) (av lv : Value) (cs : Array Value) (l : List Tok) (p : Int) (hcs : cs[2]? = some lv) (x : Hold W w (Asn.pts b (.cells cs 116 (0, 0)) :: Toks lv l :: Attrs av t.attrs :: L)) (hl4 : l.length ≤ 4096) :
    Calls Tryz.prog 164 #[.pointer (some ⟨b, 0, none⟩), .agg #[.int .i64 t.kind, str t.name, av, str t.text], .int .i64 p] w
      fun e w' => (l.length < 4096 ∧ e = .returned (.tuple #[]) ∧ ∃ lv', Hold W w' (Asn.pts b (.cells (cs.setIfInBounds 2 lv') 116 (0, 0)) :: Toks lv' (l ++ [t]) :: L)) ∨
        (¬ l.length < 4096 ∧ e = .panicked (fault 6 p) ∧ Hold W w' L) := by
  have HO := Lib.hid x
  obtain ⟨aa, ac, rfl⟩ := Row.slice (x.re [2, 0, 1])
  obtain ⟨avs, hav, x⟩ := Toks.out x.f1
  obtain ⟨la, lc, rfl⟩ := Row.slice x
  have x := x.alloc (.cells #[.int .i64 t.kind, str t.name, .slice aa t.attrs.length ac, str t.text] 38)
  have hb0 := (x.f3.cell 2).trans hcs
  have hf2 := x.f3.free 2
  have hc2 : (w.alloc (.cells #[.int .i64 t.kind, str t.name, .slice aa t.attrs.length ac, str t.text] 38)).cell? ⟨b, 2, none⟩ = some (.slice la l.length lc) := hb0
  have HA := Lib.hid (show Hold W ((w.alloc (.cells #[.int .i64 t.kind, str t.name, .slice aa t.attrs.length ac, str t.text] 38)).alloc (.cells #[.int .i64 t.kind, str t.name, .slice aa t.attrs.length ac, str t.text] 38)).drew _ from
    ((x.allocAt (o := .cells #[.int .i64 t.kind, str t.name, .slice aa t.attrs.length ac, str t.text] 38) (b := w.heap.size + 1) rfl (by simp)).drew))
  have hc2b : ((w.alloc (.cells #[.int .i64 t.kind, str t.name, .slice aa t.attrs.length ac, str t.text] 38)).alloc (.cells #[.int .i64 t.kind, str t.name, .slice aa t.attrs.length ac, str t.text] 38)).drew.cell? ⟨b, 2, none⟩ = some (.slice la l.length lc) := (HA.out.f4.cell 2).trans hcs
  have HCS := Lib.hid hcs
  have HV := Lib.hid hav
  obtain ⟨i0, hi, hz0, hz1, hz2⟩ := info_parts infoTok
  clear x hb0 hav hcs
  go_enter Tryz.func164, Tryz.ntmps164
  go_wp2_with fail
  refine (may_any _ _).mono ?_
  rintro e w1 ⟨⟨hl, rfl⟩ | ⟨hl, rfl⟩, rfl⟩
  · have hl : l.length < 4096 := by have := of_decide_eq_true hl; omega
    go_wp2_with fail
    go_region_law
      ((refine step_append (by rfl) _ _ 34 (by rfl) i0 _ 64 undToks hi hz0 hz1 hz2 rfl (by decide) (by rfl) HA.out.f2 ⟨w.heap.size + 1, 0, none⟩ 1 1 [.int .i64 t.kind, str t.name, .slice aa t.attrs.length ac, str t.text] (by rfl) (by rfl) (news_of HA.out) (by simp [Value.oneCell']) (by unfold maxLen; omega) (by omega) ?_
        intro ua uc w2 z
        have hf2' := z.f4.free 2
        have k1 : w2.cell? ⟨b, 2, none⟩ = some (.slice la l.length lc) := (z.f4.cell 2).trans HCS.out
        have ZZ := Lib.hid z
        clear z))
    all_goals
      go_wp2_with fail
      go_end0
      refine .inl ⟨hl, rfl, .slice ua (l.length + 1) uc, ?_⟩
      have z := ZZ.out.f1.drop.f1.drop
      have z := Toks.snoc HV.out (z.re [0, 1, 3, 2])
      exact (z.f1.set 2 (.slice ua (l.length + 1) uc))
  · have hl : ¬ l.length < 4096 := by have := of_decide_eq_false hl; omega
    go_wp2_with fail
    exact ⟨rfl, .inr ⟨hl, rfl, HO.out.drop.drop.drop.alloc _ |>.drop⟩⟩

theorem add_ok (t : Tok) (av lv : Value) (cs : Array Value) (l : List Tok) (p : Int) (hcs : cs[2]? = some lv) (x : Hold W w (Asn.pts b (.cells cs 116 (0, 0)) :: Toks lv l :: Attrs av t.attrs :: L)) (hl : l.length < 4096) :
    Calls Tryz.prog 164 #[.pointer (some ⟨b, 0, none⟩), .agg #[.int .i64 t.kind, str t.name, av, str t.text], .int .i64 p] w
      fun e w' => e = .returned (.tuple #[]) ∧ ∃ lv', Hold W w' (Asn.pts b (.cells (cs.setIfInBounds 2 lv') 116 (0, 0)) :: Toks lv' (l ++ [t]) :: L) := by
  refine (add_raw t av lv cs l p hcs x (by omega)).mono ?_
  rintro e w' (⟨_, h⟩ | ⟨h1, _⟩)
  · exact h
  · exact absurd hl h1

theorem add_no (t : Tok) (av lv : Value) (cs : Array Value) (l : List Tok) (p : Int) (hcs : cs[2]? = some lv) (x : Hold W w (Asn.pts b (.cells cs 116 (0, 0)) :: Toks lv l :: Attrs av t.attrs :: L)) (hl4 : l.length ≤ 4096) (hl : ¬ l.length < 4096) :
    Calls Tryz.prog 164 #[.pointer (some ⟨b, 0, none⟩), .agg #[.int .i64 t.kind, str t.name, av, str t.text], .int .i64 p] w
      fun e w' => e = .panicked (fault 6 p) ∧ Hold W w' L := by
  refine (add_raw t av lv cs l p hcs x hl4).mono ?_
  rintro e w' (⟨h1, _⟩ | ⟨_, h⟩)
  · exact absurd h1 hl
  · exact h

theorem add_any (t : Tok) (av : Value) (p : Int) (x : Hold W w (Scn b s σ :: Attrs av t.attrs :: L)) (h : Ok s σ) :
    Calls Tryz.prog 164 #[.pointer (some ⟨b, 0, none⟩), .agg #[.int .i64 t.kind, str t.name, av, str t.text], .int .i64 p] w
      (Post W L b s nothing (add σ t p)) := by
  obtain ⟨lv, ov, tp, tv, m, hp, x⟩ := Scn.out x
  refine (add_raw t av lv _ σ.toks p rfl (x.re [0, 1, 5, 2, 3, 4]) h.toks).mono ?_
  rintro e w' (⟨h1, rfl, lv', z⟩ | ⟨h1, rfl, z⟩)
  · unfold add; rw [if_pos h1]
    exact ⟨rfl, Scn.mk (tp := tp) (tv := tv) (lv := lv') (ov := ov) (m := m) hp z⟩
  · unfold add; rw [if_neg h1]
    exact ⟨rfl, z.drop.drop.drop⟩

/-- The text so far is a token. -/
def flush (σ : St) : M Unit :=
  if σ.text = [] then .ok ((), σ)
  else match add σ ⟨4, [], [], σ.text⟩ σ.beg with
    | .ok (_, σ') => .ok ((), { σ' with text := [] })
    | .error e => .error e

set_option maxHeartbeats 1000000 in
set_option maxRecDepth 100000 in
theorem flush_any (x : Hold W w (Scn b s σ :: L)) (h : Ok s σ) :
    Calls Tryz.prog 163 #[.pointer (some ⟨b, 0, none⟩)] w (Post W L b s nothing (flush σ)) := by
  have HO := Lib.hid x
  obtain ⟨lv, ov, tp, tv, m, hp, x⟩ := Scn.out x
  have x := x.re [0, 3, 1, 2, 4]
  have HX := Lib.hid x
  have HP := Lib.hid hp
  have htoks := h.toks
  have hbeg : (σ.beg : Int) ≤ 32768 := by have := h.beg; have := h.size; omega
  have htext := h.text
  have hc6 : w.drew.cell? ⟨b, 6, none⟩ = some (.int .i64 σ.beg) := x.drew.cell 6
  have hc6' : w.cell? ⟨b, 6, none⟩ = some (.int .i64 σ.beg) := x.cell 6
  clear x hp h
  go_enter Tryz.func163, Tryz.ntmps163
  go_wp2_with fail
  refine (len_any (o := 4) HX.out rfl).mono ?_
  rintro e w1 ⟨rfl, rfl⟩
  by_cases ht : σ.text = []
  · have hd : decide (0 < σ.text.length) = false := by rw [ht]; rfl
    have HF : Hid (flush σ = .ok ((), σ)) := by unfold flush; rw [if_pos ht]; rfl
    clear ht
    go_wp2_with fail
    go_end0
    rw [HF.out]
    exact ⟨rfl, HO.out⟩
  · have hd : 0 < σ.text.length := List.length_pos_iff.2 ht
    have HT := Lib.hid ht
    clear ht
    go_wp2_with fail
    by_cases hl : σ.toks.length < 4096
    · have HF : Hid (flush σ = .ok ((), { σ with text := [], toks := σ.toks ++ [⟨4, [], [], σ.text⟩] })) := by
        unfold flush add; rw [if_neg HT.out, if_pos hl]; rfl
      go_region_held3 (fun w' => w'.cell? ⟨b, 6, none⟩ = some (.int .i64 σ.beg))
        (first | go_keep | exact k1)
        (first
          | (go_at_call 51
             refine (string_any (o := 4) HX.out.drew rfl).mono ?_
             rintro e w2 ⟨rfl, z⟩
             have k1 : w2.cell? ⟨b, 6, none⟩ = some (.int .i64 σ.beg) := z.cell 6
             have Z1 := Lib.hid (Row.nil (e := 45) (size := 2) z.f1)
             clear z)
          | (go_at_call 164
             refine (add_ok ⟨4, [], [], σ.text⟩ (.slice none 0 0) lv _ σ.toks σ.beg rfl (Z1.out.re [2, 1, 0]) hl).mono ?_
             rintro e w3 ⟨rfl, lv', z⟩
             have k1 : w3.cell? ⟨b, 6, none⟩ = some (.int .i64 σ.beg) := z.cell 6
             have Z2 := Lib.hid z
             clear z))
      go_wp2_with fail
      refine (reset_any (o := 4) Z2.out (by simp)).mono ?_
      rintro e w4 ⟨rfl, z⟩
      go_wp2_with fail
      go_end0
      rw [HF.out]
      refine ⟨rfl, Scn.mk (lv := lv') (ov := ov) (tp := .pointer none) (tv := .slice none 0 0) (m := m) (.inl rfl) ?_⟩
      have z := Row.nil (e := 5) (size := 1) z
      exact z.re [1, 2, 3, 0, 4]
    · have HF : Hid (flush σ = .error (6, σ.beg)) := by
        unfold flush add; rw [if_neg HT.out, if_neg hl]; rfl
      go_region_held2 (fun w' => w'.cell? ⟨b, 6, none⟩ = some (.int .i64 σ.beg))
        (first | exact hF.elim | go_keep | exact k1)
        (first
          | (go_at_call 51
             refine (string_any (o := 4) HX.out.drew rfl).mono ?_
             rintro e w2 ⟨rfl, z⟩
             have k1 : w2.cell? ⟨b, 6, none⟩ = some (.int .i64 σ.beg) := z.cell 6
             have Z1 := Lib.hid (Row.nil (e := 45) (size := 2) z.f1)
             clear z)
          | (go_at_call 164
             refine (add_no ⟨4, [], [], σ.text⟩ (.slice none 0 0) lv _ σ.toks σ.beg rfl (Z1.out.re [2, 1, 0]) htoks hl).mono ?_
             rintro e w3 ⟨rfl, z⟩
             refine dead ‹Shut _› ⟨rfl, by rw [HF.out]; exact ⟨rfl, z.drop.drop⟩⟩ (fun hF => ?_)))
      exact hF.elim
end
end Go.Proofs.YtahfcgjlcdbnjaaGreatDoor

