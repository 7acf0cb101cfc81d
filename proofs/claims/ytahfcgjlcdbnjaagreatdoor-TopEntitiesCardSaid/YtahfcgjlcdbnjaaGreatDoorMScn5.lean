/- The scanner's methods on comments, quoted texts and fields. -/
import Derived.Test.YtahfcgjlcdbnjaaGreatDoorMScn3
namespace Go.Proofs.YtahfcgjlcdbnjaaGreatDoor
open Go.RowKit

section
variable {W w : World} {L : List Asn} {b : Nat} {s : ByteArray} {σ : St}

theorem Scn.strCell (x : Hold W w (Scn b s σ :: L)) : w.cell? ⟨b, 0, none⟩ = some (.string s) := by
  obtain ⟨lv, ov, tp, tv, m, htp, y⟩ := Scn.out x
  exact y.cell 0
theorem Scn.posCell (x : Hold W w (Scn b s σ :: L)) : w.cell? ⟨b, 1, none⟩ = some (.int .i64 σ.pos) := by
  obtain ⟨lv, ov, tp, tv, m, htp, y⟩ := Scn.out x
  exact y.cell 1
theorem Scn.endCell (x : Hold W w (Scn b s σ :: L)) : w.cell? ⟨b, 9, none⟩ = some (.bool σ.ended) := by
  obtain ⟨lv, ov, tp, tv, m, htp, y⟩ := Scn.out x
  exact y.cell 9
theorem Scn.opnCell (x : Hold W w (Scn b s σ :: L)) : ∃ a c, w.cell? ⟨b, 3, none⟩ = some (.slice a σ.opn.length c) := by
  obtain ⟨lv, ov, tp, tv, m, htp, y⟩ := Scn.out x
  obtain ⟨a, c, rfl⟩ := Row.slice y.f2
  exact ⟨a, c, y.cell 3⟩
theorem Scn.free (x : Hold W w (Scn b s σ :: L)) (i : Nat) : w.frozen? ⟨b, i, none⟩ = false := by
  obtain ⟨lv, ov, tp, tv, m, htp, y⟩ := Scn.out x
  exact y.free i
theorem Scn.move (x : Hold W w (Scn b s σ :: L)) (p : Nat) (q : Int) (h : q = p) : Hold W (w.setCell ⟨b, 1, none⟩ (.int .i64 q)) (Scn b s (σ.to p) :: L) := by
  subst h
  obtain ⟨lv, ov, tp, tv, m, htp, y⟩ := Scn.out x
  exact Scn.mk (lv := lv) (ov := ov) (tp := tp) (tv := tv) (m := m) htp (y.set 1 _)
theorem Scn.setEnd (x : Hold W w (Scn b s σ :: L)) (q : Bool) : Hold W (w.setCell ⟨b, 9, none⟩ (.bool q)) (Scn b s { σ with ended := q } :: L) := by
  obtain ⟨lv, ov, tp, tv, m, htp, y⟩ := Scn.out x
  exact Scn.mk (lv := lv) (ov := ov) (tp := tp) (tv := tv) (m := m) htp (y.set 9 _)

theorem add_parts {t : Tok} {p : Int} {σ' : St} (h : add σ t p = .ok ((), σ')) : σ.toks.length < 4096 ∧ σ' = { σ with toks := σ.toks ++ [t] } := by
  unfold add at h
  split at h
  · rename_i hl; exact ⟨hl, by cases h; rfl⟩
  · cases h
theorem Ok.add (h : Ok s σ) {t : Tok} {p : Int} {σ' : St} (ha : add σ t p = .ok ((), σ')) : Ok s σ' := by
  obtain ⟨hl, rfl⟩ := add_parts ha
  exact ⟨h.size, h.pos, by simp; omega, h.opn, h.text, h.beg, h.grown⟩
theorem flush_parts {σ' : St} (h : flush σ = .ok ((), σ')) : (σ.text = [] ∧ σ' = σ) ∨ (σ.text ≠ [] ∧ σ.toks.length < 4096 ∧ σ' = { σ with text := [], toks := σ.toks ++ [⟨4, [], [], σ.text⟩] }) := by
  unfold flush at h
  split at h
  · rename_i ht; exact .inl ⟨ht, by cases h; rfl⟩
  · rename_i ht
    cases ha : Go.Proofs.YtahfcgjlcdbnjaaGreatDoor.add σ ⟨4, [], [], σ.text⟩ σ.beg with
    | error x => rw [ha] at h; cases h
    | ok r =>
      obtain ⟨_, σ1⟩ := r
      rw [ha] at h
      obtain ⟨hl, rfl⟩ := add_parts ha
      exact .inr ⟨ht, hl, by cases h; rfl⟩
theorem Ok.flush (h : Ok s σ) {σ' : St} (hf : flush σ = .ok ((), σ')) : Ok s σ' := by
  rcases flush_parts hf with ⟨_, rfl⟩ | ⟨_, hl, rfl⟩
  · exact h
  · exact ⟨h.size, h.pos, by simp; omega, h.opn, by simp, h.beg, h.grown⟩

/-- The text so far and a token behind it. -/
def flushAdd (σ : St) (t : Tok) (p : Int) : M Unit := match flush σ with | .error e => .error e | .ok (_, σ') => add σ' t p

theorem Ok.flushAdd (h : Ok s σ) {t : Tok} {p : Int} {σ' : St} (hf : flushAdd σ t p = .ok ((), σ')) : Ok s σ' := by
  unfold Go.Proofs.YtahfcgjlcdbnjaaGreatDoor.flushAdd at hf
  cases hfl : Go.Proofs.YtahfcgjlcdbnjaaGreatDoor.flush σ with
  | error x => rw [hfl] at hf; cases hf
  | ok r =>
    obtain ⟨_, σ1⟩ := r
    rw [hfl] at hf
    exact (h.flush hfl).add hf

/-- A comment is passed. -/
def comment (s : ByteArray) (σ : St) (keep : Bool) : M Unit :=
  let u := upto s (σ.to (σ.pos + 4)) [45, 45]
  if u.1.2 && (eat s u.2 [62]).1 then
    (if keep then flushAdd (eat s u.2 [62]).2 ⟨5, [], [], u.1.1⟩ σ.pos else .ok ((), (eat s u.2 [62]).2))
  else .error (5, σ.pos)

set_option maxHeartbeats 1000000 in
theorem comment_any (g : Glob W) (keep : Bool) (x : Hold W w (Scn b s σ :: L)) (h : Ok s σ) (hp : σ.pos + 4 ≤ s.size) :
    Calls Tryz.prog 126 #[.pointer (some ⟨b, 0, none⟩), .bool keep] w (Post W L b s nothing (comment s σ keep)) := by
  have hc1 := Scn.posCell x
  have hf := Scn.free x 1
  have h1 := h.size
  have hO := h.to hp
  have HM := Lib.hid (Scn.move x (σ.pos + 4) ((σ.pos : Int) + 4) (by push_cast; rfl))
  have HK := Lib.hid hO
  have HG := Lib.hid g
  have hcm : comment s σ keep = (if (upto s (σ.to (σ.pos + 4)) [45, 45]).1.2 && (eat s (upto s (σ.to (σ.pos + 4)) [45, 45]).2 [62]).1 then
    (if keep then flushAdd (eat s (upto s (σ.to (σ.pos + 4)) [45, 45]).2 [62]).2 ⟨5, [], [], (upto s (σ.to (σ.pos + 4)) [45, 45]).1.1⟩ σ.pos else .ok ((), (eat s (upto s (σ.to (σ.pos + 4)) [45, 45]).2 [62]).2))
    else .error (5, σ.pos)) := rfl
  have HC := Lib.hid hcm
  clear x h hO g hcm
  go_enter Tryz.func126, Tryz.ntmps126
  go_wp2_with fail
  refine (until_any HG.out HM.out HK.out [45, 45]).mono ?_
  rintro e w1 ⟨rfl, z⟩
  have HU := Lib.hid (HK.out.upto [45, 45])
  generalize hu : upto s (σ.to (σ.pos + 4)) [45, 45] = u at *
  obtain ⟨⟨u1, u2⟩, σu⟩ := u
  clear hu
  have HZ := Lib.hid z
  clear z
  cases u2
  · go_wp2_with fail
    refine (must_no _).mono ?_
    rintro e w2 ⟨rfl, rfl⟩
    go_wp2_with fail
    refine ⟨rfl, ?_⟩
    rw [HC.out]
    exact ⟨rfl, HZ.out.drop⟩
  · go_wp2_with fail
    refine (eat_any HZ.out HU.out [62] (by decide)).mono ?_
    rintro e w2 ⟨rfl, z⟩
    have HE := Lib.hid (HU.out.eat [62])
    generalize he : eat s σu [62] = q at *
    obtain ⟨q1, σe⟩ := q
    have HEQ := Lib.hid he
    have HZ2 := Lib.hid z
    clear z he
    cases q1
    · go_wp2_with fail
      refine (must_no _).mono ?_
      rintro e w3 ⟨rfl, rfl⟩
      go_wp2_with fail
      refine ⟨rfl, ?_⟩
      rw [HC.out]
      exact ⟨rfl, HZ2.out.drop⟩
    · go_wp2_with fail
      refine (must_yes _).mono ?_
      rintro e w3 ⟨rfl, rfl⟩
      cases keep
      · go_wp2_with fail
        go_end0
        rw [HC.out]
        exact ⟨rfl, HZ2.out⟩
      · have HF : Hid (comment s σ true = flushAdd σe ⟨5, [], [], u1⟩ σ.pos) := by
          show _ = _
          rw [HC.out]; rfl
        go_wp2_with fail
        refine (flush_any HZ2.out HE.out).mono ?_
        intro e w4 hpost
        have HFA : Hid (flushAdd σe ⟨5, [], [], u1⟩ σ.pos = match flush σe with | .error e => .error e | .ok (_, σ') => add σ' ⟨5, [], [], u1⟩ σ.pos) := rfl
        cases hfl : flush σe with
        | error er =>
          obtain ⟨en, ep⟩ := er
          rw [hfl] at hpost
          obtain ⟨rfl, z⟩ := hpost
          have HFL := Lib.hid hfl
          clear hfl
          go_wp2_with fail
          refine ⟨rfl, ?_⟩
          rw [HF.out, HFA.out, HFL.out]
          exact ⟨rfl, z⟩
        | ok r =>
          obtain ⟨_, σf⟩ := r
          rw [hfl] at hpost
          obtain ⟨rfl, z⟩ := hpost
          have HOF := Lib.hid (HE.out.flush hfl)
          have HFL := Lib.hid hfl
          have HZ3 := Lib.hid (Row.nil (e := 45) (size := 2) z).f1
          clear hfl z
          go_wp2_with fail
          refine (add_any ⟨5, [], [], u1⟩ (.slice none 0 0) σ.pos HZ3.out HOF.out).mono ?_
          intro e w5 hpost
          have HP5 := Lib.hid hpost
          cases had : add σf ⟨5, [], [], u1⟩ σ.pos with
          | error er =>
            obtain ⟨en, ep⟩ := er
            rw [had] at hpost
            obtain ⟨rfl, z⟩ := hpost
            have HAD := Lib.hid had
            clear had HP5
            go_wp2_with fail
            refine ⟨rfl, ?_⟩
            rw [HF.out, HFA.out, HFL.out]
            simp only [HAD.out]
            exact ⟨rfl, z⟩
          | ok r =>
            obtain ⟨_, σa⟩ := r
            rw [had] at hpost
            obtain ⟨rfl, z⟩ := hpost
            have HAD := Lib.hid had
            have HZ5 := Lib.hid z
            clear had HP5 z
            go_wp2_with fail
            go_end0
            rw [HF.out, HFA.out, HFL.out]
            simp only [HAD.out]
            exact ⟨rfl, HZ5.out⟩

/-- A text in signs is passed. -/
def quoted (s : ByteArray) (σ : St) : (Bytes × Bool) × St :=
  let r := sign s σ
  if r.1.2 then upto s r.2 r.1.1 else (([], false), r.2)

theorem Ok.sign (h : Ok s σ) : Ok s (sign s σ).2 := by
  unfold Go.Proofs.YtahfcgjlcdbnjaaGreatDoor.sign
  split
  · rename_i hh
    have := hasPrefix_length hh
    rw [rest_length] at this
    exact h.to (by simp at this; have := h.pos; omega)
  · split
    · rename_i hh
      have := hasPrefix_length hh
      rw [rest_length] at this
      exact h.to (by simp at this; have := h.pos; omega)
    · exact h
theorem Ok.quoted (h : Ok s σ) : Ok s (quoted s σ).2 := by
  unfold Go.Proofs.YtahfcgjlcdbnjaaGreatDoor.quoted
  simp only
  split
  · exact h.sign.upto _
  · exact h.sign

theorem quoted_any (g : Glob W) (x : Hold W w (Scn b s σ :: L)) (h : Ok s σ) :
    Calls Tryz.prog 158 #[.pointer (some ⟨b, 0, none⟩)] w
      fun e w' => e = .returned (.tuple #[str (quoted s σ).1.1, .bool (quoted s σ).1.2]) ∧ Hold W w' (Scn b s (quoted s σ).2 :: L) := by
  have HO := Lib.hid x
  have HH := Lib.hid h
  have HG := Lib.hid g
  have hq : quoted s σ = if (sign s σ).1.2 then upto s (sign s σ).2 (sign s σ).1.1 else (([], false), (sign s σ).2) := rfl
  have HQ := Lib.hid hq
  clear x h g hq
  go_enter Tryz.func158, Tryz.ntmps158
  go_wp2_with fail
  refine (sign_any HO.out HH.out).mono ?_
  rintro e w1 ⟨rfl, z⟩
  have HS := Lib.hid HH.out.sign
  generalize sign s σ = r at *
  obtain ⟨⟨r1, r2⟩, σr⟩ := r
  have HZ := Lib.hid z
  clear z
  cases r2
  · go_wp2_with fail
    go_ret2
    rw [HQ.out]
    exact ⟨rfl, HZ.out⟩
  · go_wp2_with fail
    refine (until_any HG.out HZ.out HS.out r1).mono ?_
    rintro e w2 ⟨rfl, z⟩
    have HZ2 := Lib.hid z
    clear z
    go_wp2_with fail
    go_ret2
    rw [HQ.out]
    exact ⟨rfl, HZ2.out⟩

end
end Go.Proofs.YtahfcgjlcdbnjaaGreatDoor
/- Is an attribute there already; a start tag, an end tag. -/
namespace Go.Proofs.YtahfcgjlcdbnjaaGreatDoor
open Go.RowKit

section
variable {W w : World} {L : List Asn} {b : Nat} {s : ByteArray} {σ : St}

/-- The cells of a row's element. -/
theorem Row.at2 {e : TypeId} {v : Value} {l : List (Bytes × Bytes)} (x : Hold W w (Row e 2 v l.length (l.flatMap pairCells) :: L)) (j : Nat) (hj : j < l.length) :
    ∃ g c, v = .slice (some ⟨g, 0, none⟩) l.length c ∧ w.cell? ⟨g, j * 2, none⟩ = some (str l[j].1) ∧ w.cell? ⟨g, j * 2 + 1, none⟩ = some (str l[j].2) := by
  obtain ⟨hl, h⟩ := Row.cases x
  rcases h with ⟨_, h0, _⟩ | ⟨g, cap, cur, rfl, h4, h5, h6, h7, y⟩
  · omega
  · refine ⟨g, cap, rfl, ?_, ?_⟩
    all_goals
      rw [y.cell]
      have hfm : ∀ i (hi : i < 2), (l.flatMap pairCells)[j * 2 + i]? = (pairCells l[j])[i]? := by
        intro i hi
        have : ∀ (l : List (Bytes × Bytes)) (j : Nat) (hj : j < l.length), (l.flatMap pairCells)[j * 2 + i]? = (pairCells l[j])[i]? := by
          intro l
          induction l with
          | nil => intro j hj; simp at hj
          | cons p l ih =>
            intro j hj
            cases j with
            | zero =>
              rw [List.flatMap_cons, List.getElem?_append_left (by simp [pairCells]; omega)]
              simp
            | succ j =>
              rw [List.flatMap_cons, List.getElem?_append_right (by simp [pairCells]; omega)]
              have := ih j (by simpa using hj)
              simp only [pairCells, List.length_cons, List.length_nil, List.getElem_cons_succ] at this ⊢
              rw [← this]
              congr 1
              omega
        exact this l j hj
      have hget : ∀ i, i < 2 → cur[j * 2 + i]? = (l.flatMap pairCells)[j * 2 + i]? := by
        intro i hi
        rw [← h7, List.getElem?_take_of_lt (by omega)]
        simp
      first
        | exact (hget 0 (by omega)).trans (hfm 0 (by omega))
        | exact (hget 1 (by omega)).trans (hfm 1 (by omega))

set_option maxHeartbeats 400000 in
theorem sameName_any (c : Nat) (T : TypeId) (a p1 p2 : Bytes) (x : Hold W w (Asn.pts c (.cells #[str a] T (0, 0)) :: L)) :
    Calls Tryz.prog 169 #[.agg #[str p1, str p2], .pointer (some ⟨c, 0, none⟩)] w
      fun e w' => e = .returned (.bool (p1 == a)) ∧ Below w.heap.size w w' := by
  have hc : w.cell? ⟨c, 0, none⟩ = some (str a) := x.cell 0
  have hlt : c < w.heap.size := lt_of_block x.block
  have hc' : (w.alloc (.cells #[str p1, str p2] 45)).cell? ⟨c, 0, none⟩ = some (str a) := by rw [World.cell?_alloc_lt _ _ _ (by exact hlt)]; exact hc
  clear x
  go_enter Tryz.func169, Tryz.ntmps169
  go_wp2_with fail
  go_ret
  exact ⟨rfl, (Below.refl _ _).alloc (Nat.le_refl _) _⟩

/-- Is there an attribute of a name? -/
def named (l : List (Bytes × Bytes)) (a : Bytes) : Bool := l.any fun p => p.1 == a

def IdxPost (W : World) (L : List Asn) (l : List (Bytes × Bytes)) (a : Bytes) (e : Ending) (w' : World) : Prop :=
  ∃ i : Int, (decide (0 ≤ i) = named l a) ∧ e = .returned (.int .i64 i) ∧ Hold W w' L

abbrev sameFn (c : Nat) : Value := .func (.func 169) #[] #[.pointer (some ⟨c, 0, none⟩)]

set_option maxHeartbeats 1000000 in
theorem indexFunc_any (c : Nat) (T : TypeId) (a : Bytes) (av : Value) (l : List (Bytes × Bytes)) (hl : l.length ≤ 1048576)
    (x : Hold W w (Attrs av l :: Asn.pts c (.cells #[str a] T (0, 0)) :: L)) :
    Calls Tryz.prog 198 #[av, sameFn c] w
      (IdxPost W (Attrs av l :: Asn.pts c (.cells #[str a] T (0, 0)) :: L) l a) := by
  obtain ⟨aa, ac, rfl⟩ := Row.slice x
  have HX := Lib.hid x
  clear x
  go_enter Tryz.func198, Tryz.ntmps198
  go_wp2_with fail
  go_loopg [8] l.length (fun k v8 wr => ∃ j : Nat, v8 = .int .i64 j ∧ Hold W wr (Attrs (.slice aa l.length ac) l :: Asn.pts c (.cells #[str a] T (0, 0)) :: L) ∧ k + j = l.length ∧ Hid (named (l.take j) a = false))
  case atStart => exact ⟨0, rfl, HX.out, by simp, rfl⟩
  case round =>
    obtain ⟨j, rfl, z, hk, HN⟩ := hrel
    have HZ := Lib.hid z
    have HK := Lib.hid hk
    by_cases hj : j < l.length
    · obtain ⟨g, cc, hg, h0, h1⟩ := Row.at2 z j hj
      obtain ⟨rfl, rfl⟩ : aa = some ⟨g, 0, none⟩ ∧ ac = cc := by cases hg; exact ⟨rfl, rfl⟩
      have hsn := Lib.hid (any_snoc l (fun p => p.1 == a) j hj)
      generalize l[j].1 = q1 at *
      generalize l[j].2 = q2 at *
      clear z hk hg
      go_wp2_with fail
      refine (sameName_any c T a q1 q2 HZ.out.f1).mono ?_
      rintro e w2 ⟨rfl, hb⟩
      have HZ2 := Lib.hid (HZ.out.below hb)
      clear hb
      cases hq : q1 == a
      · have HM : Hid (named (l.take (j + 1)) a = false) := by
          show _ = _
          unfold named at HN ⊢
          rw [hsn.out, HN.out, hq]; rfl
        clear hq
        go_wp2_with fail
        go_roundg (gk - 1)
        case measure => have := HK.out; omega
        case rel => exact ⟨j + 1, by go_num, HZ2.out, by have := HK.out; omega, HM⟩
      · have HM : Hid (named l a = true) := by
          show _ = _
          have h1 : named (l.take (j + 1)) a = true := by unfold named; rw [hsn.out, hq]; simp
          unfold named at h1 ⊢
          rw [List.any_eq_true] at h1 ⊢
          obtain ⟨p, hp, hp2⟩ := h1
          exact ⟨p, List.mem_of_mem_take hp, hp2⟩
        clear hq
        go_wp2_with fail
        go_ret
        exact ⟨j, by rw [HM.out]; simp, rfl, HZ2.out⟩
    · have HM : Hid (named l a = false) := by
        show _ = _
        have := HN.out
        rw [List.take_of_length_le (by omega)] at this
        exact this
      clear z hk
      go_wp2_with fail
      go_ret
      exact ⟨-1, by rw [HM.out]; rfl, rfl, HZ.out⟩

theorem contains_name (c : Nat) (T : TypeId) (a : Bytes) (av : Value) (l : List (Bytes × Bytes)) (hl : l.length ≤ 1048576)
    (x : Hold W w (Attrs av l :: Asn.pts c (.cells #[str a] T (0, 0)) :: L)) :
    Calls Tryz.prog 168 #[av, sameFn c] w
      fun e w' => e = .returned (.bool (named l a)) ∧ Hold W w' (Attrs av l :: Asn.pts c (.cells #[str a] T (0, 0)) :: L) := by
  have HX := Lib.hid x
  clear x
  go_enter Tryz.func168, Tryz.ntmps168
  go_wp2_with fail
  refine (indexFunc_any c T a av l hl HX.out).mono ?_
  rintro e w1 ⟨i, hi, rfl, z⟩
  have HI := Lib.hid hi
  have HZ := Lib.hid z
  clear hi z
  go_wp2_with fail
  go_ret
  exact ⟨by rw [← HI.out]; rfl, HZ.out⟩

theorem Row.cutTo {e : TypeId} {a : Option Addr} {c n m : Nat} {xs : List Value} (hm : m ≤ n) (x : Hold W w (Row e 1 (.slice a n c) n xs :: L)) : Hold W w (Row e 1 (.slice a m c) m (xs.take m) :: L) := by
  refine x.mono fun h ⟨hl, p⟩ => ?_
  refine ⟨by simp at hl ⊢; omega, ?_⟩
  rcases p with ⟨hv, hn, he⟩ | ⟨g, cap, cur, h3, h4, h5, h6, h7, h8⟩
  · obtain ⟨rfl, rfl⟩ : a = none ∧ c = 0 := by cases hv; exact ⟨rfl, rfl⟩
    have : m = 0 := by omega
    subst this
    exact .inl ⟨rfl, rfl, he⟩
  · obtain ⟨rfl, rfl⟩ : a = some ⟨g, 0, none⟩ ∧ c = cap := by cases h3; exact ⟨rfl, rfl⟩
    refine .inr ⟨g, c, cur, rfl, by omega, h5, h6, ?_, h8⟩
    rw [← h7, List.take_take]
    congr 1
    omega

/-- The open elements: their row, and what stands when it is cut. -/
theorem Scn.opnOut (x : Hold W w (Scn b s σ :: L)) (h : σ.opn ≠ []) : ∃ g c, w.cell? ⟨b, 3, none⟩ = some (.slice (some ⟨g, 0, none⟩) σ.opn.length c) ∧ σ.opn.length ≤ c ∧ c ≤ maxLen ∧
    (∀ j (hj : j < σ.opn.length), w.cell? ⟨g, j, none⟩ = some (str σ.opn[j])) ∧
    (∀ n, n ≤ σ.opn.length → Hold W (w.setCell ⟨b, 3, none⟩ (.slice (some ⟨g, 0, none⟩) n c)) (Scn b s { σ with opn := σ.opn.take n } :: L)) := by
  obtain ⟨lv, ov, tp, tv, m, htp, y⟩ := Scn.out x
  have y2 := y.f2
  obtain ⟨hl, p⟩ := Row.cases y2
  rcases p with ⟨_, h0, _⟩ | ⟨g, cap, cur, rfl, h4, h5, h6, h7, z⟩
  · exact absurd (List.eq_nil_of_length_eq_zero h0) h
  · refine ⟨g, cap, y.cell 3, h4, h5, ?_, ?_⟩
    · intro j hj
      rw [z.cell]
      have : cur[j]? = (σ.opn.map str)[j]? := by
        rw [← h7, List.getElem?_take_of_lt (by omega)]; simp
      rw [this]; simp [hj]
    · intro n hn
      have z2 := Row.cutTo hn y2
      have z3 := z2.f1.set 3 (.slice (some ⟨g, 0, none⟩) n cap)
      have hst : Strs (.slice (some ⟨g, 0, none⟩) n cap) (σ.opn.take n) = Row 9 1 (.slice (some ⟨g, 0, none⟩) n cap) n ((σ.opn.map str).take n) := by
        unfold Strs; rw [List.map_take, List.length_take, Nat.min_eq_left hn]
      refine Scn.mk (lv := lv) (ov := .slice (some ⟨g, 0, none⟩) n cap) (tp := tp) (tv := tv) (m := m) htp ?_
      rw [hst]
      exact z3.re [0, 2, 1]

theorem flushAdd_parts {t : Tok} {p : Int} {σ' : St} (h : flushAdd σ t p = .ok ((), σ')) : σ'.opn = σ.opn ∧ σ'.pos = σ.pos ∧ σ'.ended = σ.ended ∧ σ'.ents = σ.ents ∧ σ'.grown = σ.grown ∧ σ'.text = [] := by
  unfold flushAdd at h
  cases hf : flush σ with
  | error e => rw [hf] at h; cases h
  | ok r =>
    obtain ⟨_, σ1⟩ := r
    rw [hf] at h
    obtain ⟨_, rfl⟩ := add_parts h
    rcases flush_parts hf with ⟨h0, rfl⟩ | ⟨_, _, rfl⟩
    · exact ⟨rfl, rfl, rfl, rfl, rfl, h0⟩
    · exact ⟨rfl, rfl, rfl, rfl, rfl, rfl⟩

/-- An end tag is passed. -/
def endTag (s : ByteArray) (σ : St) : M Unit :=
  let q := qname s (σ.to (σ.pos + 2))
  let e := eat s (blanks s q.2).2 [62]
  if e.1 && (σ.opn.getLast? == some q.1.1) then
    match flushAdd e.2 ⟨7, q.1.1, [], []⟩ σ.pos with
    | .error x => .error x
    | .ok (_, σ2) => .ok ((), { σ2 with opn := σ2.opn.take (σ.opn.length - 1), ended := σ.opn.length == 1 })
  else .error (5, σ.pos)

theorem qname_opn (s : ByteArray) (σ : St) : (qname s σ).2.opn = σ.opn := rfl
theorem eat_opn (s : ByteArray) (σ : St) (t : Bytes) : (eat s σ t).2.opn = σ.opn := by unfold eat; split <;> rfl
theorem Ok.qname (h : Ok s σ) : Ok s (qname s σ).2 := h.word true
theorem Ok.name (h : Ok s σ) : Ok s (name s σ).2 := h.word false

set_option maxHeartbeats 4000000 in
set_option maxRecDepth 100000 in
theorem endTag_any (g : Glob W) (x : Hold W w (Scn b s σ :: L)) (h : Ok s σ) (hp : σ.pos + 2 ≤ s.size) :
    Calls Tryz.prog 125 #[.pointer (some ⟨b, 0, none⟩)] w (Post W L b s nothing (endTag s σ)) := by
  have hc1 := Scn.posCell x
  have hf := Scn.free x 1
  have h1 := h.size
  have hopn := h.opn
  have hO := h.to hp
  have HM := Lib.hid (Scn.move x (σ.pos + 2) ((σ.pos : Int) + 2) (by push_cast; rfl))
  have HK := Lib.hid hO
  have HG := Lib.hid g
  have HQO := Lib.hid (qname_opn s (σ.to (σ.pos + 2)))
  have hcm : endTag s σ = (if (eat s (blanks s (qname s (σ.to (σ.pos + 2))).2).2 [62]).1 && (σ.opn.getLast? == some (qname s (σ.to (σ.pos + 2))).1.1) then
    match flushAdd (eat s (blanks s (qname s (σ.to (σ.pos + 2))).2).2 [62]).2 ⟨7, (qname s (σ.to (σ.pos + 2))).1.1, [], []⟩ σ.pos with
    | .error x => .error x
    | .ok (_, σ2) => .ok ((), { σ2 with opn := σ2.opn.take (σ.opn.length - 1), ended := σ.opn.length == 1 })
  else .error (5, σ.pos)) := rfl
  have HC := Lib.hid hcm
  have HKQ := Lib.hid hO.qname
  clear x h hO g hcm
  go_enter Tryz.func125, Tryz.ntmps125
  go_wp2_with fail
  refine (qname_any HG.out HM.out HK.out).mono ?_
  rintro e w1 ⟨rfl, z⟩
  generalize qname s (σ.to (σ.pos + 2)) = q at *
  obtain ⟨⟨q1, q2⟩, σq⟩ := q
  have HZ := Lib.hid z
  clear z
  go_wp2_with fail
  refine (blanks_any HZ.out HKQ.out).mono ?_
  rintro e w2 ⟨rfl, z⟩
  have HKB := Lib.hid HKQ.out.blanks
  have HBO : Hid ((blanks s σq).2.opn = σ.opn) := HQO.out
  generalize blanks s σq = bq at *
  obtain ⟨bq1, σb⟩ := bq
  obtain ⟨oa, oc, hc3⟩ := Scn.opnCell z
  rw [show σb.opn = σ.opn from HBO.out] at hc3
  have HZ2 := Lib.hid z
  clear z
  go_wp2_with fail
  refine (eat_any HZ2.out HKB.out [62] (by decide)).mono ?_
  rintro e w3 ⟨rfl, z⟩
  have HKE := Lib.hid (HKB.out.eat [62])
  have HEO : Hid ((eat s σb [62]).2.opn = σ.opn) := (eat_opn s σb [62]).trans HBO.out
  generalize eat s σb [62] = eq at *
  obtain ⟨e1, σe⟩ := eq
  have HEO' : σe.opn = σ.opn := HEO.out
  have HE2 := Lib.hid HEO'
  clear HEO'
  have HZ3 := Lib.hid z
  clear z hc3
  cases e1
  · go_wp2_with fail
    refine (must_no _).mono ?_
    rintro e w4 ⟨rfl, rfl⟩
    go_wp2_with fail
    refine ⟨rfl, ?_⟩
    rw [HC.out]
    exact ⟨rfl, HZ3.out.drop⟩
  · by_cases hne : σ.opn = []
    · have HN := Lib.hid hne
      have hl0 : σ.opn.length ≤ 0 := by rw [hne]; exact Nat.le_refl _
      clear hne
      go_wp2_with fail
      refine (must_no _).mono ?_
      rintro e w4 ⟨rfl, rfl⟩
      go_wp2_with fail
      refine ⟨rfl, ?_⟩
      rw [HC.out, HN.out]
      exact ⟨rfl, HZ3.out.drop⟩
    · have hl0 : 1 ≤ σ.opn.length := List.length_pos_iff.2 hne
      obtain ⟨g1, c1, hc3, hcap, hcm, hcells, _⟩ := Scn.opnOut HZ3.out (by rw [HE2.out]; exact hne)
      rw [HE2.out] at hc3 hcap
      have hcell := hcells (σ.opn.length - 1) (by rw [HE2.out]; omega)
      have hlast : σ.opn.getLast? = some (σ.opn[σ.opn.length - 1]'(by omega)) := by
        rw [List.getLast?_eq_getElem?, List.getElem?_eq_getElem (by omega)]
      have hel : σe.opn[σ.opn.length - 1]'(by rw [HE2.out]; omega) = σ.opn[σ.opn.length - 1]'(by omega) := by
        have := HE2.out
        simp only [this]
      rw [hel] at hcell
      generalize (σ.opn[σ.opn.length - 1]'(by omega)) = last at *
      have HL := Lib.hid hlast
      clear hcells hlast hel hne
      go_wp2_with fail
      cases hlq : last == q1
      · have HLQ := Lib.hid hlq
        clear hlq
        refine (must_no _).mono ?_
        rintro e w4 ⟨rfl, rfl⟩
        go_wp2_with fail
        refine ⟨rfl, ?_⟩
        have hcond : (some last == some q1) = false := by simpa using HLQ.out
        rw [HC.out, HL.out, hcond]
        exact ⟨rfl, HZ3.out.drop⟩
      · have hcond : (some last == some q1) = true := by simpa using hlq
        have HCD := Lib.hid hcond
        clear hlq hcond
        refine (must_yes _).mono ?_
        rintro e w4 ⟨rfl, rfl⟩
        have HCC : Hid (endTag s σ = match flushAdd σe ⟨7, q1, [], []⟩ σ.pos with
            | .error x => .error x
            | .ok (_, σ2) => .ok ((), { σ2 with opn := σ2.opn.take (σ.opn.length - 1), ended := σ.opn.length == 1 })) := by
          show _ = _
          rw [HC.out, HL.out, HCD.out]; rfl
        clear hc3 hcell
        go_wp2_with fail
        refine (flush_any HZ3.out HKE.out).mono ?_
        intro e wf hpost
        cases hfl : flush σe with
        | error er =>
          obtain ⟨en, ep⟩ := er
          rw [hfl] at hpost
          obtain ⟨rfl, z⟩ := hpost
          have HR : Hid (flushAdd σe ⟨7, q1, [], []⟩ σ.pos = .error (en, ep)) := by show _ = _; unfold flushAdd; rw [hfl]
          clear hfl
          go_wp2_with fail
          refine ⟨rfl, ?_⟩
          rw [HCC.out, HR.out]
          exact ⟨rfl, z⟩
        | ok r =>
          obtain ⟨_, σf⟩ := r
          rw [hfl] at hpost
          obtain ⟨rfl, z⟩ := hpost
          have HOF := Lib.hid (HKE.out.flush hfl)
          have HFL := Lib.hid hfl
          have HZF := Lib.hid ((Row.nil (e := 45) (size := 2) z).f1)
          clear hfl z
          go_wp2_with fail
          refine (add_any ⟨7, q1, [], []⟩ (.slice none 0 0) σ.pos HZF.out HOF.out).mono ?_
          intro e wa hpost
          cases had : add σf ⟨7, q1, [], []⟩ σ.pos with
          | error er =>
            obtain ⟨en, ep⟩ := er
            rw [had] at hpost
            obtain ⟨rfl, z⟩ := hpost
            have HR : Hid (flushAdd σe ⟨7, q1, [], []⟩ σ.pos = .error (en, ep)) := by show _ = _; unfold flushAdd; rw [HFL.out]; exact had
            clear had
            go_wp2_with fail
            refine ⟨rfl, ?_⟩
            rw [HCC.out, HR.out]
            exact ⟨rfl, z⟩
          | ok r =>
            obtain ⟨_, σa⟩ := r
            rw [had] at hpost
            obtain ⟨rfl, z⟩ := hpost
            have hfa : flushAdd σe ⟨7, q1, [], []⟩ σ.pos = .ok ((), σa) := by unfold flushAdd; rw [HFL.out]; exact had
            have HR := Lib.hid hfa
            have HPT := Lib.hid (flushAdd_parts hfa)
            have HKA := Lib.hid (HKE.out.flushAdd hfa)
            have HZA := Lib.hid z
            clear had z hfa
            have hop : σa.opn = σ.opn := HPT.out.1.trans HE2.out
            obtain ⟨g2, c2, hc3, hcap2, hcm2, _, hfin⟩ := Scn.opnOut HZA.out (by rw [hop]; exact List.ne_nil_of_length_pos (by omega))
            have HFIN := Lib.hid (hfin (σ.opn.length - 1) (by rw [hop]; omega))
            rw [hop] at hc3 hcap2
            have hf3 := Scn.free HZA.out 3
            have hf9 := Scn.free HZA.out 9
            have hc9 : wa.cell? ⟨b, 9, none⟩ = some (.bool σa.ended) := Scn.endCell HZA.out
            have HOP := Lib.hid hop
            unfold maxLen at hcm2
            clear hfin hop
            go_wp2_with fail
            go_end0
            rw [HCC.out, HR.out]
            refine ⟨rfl, ?_⟩
            have z := Scn.setEnd HFIN.out ((σ.opn.length : Int) - 1 == 0)
            have e : ((σ.opn.length : Int) - 1 == 0) = (σ.opn.length == 1) := by rw [Bool.eq_iff_iff]; simp; omega
            rw [e] at z ⊢
            exact z
end
end Go.Proofs.YtahfcgjlcdbnjaaGreatDoor
