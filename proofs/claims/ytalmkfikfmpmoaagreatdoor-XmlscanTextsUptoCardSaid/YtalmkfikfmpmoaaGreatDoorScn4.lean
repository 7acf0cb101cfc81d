/- The scanner's methods on comments, quoted texts and fields. -/
import Derived.Test.YtalmkfikfmpmoaaGreatDoorScn3
namespace Go.Proofs.YtalmkfikfmpmoaaGreatDoor
open Go.RowKit

section
variable {W w : World} {L : List Asn} {b : Nat} {s : ByteArray} {σ : St}

theorem Scn.strCell (x : Hold W w (Scn b s σ :: L)) : w.cell? ⟨b, 0, none⟩ = some (.string s) := by
  obtain ⟨lv, ov, tp, tv, m, htp, y⟩ := Scn.out x
  exact y.cell 0
theorem Scn.posCell (x : Hold W w (Scn b s σ :: L)) : w.cell? ⟨b, 1, none⟩ = some (.int .i64 σ.pos) := by
  obtain ⟨lv, ov, tp, tv, m, htp, y⟩ := Scn.out x
  exact y.cell 1
theorem Scn.endCell (x : Hold W w (Scn b s σ :: L)) : w.cell? ⟨b, 9, none⟩ = some (.bool σ.ended) := by
  obtain ⟨lv, ov, tp, tv, m, htp, y⟩ := Scn.out x
  exact y.cell 9
theorem Scn.opnCell (x : Hold W w (Scn b s σ :: L)) : ∃ a c, w.cell? ⟨b, 3, none⟩ = some (.slice a σ.opn.length c) := by
  obtain ⟨lv, ov, tp, tv, m, htp, y⟩ := Scn.out x
  obtain ⟨a, c, rfl⟩ := Row.slice y.f2
  exact ⟨a, c, y.cell 3⟩
theorem Scn.free (x : Hold W w (Scn b s σ :: L)) (i : Nat) : w.frozen? ⟨b, i, none⟩ = false := by
  obtain ⟨lv, ov, tp, tv, m, htp, y⟩ := Scn.out x
  exact y.free i
theorem Scn.move (x : Hold W w (Scn b s σ :: L)) (p : Nat) (q : Int) (h : q = p) : Hold W (w.setCell ⟨b, 1, none⟩ (.int .i64 q)) (Scn b s (σ.to p) :: L) := by
  subst h
  obtain ⟨lv, ov, tp, tv, m, htp, y⟩ := Scn.out x
  exact Scn.mk (lv := lv) (ov := ov) (tp := tp) (tv := tv) (m := m) htp (y.set 1 _)
theorem Scn.setEnd (x : Hold W w (Scn b s σ :: L)) (q : Bool) : Hold W (w.setCell ⟨b, 9, none⟩ (.bool q)) (Scn b s { σ with ended := q } :: L) := by
  obtain ⟨lv, ov, tp, tv, m, htp, y⟩ := Scn.out x
  exact Scn.mk (lv := lv) (ov := ov) (tp := tp) (tv := tv) (m := m) htp (y.set 9 _)

theorem add_parts {t : Tok} {p : Int} {σ' : St} (h : add σ t p = .ok ((), σ')) : σ.toks.length < 4096 ∧ σ' = { σ with toks := σ.toks ++ [t] } := by
  unfold add at h
  split at h
  · rename_i hl; exact ⟨hl, by cases h; rfl⟩
  · cases h
theorem Ok.add (h : Ok s σ) {t : Tok} {p : Int} {σ' : St} (ha : add σ t p = .ok ((), σ')) : Ok s σ' := by
  obtain ⟨hl, rfl⟩ := add_parts ha
  exact ⟨h.size, h.pos, by simp; omega, h.opn, h.text, h.beg, h.grown⟩
theorem flush_parts {σ' : St} (h : flush σ = .ok ((), σ')) : (σ.text = [] ∧ σ' = σ) ∨ (σ.text ≠ [] ∧ σ.toks.length < 4096 ∧ σ' = { σ with text := [], toks := σ.toks ++ [⟨4, [], [], σ.text⟩] }) := by
  unfold flush at h
  split at h
  · rename_i ht; exact .inl ⟨ht, by cases h; rfl⟩
  · rename_i ht
    cases ha : Go.Proofs.YtalmkfikfmpmoaaGreatDoor.add σ ⟨4, [], [], σ.text⟩ σ.beg with
    | error x => rw [ha] at h; cases h
    | ok r =>
      obtain ⟨_, σ1⟩ := r
      rw [ha] at h
      obtain ⟨hl, rfl⟩ := add_parts ha
      exact .inr ⟨ht, hl, by cases h; rfl⟩
theorem Ok.flush (h : Ok s σ) {σ' : St} (hf : flush σ = .ok ((), σ')) : Ok s σ' := by
  rcases flush_parts hf with ⟨_, rfl⟩ | ⟨_, hl, rfl⟩
  · exact h
  · exact ⟨h.size, h.pos, by simp; omega, h.opn, by simp, h.beg, h.grown⟩

/-- The text so far and a token behind it. -/
def flushAdd (σ : St) (t : Tok) (p : Int) : M Unit := match flush σ with | .error e => .error e | .ok (_, σ') => add σ' t p

theorem Ok.flushAdd (h : Ok s σ) {t : Tok} {p : Int} {σ' : St} (hf : flushAdd σ t p = .ok ((), σ')) : Ok s σ' := by
  unfold Go.Proofs.YtalmkfikfmpmoaaGreatDoor.flushAdd at hf
  cases hfl : Go.Proofs.YtalmkfikfmpmoaaGreatDoor.flush σ with
  | error x => rw [hfl] at hf; cases hf
  | ok r =>
    obtain ⟨_, σ1⟩ := r
    rw [hfl] at hf
    exact (h.flush hfl).add hf

/-- A comment is passed. -/
def comment (s : ByteArray) (σ : St) (keep : Bool) : M Unit :=
  let u := upto s (σ.to (σ.pos + 4)) [45, 45]
  if u.1.2 && (eat s u.2 [62]).1 then
    (if keep then flushAdd (eat s u.2 [62]).2 ⟨5, [], [], u.1.1⟩ σ.pos else .ok ((), (eat s u.2 [62]).2))
  else .error (5, σ.pos)

set_option maxHeartbeats 1000000 in
theorem comment_any (g : Glob W) (keep : Bool) (x : Hold W w (Scn b s σ :: L)) (h : Ok s σ) (hp : σ.pos + 4 ≤ s.size) :
    Calls Tryz.prog 74 #[.pointer (some ⟨b, 0, none⟩), .bool keep] w (Post W L b s nothing (comment s σ keep)) := by
  have hc1 := Scn.posCell x
  have hf := Scn.free x 1
  have h1 := h.size
  have hO := h.to hp
  have HM := Lib.hid (Scn.move x (σ.pos + 4) ((σ.pos : Int) + 4) (by push_cast; rfl))
  have HK := Lib.hid hO
  have HG := Lib.hid g
  have hcm : comment s σ keep = (if (upto s (σ.to (σ.pos + 4)) [45, 45]).1.2 && (eat s (upto s (σ.to (σ.pos + 4)) [45, 45]).2 [62]).1 then
    (if keep then flushAdd (eat s (upto s (σ.to (σ.pos + 4)) [45, 45]).2 [62]).2 ⟨5, [], [], (upto s (σ.to (σ.pos + 4)) [45, 45]).1.1⟩ σ.pos else .ok ((), (eat s (upto s (σ.to (σ.pos + 4)) [45, 45]).2 [62]).2))
    else .error (5, σ.pos)) := rfl
  have HC := Lib.hid hcm
  clear x h hO g hcm
  go_enter Tryz.func74, Tryz.ntmps74
  go_wp2_with fail
  refine (until_any HG.out HM.out HK.out [45, 45]).mono ?_
  rintro e w1 ⟨rfl, z⟩
  have HU := Lib.hid (HK.out.upto [45, 45])
  generalize hu : upto s (σ.to (σ.pos + 4)) [45, 45] = u at *
  obtain ⟨⟨u1, u2⟩, σu⟩ := u
  clear hu
  have HZ := Lib.hid z
  clear z
  cases u2
  · go_wp2_with fail
    refine (must_no _).mono ?_
    rintro e w2 ⟨rfl, rfl⟩
    go_wp2_with fail
    refine ⟨rfl, ?_⟩
    rw [HC.out]
    exact ⟨rfl, HZ.out.drop⟩
  · go_wp2_with fail
    refine (eat_any HZ.out HU.out [62] (by decide)).mono ?_
    rintro e w2 ⟨rfl, z⟩
    have HE := Lib.hid (HU.out.eat [62])
    generalize he : eat s σu [62] = q at *
    obtain ⟨q1, σe⟩ := q
    have HEQ := Lib.hid he
    have HZ2 := Lib.hid z
    clear z he
    cases q1
    · go_wp2_with fail
      refine (must_no _).mono ?_
      rintro e w3 ⟨rfl, rfl⟩
      go_wp2_with fail
      refine ⟨rfl, ?_⟩
      rw [HC.out]
      exact ⟨rfl, HZ2.out.drop⟩
    · go_wp2_with fail
      refine (must_yes _).mono ?_
      rintro e w3 ⟨rfl, rfl⟩
      cases keep
      · go_wp2_with fail
        go_end0
        rw [HC.out]
        exact ⟨rfl, HZ2.out⟩
      · have HF : Hid (comment s σ true = flushAdd σe ⟨5, [], [], u1⟩ σ.pos) := by
          show _ = _
          rw [HC.out]; rfl
        go_wp2_with fail
        refine (flush_any HZ2.out HE.out).mono ?_
        intro e w4 hpost
        have HFA : Hid (flushAdd σe ⟨5, [], [], u1⟩ σ.pos = match flush σe with | .error e => .error e | .ok (_, σ') => add σ' ⟨5, [], [], u1⟩ σ.pos) := rfl
        cases hfl : flush σe with
        | error er =>
          obtain ⟨en, ep⟩ := er
          rw [hfl] at hpost
          obtain ⟨rfl, z⟩ := hpost
          have HFL := Lib.hid hfl
          clear hfl
          go_wp2_with fail
          refine ⟨rfl, ?_⟩
          rw [HF.out, HFA.out, HFL.out]
          exact ⟨rfl, z⟩
        | ok r =>
          obtain ⟨_, σf⟩ := r
          rw [hfl] at hpost
          obtain ⟨rfl, z⟩ := hpost
          have HOF := Lib.hid (HE.out.flush hfl)
          have HFL := Lib.hid hfl
          have HZ3 := Lib.hid (Row.nil (e := 28) (size := 2) z).f1
          clear hfl z
          go_wp2_with fail
          refine (add_any ⟨5, [], [], u1⟩ (.slice none 0 0) σ.pos HZ3.out HOF.out).mono ?_
          intro e w5 hpost
          have HP5 := Lib.hid hpost
          cases had : add σf ⟨5, [], [], u1⟩ σ.pos with
          | error er =>
            obtain ⟨en, ep⟩ := er
            rw [had] at hpost
            obtain ⟨rfl, z⟩ := hpost
            have HAD := Lib.hid had
            clear had HP5
            go_wp2_with fail
            refine ⟨rfl, ?_⟩
            rw [HF.out, HFA.out, HFL.out]
            simp only [HAD.out]
            exact ⟨rfl, z⟩
          | ok r =>
            obtain ⟨_, σa⟩ := r
            rw [had] at hpost
            obtain ⟨rfl, z⟩ := hpost
            have HAD := Lib.hid had
            have HZ5 := Lib.hid z
            clear had HP5 z
            go_wp2_with fail
            go_end0
            rw [HF.out, HFA.out, HFL.out]
            simp only [HAD.out]
            exact ⟨rfl, HZ5.out⟩

/-- A text in signs is passed. -/
def quoted (s : ByteArray) (σ : St) : (Bytes × Bool) × St :=
  let r := sign s σ
  if r.1.2 then upto s r.2 r.1.1 else (([], false), r.2)

theorem Ok.sign (h : Ok s σ) : Ok s (sign s σ).2 := by
  unfold Go.Proofs.YtalmkfikfmpmoaaGreatDoor.sign
  split
  · rename_i hh
    have := hasPrefix_length hh
    rw [rest_length] at this
    exact h.to (by simp at this; have := h.pos; omega)
  · split
    · rename_i hh
      have := hasPrefix_length hh
      rw [rest_length] at this
      exact h.to (by simp at this; have := h.pos; omega)
    · exact h
theorem Ok.quoted (h : Ok s σ) : Ok s (quoted s σ).2 := by
  unfold Go.Proofs.YtalmkfikfmpmoaaGreatDoor.quoted
  simp only
  split
  · exact h.sign.upto _
  · exact h.sign

theorem quoted_any (g : Glob W) (x : Hold W w (Scn b s σ :: L)) (h : Ok s σ) :
    Calls Tryz.prog 107 #[.pointer (some ⟨b, 0, none⟩)] w
      fun e w' => e = .returned (.tuple #[str (quoted s σ).1.1, .bool (quoted s σ).1.2]) ∧ Hold W w' (Scn b s (quoted s σ).2 :: L) := by
  have HO := Lib.hid x
  have HH := Lib.hid h
  have HG := Lib.hid g
  have hq : quoted s σ = if (sign s σ).1.2 then upto s (sign s σ).2 (sign s σ).1.1 else (([], false), (sign s σ).2) := rfl
  have HQ := Lib.hid hq
  clear x h g hq
  go_enter Tryz.func107, Tryz.ntmps107
  go_wp2_with fail
  refine (sign_any HO.out HH.out).mono ?_
  rintro e w1 ⟨rfl, z⟩
  have HS := Lib.hid HH.out.sign
  generalize sign s σ = r at *
  obtain ⟨⟨r1, r2⟩, σr⟩ := r
  have HZ := Lib.hid z
  clear z
  cases r2
  · go_wp2_with fail
    go_ret2
    rw [HQ.out]
    exact ⟨rfl, HZ.out⟩
  · go_wp2_with fail
    refine (until_any HG.out HZ.out HS.out r1).mono ?_
    rintro e w2 ⟨rfl, z⟩
    have HZ2 := Lib.hid z
    clear z
    go_wp2_with fail
    go_ret2
    rw [HQ.out]
    exact ⟨rfl, HZ2.out⟩

end
end Go.Proofs.YtalmkfikfmpmoaaGreatDoor
