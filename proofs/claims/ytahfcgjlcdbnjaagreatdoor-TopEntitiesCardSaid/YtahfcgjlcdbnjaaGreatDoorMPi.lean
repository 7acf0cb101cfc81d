/- strings.EqualFold at "xml". -/
import Derived.Test.YtahfcgjlcdbnjaaGreatDoorMRef
import Derived.ScopeJumps
import Derived.WalkMore
import Derived.Lib.TrimUEq
import Derived.Test.YtahfcgjlcdbnjaaGreatDoorMTag2
namespace Go.Proofs.YtahfcgjlcdbnjaaGreatDoor
open Go.RowKit

/-- A scope in which the run jumps forward to a label, at most once: what stands at the label is walked from where the jump was made. -/
theorem wp_scope_fwd {P : Program} {a : Act} {w : World} {Q : Exit → Act → World → Prop} {c rest : Code} (l : Nat) (hf : findLabel c l = some rest)
    (first : c.wp P (Exit.jump l (fun a w => rest.wp P (Exit.noGoto Q) a w) Q) a w) : (Code.scope c).wp P Q a w :=
  wp_scope_jumps l _ (fun _ _ => 0) hf first fun _ _ hJ => Code.wp_mono (fun e _ _ h => by
    cases e with
    | goto _ => exact h.elim
    | _ => exact h) hJ

def lowB (c : UInt8) : UInt8 := if 65 ≤ c.toNat ∧ c.toNat ≤ 90 then c + 32 else c
/-- Is a text xml, in whatever letters? -/
def isXml (l : Bytes) : Bool := l.map lowB == [120, 109, 108]

theorem lowB_eq {c : UInt8} {k : UInt8} (hk : 97 ≤ k.toNat ∧ k.toNat ≤ 122) : (lowB c == k) = Lib.foldEq c k := by
  unfold lowB Lib.foldEq
  rw [Bool.eq_iff_iff, beq_iff_eq, decide_eq_true_eq, ← UInt8.toNat_inj]
  have hc := c.toNat_lt
  by_cases h : 65 ≤ c.toNat ∧ c.toNat ≤ 90
  · rw [if_pos h, UInt8.toNat_add]
    have : (32 : UInt8).toNat = 32 := rfl
    rw [this]
    omega
  · rw [if_neg h]
    omega

theorem isXml_fold (l : Bytes) : isXml l = Lib.equalFold l [120, 109, 108] := by
  have h1 := fun c => lowB_eq (c := c) (k := 120) (by decide)
  have h2 := fun c => lowB_eq (c := c) (k := 109) (by decide)
  have h3 := fun c => lowB_eq (c := c) (k := 108) (by decide)
  unfold isXml
  match l with
  | [] => rfl
  | [a] => simp [Lib.equalFold]
  | [a, b] => simp [Lib.equalFold]
  | [a, b, c] => simp [Lib.equalFold, ← h1, ← h2, ← h3]
  | a :: b :: c :: d :: l => simp [Lib.equalFold]

theorem isXml_ascii (l : Bytes) (h : isXml l = true) : ascii l = true := by
  unfold isXml at h
  have h := beq_iff_eq.1 h
  unfold ascii
  rw [List.all_eq_true]
  intro c hc
  have hm : lowB c ∈ l.map lowB := List.mem_map_of_mem hc
  rw [h] at hm
  have hl : (lowB c).toNat < 128 := by
    simp at hm
    rcases hm with hm | hm | hm <;> (rw [hm]; decide)
  simp only [decide_eq_true_eq]
  unfold lowB at hl
  split at hl
  · omega
  · exact hl

theorem decode_high {c : UInt8} (l : Bytes) (h : 128 ≤ c.toNat) : 128 ≤ (Lib.decodeL (c :: l)).1 := by
  rw [Lib.decodeL_N]
  have h0 : ((c :: l).getD 0 0).toNat = c.toNat := rfl
  unfold Lib.decodeN
  rw [h0, if_neg (by omega)]
  split
  · split
    · assumption
    · simp
  · split
    · split
      · rename_i h1; exact Nat.le_trans (by omega) h1.1
      · simp
    · split
      · split
        · rename_i h1; exact Nat.le_trans (by omega) h1.1
        · simp
      · simp

set_option maxHeartbeats 400000 in
set_option maxRecDepth 100000 in
theorem simpleFold_any {w : World} (g : Glob w) (k v : Nat) (h : (k, v) ∈ foldPairs) :
    Calls Tryz.prog 197 #[.int .i32 k] w fun e w' => e = .returned (.int .i32 v) ∧ w = w' := by
  have hc := g.fold _ h
  have hb : k < 128 ∧ v < 128 := by
    have : ∀ p ∈ foldPairs, p.1 < 128 ∧ p.2 < 128 := by decide
    exact this _ h
  obtain ⟨hk, hv⟩ := hb
  clear h g
  go_enter Tryz.func197, Tryz.ntmps197
  go_wp2_with fail
  go_ret
  exact ⟨rfl, rfl⟩

set_option maxHeartbeats 4000000 in
set_option maxRecDepth 100000 in
theorem equalFold_high {w : World} (g : Glob w) (l : Bytes) (hl : l.length ≤ 1048576) (ha : ascii l = false) :
    Calls Tryz.prog 166 #[str l, str [120, 109, 108]] w fun e w' => e = .returned (.bool false) ∧ Below w.heap.size w w' := by
  have HA := Lib.hid ha
  have HG := Lib.hid g
  obtain ⟨M, hM⟩ : ∃ M : Nat, min (l.length : Int) 3 = (M : Int) := ⟨min l.length 3, by omega⟩
  have hM1 : M ≤ l.length := by omega
  have hM2 : M ≤ 3 := by omega
  have hM3 : M = l.length ∨ M = 3 := by omega
  have HM3 := Lib.hid hM3
  clear ha g hM3
  go_enter Tryz.func166, Tryz.ntmps166
  go_wp2_with fail
  refine wp_scope_fwd 0 rfl ?_
  go_wp2_with fail
  go_loopg [5] M (fun gk s5 wx => w = wx ∧ ∃ i : Nat, i + gk = M ∧ s5 = .int .i64 i ∧ Hid (ascii (l.take i) = true))
  case atStart => exact ⟨rfl, 0, by omega, rfl, rfl⟩
  case round =>
    obtain ⟨rfl, i, hig, rfl, HI⟩ := hrel
    cases gk with
    | zero =>
      have hiM : ¬ ((i : Int) < (M : Int)) := by omega
      have hne : ((l.length : Int) == 3) = false := by
        rw [beq_eq_false_iff_ne]
        intro h3
        have : l.take i = l := List.take_of_length_le (by omega)
        have h1 := HI.out
        rw [this, HA.out] at h1
        cases h1
      clear hM
      go_wp2_with fail
      simp only [Exit.jump]
      go_ret
      exact ⟨rfl, Below.refl _ _⟩
    | succ g =>
      have hil : i < l.length := by omega
      have hiM : (i : Int) < (M : Int) := by omega
      have hisz : (i : Int) < (l.length : Int) := by omega
      have hitz : (i : Int) < (3 : Int) := by omega
      obtain ⟨x, hx⟩ : ∃ x : UInt8, (⟨l.toArray⟩ : ByteArray)[i]'(by simpa [ByteArray.size] using hil) = x := ⟨_, rfl⟩
      have hxl : l[i] = x := hx
      obtain ⟨c, u, tl, hdrop, hm1, hm2, hy, hcb, hub, hcu⟩ : ∃ (c : UInt8) (u : Nat) (tl : Bytes), ([120, 109, 108] : Bytes).drop i = c :: tl ∧ (c.toNat, u) ∈ foldPairs ∧ (u, c.toNat) ∈ foldPairs ∧
          (⟨#[120, 109, 108]⟩ : ByteArray)[i]'(by show i < 3; omega) = c ∧ (97 ≤ c.toNat ∧ c.toNat ≤ 122) ∧ u < 97 ∧ u ≠ c.toNat := by
        have h3 : i = 0 ∨ i = 1 ∨ i = 2 := by omega
        rcases h3 with rfl | rfl | rfl
        · exact ⟨120, 88, [109, 108], rfl, by decide, by decide, rfl, by decide, by decide, by decide⟩
        · exact ⟨109, 77, [108], rfl, by decide, by decide, rfl, by decide, by decide, by decide⟩
        · exact ⟨108, 76, [], rfl, by decide, by decide, rfl, by decide, by decide, by decide⟩
      have hx256 := x.toNat_lt
      have hc256 := c.toNat_lt
      have hor : bits .or .u8 (x.toNat : Int) (c.toNat : Int) = ((x.toNat ||| c.toNat : Nat) : Int) := u8_or_nat _ _ (by omega) (by omega)
      have HXL := Lib.hid hxl
      have HDR := Lib.hid hdrop
      have HM1 := Lib.hid hm1
      have HM2 := Lib.hid hm2
      clear hM hxl hdrop hm1 hm2
      by_cases hx128 : 128 ≤ x.toNat
      · have hor128 : (128 : Int) ≤ ((x.toNat ||| c.toNat : Nat) : Int) := by have := Nat.left_le_or (n := x.toNat) (m := c.toNat); omega
        have hdl : l.drop i = x :: l.drop (i + 1) := by rw [List.drop_eq_getElem_cons hil, HXL.out]
        have hrune := decode_high (l.drop (i + 1)) hx128
        rw [← hdl] at hrune
        have hrmax := Lib.decodeL_rune (l.drop i)
        have he1 : (⟨l.toArray⟩ : ByteArray).extract i l.length = ⟨(l.drop i).toArray⟩ := extract_tail l i
        have he2 : (⟨#[120, 109, 108]⟩ : ByteArray).extract i 3 = ⟨(c :: tl).toArray⟩ := by
          have := extract_tail [120, 109, 108] i
          rw [HDR.out] at this
          exact this
        have hne : l.drop i ≠ [] := by simp; omega
        have HE1 := Lib.hid he1
        have HE2 := Lib.hid he2
        have HNE := Lib.hid hne
        clear hdl he1 he2 hne
        go_wp2_with fail
        go_step3
        refine ⟨rfl, ?_⟩
        go_wp2_with fail
        rw [HE1.out, HE2.out]
        go_loopg [1] 1 (fun k v1 wr => k = 1 ∧ v1 = str (c :: tl) ∧ Hold w wr [Asn.pts w.heap.size (.stringIter ⟨(l.drop i).toArray⟩ 0)])
        case atStart => exact ⟨rfl, rfl, (Hold.start w).allocAt rfl rfl⟩
        case round =>
          obtain ⟨rfl, rfl, z⟩ := hrel
          obtain ⟨w2, hnx, z2⟩ := run_next z (by simp [ByteArray.size]; omega)
          rw [decode_list, List.drop_zero] at hnx
          have HZ := Lib.hid z2.old
          generalize (Lib.decodeL (l.drop i)).1 = r at *
          have HG2 := Lib.hid (HG.out.carry z2)
          have HX := Lib.hid z2
          clear z z2
          go_wp2_with fail
          refine (decode_any HG2.out (Hold.start w2) (c :: tl)).mono ?_
          have hdec : dec (c :: tl) = (c.toNat, 1) := by unfold dec; rw [if_neg (by simp), Lib.decodeL_ascii c tl (by omega)]
          rw [hdec]
          clear hdec
          rintro e w3 ⟨rfl, hb⟩
          have HB := Lib.hid (HZ.out.trans (hb.mono HZ.out.size))
          have HG3 := Lib.hid (HG2.out.carry ((Hold.start w2).below hb))
          clear hb
          have hne1 : ((c.toNat : Int) == (r : Int)) = false := by rw [beq_eq_false_iff_ne]; omega
          go_wp2_with fail
          refine (simpleFold_any HG3.out c.toNat u HM1.out).mono ?_
          rintro e w4 ⟨rfl, rfl⟩
          have hne2 : ((u : Int) != (c.toNat : Int)) = true := by simp; omega
          have hlt2 : (u : Int) < (r : Int) := by omega
          go_wp2_with fail
          refine wp_loop_rounds 2 ?_
          rw [rounds_succ]
          go_wp2_with fail
          refine (simpleFold_any HG3.out u c.toNat HM2.out).mono ?_
          rintro e w5 ⟨rfl, rfl⟩
          go_wp2_with fail
          rw [rounds_succ]
          go_wp2_with fail
          rw [Exit.noGoto_ret]
          go_ret
          exact ⟨rfl, HB.out⟩
      · have hx128 : x.toNat < 128 := by omega
        have hor128 : ¬ ((128 : Int) ≤ ((x.toNat ||| c.toNat : Nat) : Int)) := by have := Nat.or_lt_two_pow (n := 7) hx128 (show c.toNat < 2 ^ 7 by omega); omega
        have HN : Hid (ascii (l.take (i + 1)) = true) := by
          show _ = _
          have h1 := HI.out
          unfold ascii at h1 ⊢
          rw [List.take_succ_eq_append_getElem hil, List.all_append, h1, HXL.out]
          simp [hx128]
        go_wp2
        all_goals first
          | (go_roundg g
             case measure => omega
             case rel => exact ⟨rfl, i + 1, by omega, by go_num, HN⟩)
          | (simp only [Exit.jump]
             go_ret
             exact ⟨rfl, Below.refl _ _⟩)

theorem equalFold_any {w : World} (g : Glob w) (l : Bytes) (hl : l.length ≤ 1048576) :
    Calls Tryz.prog 166 #[str l, str [120, 109, 108]] w fun e w' => e = .returned (.bool (isXml l)) ∧ Below w.heap.size w w' := by
  cases ha : ascii l
  · have : isXml l = false := by
      cases hx : isXml l
      · rfl
      · rw [isXml_ascii l hx] at ha; cases ha
    rw [this]
    exact equalFold_high g l hl ha
  · refine (Tryz.strings_EqualFold ⟨l.toArray⟩ ⟨#[120, 109, 108]⟩ w (by simp [ByteArray.size]; omega) (ascii_get ha) (ascii_get (by decide : ascii [120, 109, 108] = true))).mono ?_
    rintro e w' ⟨rfl, rfl⟩
    exact ⟨by rw [isXml_fold], Below.refl _ _⟩
end Go.Proofs.YtahfcgjlcdbnjaaGreatDoor
/- pi: a processing instruction is passed. -/
namespace Go.Proofs.YtahfcgjlcdbnjaaGreatDoor
open Go.RowKit

theorem cut_length_le (l t : Bytes) : (Lib.cut l t).1.length ≤ l.length := by
  unfold Lib.cut
  split
  · simp only [List.length_take]; omega
  · exact Nat.le_refl _

/-- A processing instruction is passed. -/
def pi (s : ByteArray) (σ : St) (keep : Bool) : M Unit :=
  let n := name s (σ.to (σ.pos + 2))
  if n.1.2 && !isXml n.1.1 then
    let u := upto s n.2 [63, 62]
    if u.1.2 && (u.1.1.isEmpty || decide ((trimB u.1.1).length < u.1.1.length)) then
      if keep then flushAdd u.2 ⟨6, n.1.1, [], trimB u.1.1⟩ σ.pos else .ok ((), u.2)
    else .error (5, σ.pos)
  else .error (5, σ.pos)

section
variable {W w : World} {L : List Asn} {b : Nat} {s : ByteArray} {σ : St}

set_option maxHeartbeats 6000000 in
set_option maxRecDepth 100000 in
theorem pi_any (g : Glob W) (keep : Bool) (x : Hold W w (Scn b s σ :: L)) (h : Ok s σ) (hp : σ.pos + 2 ≤ s.size) :
    Calls Tryz.prog 127 #[.pointer (some ⟨b, 0, none⟩), .bool keep] w (Post W L b s nothing (pi s σ keep)) := by
  have hc1 := Scn.posCell x
  have hf := Scn.free x 1
  have h1 := h.size
  have hO := h.to hp
  have HM := Lib.hid (Scn.move x (σ.pos + 2) ((σ.pos : Int) + 2) (by push_cast; rfl))
  have HK := Lib.hid hO
  have HG := Lib.hid g
  have HNL := Lib.hid (word_length s (σ.to (σ.pos + 2)) false hO)
  clear x h hO g
  go_enter Tryz.func127, Tryz.ntmps127
  go_wp2_with fail
  refine (name_any HG.out HM.out HK.out).mono ?_
  rintro e w21 ⟨rfl, z⟩
  obtain ⟨⟨⟨nm, ok⟩, σ1⟩, hq⟩ : ∃ q, name s (σ.to (σ.pos + 2)) = q := ⟨_, rfl⟩
  have hk := HK.out.name
  rw [hq] at hk
  simp only [hq] at z ⊢
  have hnl : nm.length ≤ 32768 := by
    have e : (name s (σ.to (σ.pos + 2))).1.1 = nm := by rw [hq]
    rw [← e]
    exact HNL.out
  have HQ1 := Lib.hid hq
  have HZ1 := Lib.hid z
  have HK1 := Lib.hid hk
  clear hq z hk
  cases ok
  · go_wp2_with fail
    refine (must_no _).mono ?_
    rintro e w9 ⟨rfl, rfl⟩
    go_wp2_with fail
    refine ⟨rfl, ?_⟩
    rw [show pi s σ keep = .error (5, σ.pos) from by simp only [pi, HQ1.out]; rfl]
    exact ⟨rfl, HZ1.out.drop⟩
  · go_wp2_with fail
    refine (equalFold_any (HG.out.carry HZ1.out) nm (by omega)).mono ?_
    rintro e w22 ⟨rfl, hb⟩
    have HZ2 := Lib.hid (HZ1.out.below hb)
    clear hb
    cases hx : isXml nm
    · have HXM := Lib.hid hx
      clear hx
      go_wp2_with fail
      refine (must_yes _).mono ?_
      rintro e w8 ⟨rfl, rfl⟩
      go_wp2_with fail
      refine (until_any HG.out HZ2.out HK1.out [63, 62]).mono ?_
      rintro e w23 ⟨rfl, z⟩
      obtain ⟨⟨⟨tx, ok2⟩, σ2⟩, hq⟩ : ∃ q, upto s σ1 [63, 62] = q := ⟨_, rfl⟩
      have hk := HK1.out.upto [63, 62]
      rw [hq] at hk
      simp only [hq] at z ⊢
      have htl : tx.length ≤ 32768 := by
        have hu : (upto s σ1 [63, 62]).1.1 = tx := by rw [hq]
        rw [← hu]; unfold upto; exact Nat.le_trans (cut_length_le _ _) (by rw [rest_length]; omega)
      have HQ3 := Lib.hid hq
      have HZ3 := Lib.hid z
      have HK3 := Lib.hid hk
      clear hq z hk
      go_wp2_with fail
      refine (trimLeft_any tx).mono ?_
      rintro e w24 ⟨rfl, hb⟩
      have HZ4 := Lib.hid (HZ3.out.below hb)
      clear hb
      have htr := trimB_le tx
      generalize htm : trimB tx = tm at *
      have HTM := Lib.hid htm
      clear htm
      cases ok2
      · go_wp2_with fail
        refine (must_no _).mono ?_
        rintro e w9 ⟨rfl, rfl⟩
        go_wp2_with fail
        refine ⟨rfl, ?_⟩
        rw [show pi s σ keep = .error (5, σ.pos) from by simp only [pi, HQ1.out, HXM.out, HQ3.out, HTM.out]; rfl]
        exact ⟨rfl, HZ4.out.drop⟩
      · cases tx with
        | nil =>
          go_wp2_with fail
          refine (must_yes _).mono ?_
          rintro e w8 ⟨rfl, rfl⟩
          cases keep
          · go_wp2_with fail
            go_end0
            rw [show pi s σ false = .ok ((), σ2) from by simp only [pi, HQ1.out, HXM.out, HQ3.out, HTM.out]; rfl]
            exact ⟨rfl, HZ4.out⟩
          · go_wp2_with fail
            refine (flush_any HZ4.out HK3.out).mono ?_
            intro e wf hpost
            cases hfl : flush σ2 with
            | error er =>
              obtain ⟨en, ep⟩ := er
              rw [hfl] at hpost
              obtain ⟨rfl, z⟩ := hpost
              have HR : Hid (flushAdd σ2 ⟨6, nm, [], tm⟩ σ.pos = .error (en, ep)) := by show _ = _; unfold flushAdd; rw [hfl]
              have HZE := Lib.hid z
              clear hfl z
              go_wp2_with fail
              refine ⟨rfl, ?_⟩
              rw [show pi s σ true = .error (en, ep) from by simp only [pi, HQ1.out, HXM.out, HQ3.out, HTM.out, HR.out]; rfl]
              exact ⟨rfl, HZE.out⟩
            | ok r =>
              obtain ⟨_, σf⟩ := r
              rw [hfl] at hpost
              obtain ⟨rfl, z⟩ := hpost
              have HOF := Lib.hid (HK3.out.flush hfl)
              have HFL := Lib.hid hfl
              have HZF := Lib.hid ((Row.nil (e := 45) (size := 2) z).f1)
              clear hfl z
              go_wp2_with fail
              refine (add_any ⟨6, nm, [], tm⟩ (.slice none 0 0) σ.pos HZF.out HOF.out).mono ?_
              intro e wa hpost
              cases had : add σf ⟨6, nm, [], tm⟩ σ.pos with
              | error er =>
                obtain ⟨en, ep⟩ := er
                rw [had] at hpost
                obtain ⟨rfl, z⟩ := hpost
                have HR : Hid (flushAdd σ2 ⟨6, nm, [], tm⟩ σ.pos = .error (en, ep)) := by show _ = _; unfold flushAdd; rw [HFL.out]; exact had
                have HZE := Lib.hid z
                clear had z
                go_wp2_with fail
                refine ⟨rfl, ?_⟩
                rw [show pi s σ true = .error (en, ep) from by simp only [pi, HQ1.out, HXM.out, HQ3.out, HTM.out, HR.out]; rfl]
                exact ⟨rfl, HZE.out⟩
              | ok r =>
                obtain ⟨_, σa⟩ := r
                rw [had] at hpost
                obtain ⟨rfl, z⟩ := hpost
                have hfa : flushAdd σ2 ⟨6, nm, [], tm⟩ σ.pos = .ok ((), σa) := by unfold flushAdd; rw [HFL.out]; exact had
                have HR := Lib.hid hfa
                have HPT := Lib.hid (flushAdd_parts hfa)
                have HKA := Lib.hid (HK3.out.flushAdd hfa)
                have HZA := Lib.hid z
                clear had z hfa
                go_wp2_with fail
                go_end0
                rw [show pi s σ true = .ok ((), σa) from by simp only [pi, HQ1.out, HXM.out, HQ3.out, HTM.out, HR.out]; rfl]
                exact ⟨rfl, HZA.out⟩
        | cons c tl =>
          by_cases hlt : tm.length < (c :: tl).length
          · have hlt1 : decide ((tm.length : Int) < (tl.length : Int) + 1) = true := decide_eq_true (by simp at hlt; omega)
            have HTR := Lib.hid (decide_eq_true hlt)
            clear hlt
            go_wp2_with fail
            refine (must_yes _).mono ?_
            rintro e w8 ⟨rfl, rfl⟩
            cases keep
            · go_wp2_with fail
              go_end0
              rw [show pi s σ false = .ok ((), σ2) from by simp only [pi, HQ1.out, HXM.out, HQ3.out, HTM.out, HTR.out]; rfl]
              exact ⟨rfl, HZ4.out⟩
            · go_wp2_with fail
              refine (flush_any HZ4.out HK3.out).mono ?_
              intro e wf hpost
              cases hfl : flush σ2 with
              | error er =>
                obtain ⟨en, ep⟩ := er
                rw [hfl] at hpost
                obtain ⟨rfl, z⟩ := hpost
                have HR : Hid (flushAdd σ2 ⟨6, nm, [], tm⟩ σ.pos = .error (en, ep)) := by show _ = _; unfold flushAdd; rw [hfl]
                have HZE := Lib.hid z
                clear hfl z
                go_wp2_with fail
                refine ⟨rfl, ?_⟩
                rw [show pi s σ true = .error (en, ep) from by simp only [pi, HQ1.out, HXM.out, HQ3.out, HTM.out, HTR.out, HR.out]; rfl]
                exact ⟨rfl, HZE.out⟩
              | ok r =>
                obtain ⟨_, σf⟩ := r
                rw [hfl] at hpost
                obtain ⟨rfl, z⟩ := hpost
                have HOF := Lib.hid (HK3.out.flush hfl)
                have HFL := Lib.hid hfl
                have HZF := Lib.hid ((Row.nil (e := 45) (size := 2) z).f1)
                clear hfl z
                go_wp2_with fail
                refine (add_any ⟨6, nm, [], tm⟩ (.slice none 0 0) σ.pos HZF.out HOF.out).mono ?_
                intro e wa hpost
                cases had : add σf ⟨6, nm, [], tm⟩ σ.pos with
                | error er =>
                  obtain ⟨en, ep⟩ := er
                  rw [had] at hpost
                  obtain ⟨rfl, z⟩ := hpost
                  have HR : Hid (flushAdd σ2 ⟨6, nm, [], tm⟩ σ.pos = .error (en, ep)) := by show _ = _; unfold flushAdd; rw [HFL.out]; exact had
                  have HZE := Lib.hid z
                  clear had z
                  go_wp2_with fail
                  refine ⟨rfl, ?_⟩
                  rw [show pi s σ true = .error (en, ep) from by simp only [pi, HQ1.out, HXM.out, HQ3.out, HTM.out, HTR.out, HR.out]; rfl]
                  exact ⟨rfl, HZE.out⟩
                | ok r =>
                  obtain ⟨_, σa⟩ := r
                  rw [had] at hpost
                  obtain ⟨rfl, z⟩ := hpost
                  have hfa : flushAdd σ2 ⟨6, nm, [], tm⟩ σ.pos = .ok ((), σa) := by unfold flushAdd; rw [HFL.out]; exact had
                  have HR := Lib.hid hfa
                  have HPT := Lib.hid (flushAdd_parts hfa)
                  have HKA := Lib.hid (HK3.out.flushAdd hfa)
                  have HZA := Lib.hid z
                  clear had z hfa
                  go_wp2_with fail
                  go_end0
                  rw [show pi s σ true = .ok ((), σa) from by simp only [pi, HQ1.out, HXM.out, HQ3.out, HTM.out, HTR.out, HR.out]; rfl]
                  exact ⟨rfl, HZA.out⟩
          · have HTR := Lib.hid (decide_eq_false hlt)
            have hlt1 : decide ((tm.length : Int) < (tl.length : Int) + 1) = false := decide_eq_false (by simp at hlt; omega)
            clear hlt
            go_wp2_with fail
            refine (must_no _).mono ?_
            rintro e w9 ⟨rfl, rfl⟩
            go_wp2_with fail
            refine ⟨rfl, ?_⟩
            rw [show pi s σ keep = .error (5, σ.pos) from by simp only [pi, HQ1.out, HXM.out, HQ3.out, HTM.out, HTR.out]; rfl]
            exact ⟨rfl, HZ4.out.drop⟩
    · have HXM := Lib.hid hx
      clear hx
      go_wp2_with fail
      refine (must_no _).mono ?_
      rintro e w9 ⟨rfl, rfl⟩
      go_wp2_with fail
      refine ⟨rfl, ?_⟩
      rw [show pi s σ keep = .error (5, σ.pos) from by simp only [pi, HQ1.out, HXM.out]; rfl]
      exact ⟨rfl, HZ2.out.drop⟩
end
end Go.Proofs.YtahfcgjlcdbnjaaGreatDoor
