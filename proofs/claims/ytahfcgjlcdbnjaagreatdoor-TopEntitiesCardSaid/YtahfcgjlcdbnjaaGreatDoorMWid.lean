/- xchar.IsText; tokens as they lie in a memory that stands. -/
import Derived.Test.YtahfcgjlcdbnjaaGreatDoorMWr3
import Derived.Test.YtahfcgjlcdbnjaaGreatDoorMScn3
import Derived.Test.YtahfcgjlcdbnjaaGreatDoorMPi
import Derived.Test.YtahfcgjlcdbnjaaGreatDoorMExp2
namespace Go.Proofs.YtahfcgjlcdbnjaaGreatDoor
open Go.RowKit

section
variable {W w : World} {L : List Asn}

set_option maxHeartbeats 4000000 in
set_option maxRecDepth 100000 in
theorem bad_any (g : Glob w) (l : Bytes) (hl : l.length ≤ 9223372036854775807) :
    Calls Tryz.prog 204 #[str l] w fun e w' => ∃ p en : Int, e = .returned (.tuple #[.int .i64 p, .int .i64 en]) ∧ ((isText l = true ∧ en = 0) ∨ (isText l = false ∧ (en = 3 ∨ en = 4))) ∧ Below w.heap.size w w' := by
  have HG := Lib.hid g
  obtain ⟨tot, htot⟩ : ∃ r, isText l = r := ⟨_, rfl⟩
  have HTT : Hid (isText (l.drop 0) = tot) := htot
  rw [htot]
  clear g htot
  go_enter Tryz.func204, Tryz.ntmps204
  go_wp2_with fail
  go_loopg [] l.length (fun gk wr => ∃ p : Nat, Hold w wr [Asn.pts w.heap.size (.stringIter ⟨l.toArray⟩ p)] ∧ l.length ≤ gk + p ∧ p ≤ l.length ∧ Hid (isText (l.drop p) = tot))
  case atStart => exact ⟨0, (Hold.start w).allocAt rfl rfl, by omega, by omega, HTT⟩
  case round =>
    obtain ⟨p, z, hk, hpl, HB⟩ := hrel
    have HZ := Lib.hid z
    by_cases hp : p < l.length
    · obtain ⟨w2, hnx, z2⟩ := run_next z (by simpa [ByteArray.size] using hp)
      rw [decode_list] at hnx z2
      have hne : l.drop p ≠ [] := by simp; omega
      have hle := Lib.decodeL_le _ hne
      rw [List.length_drop] at hle
      have hw1 := Lib.decodeL_width (l.drop p)
      have hru := Lib.decodeL_rune (l.drop p)
      have hbv : isText (l.drop p) = tot := HB.out
      rw [isText_step hne, List.drop_drop] at hbv
      have hbr : badR (l.drop p) = (!isChar (Lib.decodeL (l.drop p)).1 || ((Lib.decodeL (l.drop p)).1 == 65533 && (Lib.decodeL (l.drop p)).2 == 1)) := rfl
      rw [hbr] at hbv
      have hdec : dec (l.drop p) = Lib.decodeL (l.drop p) := by unfold dec; rw [if_neg hne]
      have HDC := Lib.hid hdec
      clear hbr
      generalize Lib.decodeL (l.drop p) = d at *
      obtain ⟨r, wd⟩ := d
      have HBV := Lib.hid hbv
      have HZ2 := Lib.hid z2
      have hex : (⟨l.toArray⟩ : ByteArray).extract p l.length = ⟨(l.drop p).toArray⟩ := extract_tail l p
      have HEX := Lib.hid hex
      have hru : r ≤ 1114111 := hru
      have hle : wd ≤ l.length - p := hle
      have hw1 : 1 ≤ wd := hw1
      clear z z2 hne hbv hdec hex
      have tail : ∀ w3, Hid (Hold w w3 [Asn.pts w.heap.size (.stringIter ⟨l.toArray⟩ (p + wd))]) → Calls Tryz.prog 59 #[.int .i32 r] w3 fun e w' => e = .returned (.bool (isChar r)) ∧ Hid (Hold w w' [Asn.pts w.heap.size (.stringIter ⟨l.toArray⟩ (p + wd))]) := fun w3 H3 =>
        (isChar_any r w3 (by omega)).mono fun e w4 h => ⟨h.1, Lib.hid (H3.out.below h.2)⟩
      by_cases h65 : r = 65533
      · have h65' : ((r : Int) == 65533) = true := by rw [h65]; rfl
        by_cases hw : wd = 1
        · have hw' : ((wd : Int) == 1) = true := by rw [hw]; rfl
          have hbv := HBV.out
          rw [if_pos (by simp [h65, hw])] at hbv
          subst hbv
          clear h65 hw
          go_wp2_with fail
          rw [HEX.out]
          refine (decode_any (HG.out.carry HZ2.out) (Hold.start w2) (l.drop p)).mono ?_
          rw [HDC.out]
          rintro e w3 ⟨rfl, hb⟩
          have HZ3 := Lib.hid (HZ2.out.below hb)
          clear hb
          go_wp2_with fail
          go_ret2
          first | exact ⟨_, _, rfl, .inr ⟨rfl, .inl rfl⟩, HZ3.out.old⟩ | exact ⟨_, _, rfl, .inl rfl, HZ3.out.old⟩
        · have hw' : ((wd : Int) == 1) = false := by rw [beq_eq_false_iff_ne]; omega
          have hbv := HBV.out
          have hd1 : ((r : Nat) == 65533 && wd == 1) = false := by simp [hw]
          simp only [hd1, Bool.or_false] at hbv
          have HBV2 := Lib.hid hbv
          clear h65 hw hbv hd1
          go_wp2_with fail
          rw [HEX.out]
          refine (decode_any (HG.out.carry HZ2.out) (Hold.start w2) (l.drop p)).mono ?_
          rw [HDC.out]
          rintro e w3 ⟨rfl, hb⟩
          have HZ3 := Lib.hid (HZ2.out.below hb)
          clear hb
          go_wp2_with fail
          refine (tail w3 HZ3).mono ?_
          rintro e w4 ⟨rfl, HZ4⟩
          cases hic : isChar (r : Int)
          · have hbv := HBV2.out
            rw [if_pos (by simp [hic])] at hbv
            subst hbv
            clear hic tail
            go_wp2_with fail
            go_ret2
            first | exact ⟨_, _, rfl, .inr ⟨rfl, .inr rfl⟩, HZ4.out.old⟩ | exact ⟨_, _, rfl, .inr rfl, HZ4.out.old⟩
          · have hbv := HBV2.out
            rw [if_neg (by simp [hic])] at hbv
            have HN := Lib.hid hbv
            clear hic hbv tail
            go_wp2_with fail
            go_roundg (gk - wd)
            case measure => omega
            case rel => exact ⟨p + wd, HZ4.out, by omega, by omega, HN⟩
      · have h65' : ((r : Int) == 65533) = false := by rw [beq_eq_false_iff_ne]; omega
        have hbv := HBV.out
        have hd1 : ((r : Nat) == 65533 && wd == 1) = false := by simp [h65]
        simp only [hd1, Bool.or_false] at hbv
        have HBV2 := Lib.hid hbv
        clear h65 hbv hd1
        go_wp2_with fail
        refine (tail w2 HZ2).mono ?_
        rintro e w4 ⟨rfl, HZ4⟩
        cases hic : isChar (r : Int)
        · have hbv := HBV2.out
          rw [if_pos (by simp [hic])] at hbv
          subst hbv
          clear hic tail
          go_wp2_with fail
          go_ret2
          first | exact ⟨_, _, rfl, .inr ⟨rfl, .inr rfl⟩, HZ4.out.old⟩ | exact ⟨_, _, rfl, .inr rfl, HZ4.out.old⟩
        · have hbv := HBV2.out
          rw [if_neg (by simp [hic])] at hbv
          have HN := Lib.hid hbv
          clear hic hbv tail
          go_wp2_with fail
          go_roundg (gk - wd)
          case measure => omega
          case rel => exact ⟨p + wd, HZ4.out, by omega, by omega, HN⟩
    · have hov := run_over z (by simpa [ByteArray.size] using hp)
      have hbn : tot = true := by
        have hd : l.drop p = [] := by simp; omega
        rw [← HB.out, hd]; rfl
      subst hbn
      clear z
      go_wp2_with fail
      go_ret2
      first | exact ⟨_, _, rfl, .inl ⟨rfl, rfl⟩, HZ.out.old⟩ | exact ⟨_, _, rfl, rfl, HZ.out.old⟩

set_option maxRecDepth 100000 in
theorem isText_any (g : Glob w) (l : Bytes) (hl : l.length ≤ 9223372036854775807) :
    Calls Tryz.prog 174 #[str l] w fun e w' => e = .returned (.bool (isText l)) ∧ Below w.heap.size w w' := by
  have HG := Lib.hid g
  clear g
  go_enter Tryz.func174, Tryz.ntmps174
  go_wp2_with fail
  refine (bad_any HG.out l hl).mono ?_
  rintro e w1 ⟨p, en, rfl, hc, hb⟩
  have HB := Lib.hid hb
  clear hb
  rcases hc with ⟨ht, rfl⟩ | ⟨ht, rfl | rfl⟩
  all_goals
    have HT := Lib.hid ht
    clear ht
    go_wp2_with fail
    go_ret
    exact ⟨by rw [HT.out]; rfl, HB.out⟩
end
end Go.Proofs.YtahfcgjlcdbnjaaGreatDoor
/- Tokens as they lie in a memory that stands; may one stand in a document, by itself? -/
namespace Go.Proofs.YtahfcgjlcdbnjaaGreatDoor
open Go.RowKit

/-- Attributes as they lie. -/
def AttrsAt (w : World) (av : Value) (l : List (Bytes × Bytes)) : Prop :=
  ∃ a c, av = .slice a l.length c ∧ (0 < l.length → ∃ h o, a = some ⟨h, o, none⟩ ∧ ∀ (j : Nat) p, l[j]? = some p → w.cell? ⟨h, o + j * 2, none⟩ = some (str p.1) ∧ w.cell? ⟨h, o + j * 2 + 1, none⟩ = some (str p.2))
/-- A token's cells. -/
structure TokAt (w : World) (h o : Nat) (t : Tok) (av : Value) : Prop where
  kind : w.cell? ⟨h, o, none⟩ = some (.int .i64 t.kind)
  name : w.cell? ⟨h, o + 1, none⟩ = some (str t.name)
  attrs : w.cell? ⟨h, o + 2, none⟩ = some av
  text : w.cell? ⟨h, o + 3, none⟩ = some (str t.text)
  at_ : AttrsAt w av t.attrs
/-- A row of tokens. -/
def TokRow (w : World) (v : Value) (l : List Tok) : Prop :=
  ∃ a c, v = .slice a l.length c ∧ (0 < l.length → ∃ h o, a = some ⟨h, o, none⟩ ∧ ∀ (i : Nat) t, l[i]? = some t → ∃ av, TokAt w h (o + i * 4) t av)
/-- A token whose texts are not too great. -/
structure SmallTok (t : Tok) : Prop where
  name : t.name.length ≤ 1048576
  text : t.text.length ≤ 1048576
  many : t.attrs.length ≤ 1048576
  attrs : ∀ p ∈ t.attrs, p.1.length ≤ 1048576 ∧ p.2.length ≤ 1048576

section
variable {W w w' : World} {L : List Asn}

theorem AttrsAt.keep {av : Value} {l : List (Bytes × Bytes)} (h : AttrsAt w av l) (x : Hold w w' L) : AttrsAt w' av l := by
  obtain ⟨a, c, e, hc⟩ := h
  refine ⟨a, c, e, fun hp => ?_⟩
  obtain ⟨h, o, e, hc⟩ := hc hp
  exact ⟨h, o, e, fun j p hj => ⟨x.oldCell (hc j p hj).1, x.oldCell (hc j p hj).2⟩⟩
theorem TokAt.keep {h o : Nat} {t : Tok} {av : Value} (k : TokAt w h o t av) (x : Hold w w' L) : TokAt w' h o t av :=
  ⟨x.oldCell k.kind, x.oldCell k.name, x.oldCell k.attrs, x.oldCell k.text, k.at_.keep x⟩
theorem TokRow.keep {v : Value} {l : List Tok} (h : TokRow w v l) (x : Hold w w' L) : TokRow w' v l := by
  obtain ⟨a, c, e, hc⟩ := h
  refine ⟨a, c, e, fun hp => ?_⟩
  obtain ⟨h, o, e, hc⟩ := hc hp
  exact ⟨h, o, e, fun i t hi => by obtain ⟨av, k⟩ := hc i t hi; exact ⟨av, k.keep x⟩⟩

/-- A set of texts. -/
def Seen (m : Nat) (ks : List Bytes) : Asn := Asn.ex fun es : Array MapEntry => Asn.ex fun clock : Nat =>
  Asn.star (Asn.pure (es.toList.map (fun e => (e.key, e.val)) = ks.map fun k => (str k, Value.bool true))) (Asn.pts m (.map es clock))
theorem Seen.out {m : Nat} {ks : List Bytes} (x : Hold W w (Seen m ks :: L)) : ∃ es clock, es.toList.map (fun e => (e.key, e.val)) = ks.map (fun k => (str k, Value.bool true)) ∧ Hold W w (Asn.pts m (.map es clock) :: L) := by
  obtain ⟨es, x⟩ := x.ex
  obtain ⟨c, x⟩ := x.ex
  obtain ⟨h, x⟩ := x.sep.pure
  exact ⟨es, c, h, x⟩
theorem Seen.mk {m : Nat} {ks : List Bytes} {es : Array MapEntry} {c : Nat} (h : es.toList.map (fun e => (e.key, e.val)) = ks.map (fun k => (str k, Value.bool true))) (x : Hold W w (Asn.pts m (.map es c) :: L)) : Hold W w (Seen m ks :: L) :=
  Hold.ex' (P := fun es : Array MapEntry => Asn.ex fun clock : Nat => Asn.star (Asn.pure (es.toList.map (fun e => (e.key, e.val)) = ks.map fun k => (str k, Value.bool true))) (Asn.pts m (.map es clock))) es
    (Hold.ex' (P := fun clock : Nat => Asn.star (Asn.pure (es.toList.map (fun e => (e.key, e.val)) = ks.map fun k => (str k, Value.bool true))) (Asn.pts m (.map es clock))) c (Hold.sep' (Hold.pure' h x)))

theorem run_findB (es : List MapEntry) (ks : List Bytes) (k : Bytes) : ∀ (i : Nat), es.map (fun e => (e.key, e.val)) = ks.map (fun k => (str k, Value.bool true)) →
    (ks.contains k = true → ∃ j, Instr.findNow .string (str k) es i = some (some (j, .bool true))) ∧ (ks.contains k = false → Instr.findNow .string (str k) es i = some none) := by
  induction ks generalizing es with
  | nil =>
    intro i h
    have : es = [] := by simpa using h
    subst this
    exact ⟨fun hv => (by cases hv), fun _ => rfl⟩
  | cons p l ih =>
    intro i h
    cases es with
    | nil => cases h
    | cons e es =>
      obtain ⟨ha, h3⟩ := List.cons.inj h
      obtain ⟨h1, h2⟩ := Prod.mk.inj ha
      have ih' := ih es (i + 1) h3
      simp only [Instr.findNow, h1, h2, Instr.sameNow]
      by_cases hk : k = p
      · subst hk
        have hs : ((⟨k.toArray⟩ : ByteArray) == ⟨k.toArray⟩) = true := (Go.MapKept.bytes_beq _ _).2 rfl
        simp [hs]
      · have hne : ((⟨k.toArray⟩ : ByteArray) == ⟨p.toArray⟩) = false := by
          rw [Bool.eq_false_iff]
          intro hh
          apply hk
          have := congrArg (fun a : ByteArray => a.data.toList) ((Go.MapKept.bytes_beq _ _).1 hh)
          simpa using this
        have hb : (k == p) = false := by simpa using hk
        simp only [hne, List.contains_cons, hb, Bool.false_or]
        exact ih'

theorem run_lookupB {m : Nat} {ks : List Bytes} (x : Hold W w (Seen m ks :: L)) (k : Bytes) :
    (Instr.lookup 197 (.map (some m)) (str k) false).run Tryz.prog w = .ok (.bool (ks.contains k)) w := by
  obtain ⟨es, c, he, y⟩ := Seen.out x
  have hu : Tryz.prog.underlying 197 = some (.map 9 4) := by kernel_rfl
  have hz : ∀ w, (zeroValue 4).run Tryz.prog w = .ok (.bool false) w := fun w => by kernel_rfl
  have hf := run_findB es.toList ks k 0 he
  have hck : ∀ em w, (Instr.checkKey em 10000 9 (str k)).run Tryz.prog w = .ok () w := fun em w => checkKey_str em 9999 k w
  unfold Instr.lookup
  simp only [Sem.run_bind, run_underlying hu, Result.andThen_ok, getObj, Sem.run, y.block, hck, Instr.findKey, run_underlying undString, Sem.run_pure]
  cases hl : ks.contains k with
  | false =>
    rw [hf.2 hl]
    simp only [Sem.run_pure, Result.andThen_ok, Sem.run_bind, hz]
    rfl
  | true =>
    obtain ⟨j, hj⟩ := hf.1 hl
    rw [hj]
    simp only [Sem.run_pure, Result.andThen_ok, Sem.run_bind]
    rfl

theorem run_updateB {m : Nat} {ks : List Bytes} (x : Hold W w (Seen m ks :: L)) (k : Bytes) (hl : ks.contains k = false) :
    ∃ w', (Instr.mapUpdate 197 (.map (some m)) (str k) (.bool true)).run Tryz.prog w = .ok () w' ∧ Hold W w' (Seen m (ks ++ [k]) :: L) := by
  obtain ⟨es, c, he, y⟩ := Seen.out x
  have hu : Tryz.prog.underlying 197 = some (.map 9 4) := by kernel_rfl
  have hf := run_findB es.toList ks k 0 he
  have hck : ∀ em w, (Instr.checkKey em 10000 9 (str k)).run Tryz.prog w = .ok () w := fun em w => checkKey_str em 9999 k w
  have hlt : m < w.heap.size := lt_of_block y.block
  refine ⟨{ w with heap := w.heap.setIfInBounds m (.map (es.push { key := str k, val := .bool true, born := c }) (c + 1)) }, ?_, ?_⟩
  · unfold Instr.mapUpdate
    simp only [Sem.run_bind, run_underlying hu, Result.andThen_ok, getObj, Sem.run, y.block, hck, Instr.findKey, run_underlying undString, Sem.run_pure, hf.2 hl]
    simp [setObj, Sem.run, y.block]
  · refine Seen.mk (es := es.push { key := str k, val := .bool true, born := c }) (c := c + 1) ?_ (y.put rfl rfl rfl (by simp) (by simp [hlt]) fun j _ hj => by simp only [Array.getElem?_setIfInBounds]; rw [if_neg (by omega)])
    simp [he]
end
end Go.Proofs.YtahfcgjlcdbnjaaGreatDoor
/- The law's SameTokens, of tokens that are the same. -/
namespace Go.Proofs.YtahfcgjlcdbnjaaGreatDoor
open Go.RowKit

section
variable {W w w' : World} {L : List Asn}

set_option maxHeartbeats 4000000 in
set_option maxRecDepth 100000 in
theorem same_any (l : List Tok) (v1 v2 : Value) (hv1 : TokRow w v1 l) (hv2 : TokRow w v2 l) (hl : l.length ≤ 1048576) (hs : ∀ t ∈ l, t.attrs.length ≤ 1048576) :
    Calls Tryz.prog 17 #[v1, v2] w fun e w' => e = .returned (.bool true) ∧ Hold w w' [] := by
  obtain ⟨aa, ac, rfl, hrow⟩ := hv1
  obtain ⟨ba, bc, rfl, hrow2⟩ := hv2
  obtain ⟨n, hn⟩ : ∃ n, n = l.length := ⟨_, rfl⟩
  rw [← hn] at hrow hrow2 hl ⊢
  have HN := Lib.hid hn
  have HA := Lib.hid hrow
  have HB := Lib.hid hrow2
  have HS := Lib.hid hs
  clear hn hrow hrow2 hs
  go_enter Tryz.func17, Tryz.ntmps17
  go_wp2_with fail
  go_loopg [5] n (fun gk v5 wr => ∃ j : Nat, v5 = .int .i64 j ∧ gk + j = n ∧ Hid (Hold w wr []))
  case atStart => exact ⟨0, rfl, by omega, Lib.hid (Hold.start w)⟩
  case round =>
    obtain ⟨j, rfl, hig, HZ⟩ := hrel
    rename World => wo
    obtain ⟨G, hG⟩ : ∃ G, G = gk := ⟨_, rfl⟩
    have HGG : Hid (G + j = n) := by show _ = _; omega
    clear hG
    by_cases hlt : j < n
    · have hlt' : (j : Int) < (n : Int) := by omega
      obtain ⟨t, ht⟩ : ∃ t, l[j]? = some t := ⟨_, List.getElem?_eq_getElem (by have := HN.out; omega)⟩
      obtain ⟨h, o, rfl, hcells⟩ := HA.out (by omega)
      obtain ⟨h2, o2, rfl, hcells2⟩ := HB.out (by omega)
      obtain ⟨av, hta⟩ := hcells j t ht
      obtain ⟨av2, hta2⟩ := hcells2 j t ht
      obtain ⟨ta, tc, hav, hat⟩ := hta.at_
      obtain ⟨ta2, tc2, hav2, hat2⟩ := hta2.at_
      subst hav
      subst hav2
      have hm := HS.out t (List.mem_of_getElem? ht)
      obtain ⟨m, hmm⟩ : ∃ m, m = t.attrs.length := ⟨_, rfl⟩
      rw [← hmm] at hta hta2 hat hat2 hm
      have HT := Lib.hid hta
      have HT2 := Lib.hid hta2
      have HAT := Lib.hid hat
      have HAT2 := Lib.hid hat2
      have HM := Lib.hid hmm
      have c0 := HZ.out.oldCell hta.kind
      have c1 := HZ.out.oldCell hta.name
      have c2 := HZ.out.oldCell hta.attrs
      have c3 := HZ.out.oldCell hta.text
      have d0 := HZ.out.oldCell hta2.kind
      have d1 := HZ.out.oldCell hta2.name
      have d2 := HZ.out.oldCell hta2.attrs
      have d3 := HZ.out.oldCell hta2.text
      clear hcells hcells2 hta hta2 hat hat2 hmm ht
      go_wp2_with fail
      go_quiet (fail)
      have HZ2 := Lib.hid (HZ.out.drewN nq)
      clear c0 c1 c2 c3 d0 d1 d2 d3
      generalize wo.drewN nq = w2 at *
      go_wp2_with fail
      go_loopg [6] m (fun gk v6 wr => ∃ k : Nat, v6 = .int .i64 k ∧ gk + k = m ∧ Hid (Hold w wr []))
      case atStart => exact ⟨0, rfl, by omega, HZ2⟩
      case round =>
        obtain ⟨k, rfl, hig2, HZK⟩ := hrel
        have c2 := HZK.out.oldCell HT.out.attrs
        have d2 := HZK.out.oldCell HT2.out.attrs
        by_cases hlt2 : k < m
        · have hlt2' : (k : Int) < (m : Int) := by omega
          obtain ⟨p, hp⟩ : ∃ p, t.attrs[k]? = some p := ⟨_, List.getElem?_eq_getElem (by have := HM.out; omega)⟩
          obtain ⟨h3, o3, rfl, hcs⟩ := HAT.out (by omega)
          obtain ⟨h4, o4, rfl, hcs2⟩ := HAT2.out (by omega)
          obtain ⟨n1, n2⟩ := p
          have e1 : wr.cell? ⟨h3, o3 + k * 2, none⟩ = some (str n1) := HZK.out.oldCell (hcs k _ hp).1
          have e2 : wr.cell? ⟨h3, o3 + k * 2 + 1, none⟩ = some (str n2) := HZK.out.oldCell (hcs k _ hp).2
          have f1 : wr.cell? ⟨h4, o4 + k * 2, none⟩ = some (str n1) := HZK.out.oldCell (hcs2 k _ hp).1
          have f2 : wr.cell? ⟨h4, o4 + k * 2 + 1, none⟩ = some (str n2) := HZK.out.oldCell (hcs2 k _ hp).2
          clear hcs hcs2 hp
          go_wp2_with fail
          go_quiet (fail)
          have HZ3 := Lib.hid (HZK.out.drewN nq)
          clear c2 d2 e1 e2 f1 f2
          generalize wr.drewN nq = w5 at *
          go_wp2_with fail
          go_roundg (gk - 1)
          case measure => omega
          case rel => exact ⟨k + 1, by go_num, by omega, HZ3⟩
        · have hge2 : ¬ (k : Int) < (m : Int) := by omega
          go_wp2_with fail
          go_roundg (G - 1)
          case measure => have := HGG.out; omega
          case rel => exact ⟨j + 1, by go_num, by have := HGG.out; omega, HZK⟩
    · have hge : ¬ (j : Int) < (n : Int) := by omega
      go_wp2_with fail
      go_ret
      exact ⟨rfl, HZ.out⟩
end
end Go.Proofs.YtahfcgjlcdbnjaaGreatDoor
/- Is a token among tokens that has too many attributes? -/
namespace Go.Proofs.YtahfcgjlcdbnjaaGreatDoor
open Go.RowKit

section
variable {W w w' : World} {L : List Asn}

def wide (t : Tok) : Bool := decide (64 < t.attrs.length)

set_option maxHeartbeats 400000 in
theorem wide1_any (t : Tok) (av : Value) (ha : AttrsAt w av t.attrs) :
    Calls Tryz.prog 135 #[.agg #[.int .i64 t.kind, str t.name, av, str t.text]] w fun e w' => e = .returned (.bool (wide t)) ∧ Below w.heap.size w w' := by
  obtain ⟨aa, ac, rfl, hat⟩ := ha
  obtain ⟨n, hn⟩ : ∃ n, n = t.attrs.length := ⟨_, rfl⟩
  rw [← hn] at hat ⊢
  have HN := Lib.hid hn
  clear hn hat
  go_enter Tryz.func135, Tryz.ntmps135
  go_wp2_with fail
  go_ret
  refine ⟨?_, (Below.refl _ _).alloc (Nat.le_refl _) _⟩
  unfold wide
  rw [← HN.out]
  norm_cast

abbrev wideFn : Value := .func (.func 135) #[] #[]

set_option maxHeartbeats 1000000 in
theorem wideIdx_any (l : List Tok) (v : Value) (hv : TokRow w v l) (hl : l.length ≤ 1048576) (hs : ∀ t ∈ l, t.attrs.length ≤ 1048576) :
    Calls Tryz.prog 176 #[v, wideFn] w
      fun e w' => ∃ i : Int, decide (0 ≤ i) = l.any wide ∧ e = .returned (.int .i64 i) ∧ Hold w w' [] := by
  obtain ⟨aa, ac, rfl, hrow⟩ := hv
  obtain ⟨n, hn⟩ : ∃ n, n = l.length := ⟨_, rfl⟩
  rw [← hn] at hrow hl ⊢
  have HN := Lib.hid hn
  have HA := Lib.hid hrow
  have HS := Lib.hid hs
  clear hn hrow hs
  go_enter Tryz.func176, Tryz.ntmps176
  go_wp2_with fail
  go_loopg [8] n (fun k v8 wr => ∃ j : Nat, v8 = .int .i64 j ∧ Hid (Hold w wr []) ∧ k + j = n ∧ Hid ((l.take j).any wide = false))
  case atStart => exact ⟨0, rfl, Lib.hid (Hold.start w), by simp, rfl⟩
  case round =>
    obtain ⟨j, rfl, HZ, hk, HO⟩ := hrel
    by_cases hj : j < n
    · have hj' : j < l.length := by have := HN.out; omega
      obtain ⟨t, ht⟩ : ∃ t, l[j]? = some t := ⟨_, List.getElem?_eq_getElem hj'⟩
      obtain ⟨h, o, rfl, hcells⟩ := HA.out (by omega)
      obtain ⟨av, hta⟩ := hcells j t ht
      have hta := hta.keep HZ.out
      have c0 := hta.kind
      have c1 := hta.name
      have c2 := hta.attrs
      have c3 := hta.text
      have HT := Lib.hid hta.at_
      have hsn : Hid ((l.take (j + 1)).any wide = ((l.take j).any wide || wide t)) := by
        show _ = _
        rw [any_snoc l wide j hj', (List.getElem?_eq_some_iff.1 ht).2]


      have HAN : Hid (wide t = true → l.any wide = true) := fun hh => by
        rw [List.any_eq_true]
        exact ⟨t, List.mem_of_getElem? ht, hh⟩
      clear hta hcells ht
      obtain ⟨tk, hk0⟩ : ∃ x, (t.kind : Int) = x := ⟨_, rfl⟩
      obtain ⟨tn, hk1⟩ : ∃ x, t.name = x := ⟨_, rfl⟩
      obtain ⟨tt, hk3⟩ : ∃ x, t.text = x := ⟨_, rfl⟩
      have HC : Hid (Calls Tryz.prog 135 #[.agg #[.int .i64 t.kind, str t.name, av, str t.text]] wr fun e w' => e = .returned (.bool (wide t)) ∧ Below wr.heap.size wr w') := wide1_any t av HT.out
      rw [hk0, hk1, hk3] at HC
      rw [hk0] at c0
      rw [hk1] at c1
      rw [hk3] at c3
      clear hk0 hk1 hk3
      go_wp2_with fail
      refine HC.out.mono ?_
      rintro e w2 ⟨rfl, hb⟩
      have HZ2 := Lib.hid (HZ.out.below hb)
      clear hb
      cases hq : wide t
      · have HM2 : Hid ((l.take (j + 1)).any wide = false) := by
          show _ = _
          rw [hsn.out, HO.out, hq]; rfl
        clear hq
        go_wp2_with fail
        go_roundg (gk - 1)
        case measure => omega
        case rel => exact ⟨j + 1, by go_num, HZ2, by omega, HM2⟩
      · have HM2 : Hid (l.any wide = true) := HAN.out hq
        clear hq
        go_wp2_with fail
        go_ret
        exact ⟨j, by rw [HM2.out]; simp, rfl, HZ2.out⟩
    · have HM : Hid (l.any wide = false) := by
        show _ = _
        have := HO.out
        rw [List.take_of_length_le (by have := HN.out; omega)] at this
        exact this
      go_wp2_with fail
      go_ret
      exact ⟨-1, by rw [HM.out]; rfl, rfl, HZ.out⟩

set_option maxHeartbeats 400000 in
theorem wide_any (l : List Tok) (v : Value) (hv : TokRow w v l) (hl : l.length ≤ 1048576) (hs : ∀ t ∈ l, t.attrs.length ≤ 1048576) :
    Calls Tryz.prog 134 #[v, wideFn] w
      fun e w' => e = .returned (.bool (l.any wide)) ∧ Hold w w' [] := by
  have HV := Lib.hid hv
  have HS := Lib.hid hs
  clear hv hs
  go_enter Tryz.func134, Tryz.ntmps134
  go_wp2_with fail
  refine (wideIdx_any l v HV.out hl HS.out).mono ?_
  rintro e w1 ⟨i, hi, rfl, z⟩
  have HI := Lib.hid hi
  have HZ := Lib.hid z
  clear hi z
  go_wp2_with fail
  go_ret
  exact ⟨by rw [← HI.out]; rfl, HZ.out⟩
end
end Go.Proofs.YtahfcgjlcdbnjaaGreatDoor
