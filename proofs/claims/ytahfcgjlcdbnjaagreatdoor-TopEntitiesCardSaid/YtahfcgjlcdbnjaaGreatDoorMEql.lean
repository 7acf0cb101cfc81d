/- Escape and Quote of xmlscan: by a Replacer that is made, built and used. -/
import Derived.Test.YtahfcgjlcdbnjaaGreatDoorMRep2
import Derived.Test.YtahfcgjlcdbnjaaGreatDoorMRdd
namespace Go.Proofs.YtahfcgjlcdbnjaaGreatDoor
open Go.RowKit

section
variable {W w : World} {L : List Asn} {b i : Nat} {cs : Array Value} {T : TypeId}

/-- A Replacer's cells. -/
abbrev repCells (dn st : Int) (ri ov : Value) : Array Value := #[.int .u32 dn, .int .i32 st, .int .u32 0, ri, ov]

structure PairsOk (ps : Pairs) : Prop where
  nd : (ps.map (·.1)).Nodup
  ne : ∀ p ∈ ps, p.2 ≠ []
  long : ∀ p ∈ ps, p.2.length ≠ 1
  six : ∀ p ∈ ps, p.2.length ≤ 6
  two : 2 ≤ ps.length
  ten : ps.length ≤ 10

set_option maxRecDepth 100000 in
set_option maxHeartbeats 4000000 in
theorem repNew_any (g0 m : Nat) (ps : Pairs) (hm : m = 2 * ps.length) (hp : 2 ≤ ps.length) (ht : ps.length ≤ 10)
    (x : Hold W w (Asn.pts g0 (.cells ((flatP ps).map str).toArray 9 (0, 0)) :: L)) :
    Calls Tryz.prog 136 #[.slice (some ⟨g0, 0, none⟩) m m] w fun e w' => ∃ b g cap, e = .returned (.pointer (some ⟨b, 0, none⟩)) ∧
      Hold W w' (Asn.pts b (.cells (repCells 0 0 .nilIface (.slice (some ⟨g, 0, none⟩) m cap)) 213 (0, 0)) :: Row 9 1 (.slice (some ⟨g, 0, none⟩) m cap) m ((flatP ps).map str) :: L) := by
  have hfl := flatP_len ps
  have hr : (m : Int) % 2 = 0 := by omega
  have hr' : Int.tmod (m : Int) 2 = 0 := by rw [Int.tmod_eq_emod_of_nonneg (by omega)]; exact hr
  obtain ⟨i0, hi, hz0, hz1, hz2⟩ := info_parts infoStr
  have y := (Row.nil (e := 9) (size := 1) x)
  have HM := Lib.hid hm
  have HX := Lib.hid x
  have hb1 : m ≤ 20 := by omega
  have hnw : ((flatP ps).map str).length = m * 1 := by simp [hfl, hm]
  have hone : ∀ u ∈ (flatP ps).map str, u.oneCell' = true := fun u hu => by obtain ⟨t, _, rfl⟩ := List.mem_map.1 hu; rfl
  have HONE := Lib.hid hone
  clear hone
  generalize (flatP ps).map str = news at *
  clear x hm hfl hr
  go_enter Tryz.func136, Tryz.ntmps136
  go_wp2_with (at_builtin; refine wpl_append rfl _ _ 104 rfl i0 (.string ⟨#[]⟩) 16 undStrs hi hz0 hz1 hz2 rfl (by decide) rfl y ⟨g0, 0, none⟩ m m news rfl hnw ?c1 ?c2 ?c3 ?c4 ?_)
  case c1 =>
    have := news_of HX.out
    simpa using this
  case c2 => exact HONE.out
  case c3 => unfold maxLen; omega
  case c4 => omega
  intro u w2 z
  obtain ⟨gx, cx, rfl, _, _, _⟩ := Row.read z (by have := HM.out; omega)
  have HZ := Lib.hid (((z.alloc (.cells (repCells 0 0 .nilIface (.slice (some ⟨gx, 0, none⟩) m cx)) 213)).re [0, 1, 2]).f2.drop)
  clear z y
  go_wp2_with fail
  go_ret
  first | exact ⟨_, gx, cx, rfl, HZ.out⟩ | exact ⟨_, rfl, gx, cx, HZ.out⟩

set_option maxRecDepth 100000 in
set_option maxHeartbeats 4000000 in
theorem repOnce_any (b g m cap : Nat) (ps : Pairs) (hm : m = 2 * ps.length) (h : PairsOk ps)
    (x : Hold W w (Asn.pts b (.cells (repCells 0 1 .nilIface (.slice (some ⟨g, 0, none⟩) m cap)) 213 (0, 0)) :: Row 9 1 (.slice (some ⟨g, 0, none⟩) m cap) m ((flatP ps).map str) :: L)) :
    Calls Tryz.prog 178 #[.pointer (some ⟨b, 0, none⟩)] w fun e w' => e = .returned (.tuple #[]) ∧ ∃ g', 
      Hold W w' (Asn.pts b (.cells (repCells 0 1 (.iface 258 (.pointer (some ⟨g', 0, none⟩))) (.slice none 0 0)) 213 (0, 0)) :: Own (fun w => RepTab w g' ps) :: L) := by
  have h2 := h.two
  have h10 := h.ten
  obtain ⟨gx, cx, hv, _, _, hread⟩ := Row.read x.f1 (by omega)
  cases hv
  have hs : ∀ (j : Nat) t, (flatP ps)[j]? = some t → w.cell? ⟨g, j, none⟩ = some (str t) := fun j t hj => hread j _ (by simp [hj])
  have HX := Lib.hid x
  have hc4 := x.cell 4
  have hcb : Calls Tryz.prog 208 #[.pointer (some ⟨b, 0, none⟩)] w fun e w' => ∃ g', e = .returned (.iface 258 (.pointer (some ⟨g', 0, none⟩))) ∧ RepIs w w' g' ps [] :=
    repBuild_any b g cap m ps hm hc4 hs (by omega) (by omega) h.ne h.long h.nd
  have HC := Lib.hid hcb
  have HP := Lib.hid (show 0 < ps.length by omega)
  clear x hc4 hcb hs hread h hm h2 h10
  go_enter Tryz.func178, Tryz.ntmps178
  go_wp2_with fail
  refine HC.out.mono ?_
  rintro e w1 ⟨g', rfl, hri⟩
  have y := (HX.out.join (hri.tab HP.out))
  have y : Hold W w1 (Own (fun w => RepTab w g' ps) :: Asn.pts b _ :: Row _ _ _ _ _ :: L) := y
  have y := y.f1
  have c3 := y.cell 3
  have c4 := (y.set 3 (.iface 258 (.pointer (some ⟨g', 0, none⟩)))).cell 4
  have f3 := y.free 3
  have f4 := (y.set 3 (.iface 258 (.pointer (some ⟨g', 0, none⟩)))).free 4
  have HZ := Lib.hid ((((y.set 3 (.iface 258 (.pointer (some ⟨g', 0, none⟩)))).set 4 (.slice none 0 0)).f2).drop)
  clear y hri
  go_wp2_with fail
  go_end0
  exact ⟨rfl, g', HZ.out⟩

set_option maxRecDepth 100000 in
set_option maxHeartbeats 4000000 in
theorem repReplace_any (b g m cap : Nat) (ps : Pairs) (hm : m = 2 * ps.length) (h : PairsOk ps) (s : Bytes) (hl : s.length ≤ 4294967296)
    (x : Hold W w (Asn.pts b (.cells (repCells 0 0 .nilIface (.slice (some ⟨g, 0, none⟩) m cap)) 213 (0, 0)) :: Row 9 1 (.slice (some ⟨g, 0, none⟩) m cap) m ((flatP ps).map str) :: L)) :
    Calls Tryz.prog 137 #[.pointer (some ⟨b, 0, none⟩), str s] w fun e w' => e = .returned (str (repl ps s)) ∧ Hold W w' L := by
  have HX := Lib.hid x
  have H := Lib.hid h
  have HM := Lib.hid hm
  clear x h hm
  go_enter Tryz.func137, Tryz.ntmps137
  go_wp2_with fail
  refine (onceDo_any (.pointer (some ⟨b, 0, none⟩)) (fun cs' L' => ∃ g', cs' = repCells 0 1 (.iface 258 (.pointer (some ⟨g', 0, none⟩))) (.slice none 0 0) ∧ L' = Own (fun w => RepTab w g' ps) :: L) HX.out rfl rfl (fun w1 y => (repOnce_any b g m cap ps HM.out H.out y).mono ?_)).mono ?_
  · rintro e w2 ⟨he, g', z⟩
    exact ⟨he, _, _, ⟨g', rfl, rfl⟩, rfl, rfl, z⟩
  rintro e w1 ⟨rfl, cs', L', ⟨g', rfl, rfl⟩, z⟩
  have c3 := z.cell 3
  have htab := Own.get z.f1
  have HT := Lib.hid htab
  have HZ := Lib.hid z.drop.drop
  clear z htab
  go_wp2_with fail
  refine (bsrReplace_any g' ps HT.out H.out.nd H.out.ne H.out.long H.out.six H.out.ten s hl).mono ?_
  rintro e w2 ⟨rfl, hb⟩
  have HZ2 := Lib.hid (HZ.out.below hb)
  clear hb
  go_wp2_with fail
  go_ret
  exact ⟨rfl, HZ2.out⟩

theorem escOk : PairsOk escPs := ⟨by decide, by decide, by decide, by decide, by decide, by decide⟩
theorem quoOk : PairsOk quoPs := ⟨by decide, by decide, by decide, by decide, by decide, by decide⟩

set_option maxRecDepth 100000 in
set_option maxHeartbeats 4000000 in
/-- Escape. -/
theorem escape_any (s : Bytes) (hl : s.length ≤ 4294967296) (w : World) : Calls Tryz.prog 102 #[str s] w fun e w' => e = .returned (str (esc s)) ∧ Below w.heap.size w w' := by
  have x := (Hold.start w).alloc (.cells ((flatP escPs).map str).toArray 9)
  have HX := Lib.hid x
  clear x
  go_enter Tryz.func102, Tryz.ntmps102
  go_wp2_with fail
  refine (repNew_any w.heap.size 8 escPs rfl (by decide) (by decide) HX.out).mono ?_
  rintro e w1 ⟨b, g, cap, rfl, z⟩
  have HZ := Lib.hid z
  clear z
  go_wp2_with fail
  refine (repReplace_any b g 8 cap escPs rfl escOk s hl HZ.out).mono ?_
  rintro e w2 ⟨rfl, z⟩
  have hb := z.old
  have HB := Lib.hid hb
  clear hb z
  rw [repl_esc]
  go_wp2_with fail
  go_ret
  exact ⟨rfl, HB.out⟩

set_option maxRecDepth 100000 in
set_option maxHeartbeats 4000000 in
/-- Quote. -/
theorem quote_any (s : Bytes) (hl : s.length ≤ 4294967296) (w : World) : Calls Tryz.prog 101 #[str s] w fun e w' => e = .returned (str (quo s)) ∧ Below w.heap.size w w' := by
  have x := (Hold.start w).alloc (.cells ((flatP quoPs).map str).toArray 9)
  have HX := Lib.hid x
  clear x
  go_enter Tryz.func101, Tryz.ntmps101
  go_wp2_with fail
  refine (repNew_any w.heap.size 12 quoPs rfl (by decide) (by decide) HX.out).mono ?_
  rintro e w1 ⟨b, g, cap, rfl, z⟩
  have HZ := Lib.hid z
  clear z
  go_wp2_with fail
  refine (repReplace_any b g 12 cap quoPs rfl quoOk s hl HZ.out).mono ?_
  rintro e w2 ⟨rfl, z⟩
  have hb := z.old
  have HB := Lib.hid hb
  clear hb z
  rw [repl_quo]
  go_wp2_with fail
  go_ret
  exact ⟨rfl, HB.out⟩
end
end Go.Proofs.YtahfcgjlcdbnjaaGreatDoor
/- How long an escaped text is. -/
namespace Go.Proofs.YtahfcgjlcdbnjaaGreatDoor
open Go.RowKit

theorem esc_snoc (l : Bytes) (c : UInt8) : esc (l ++ [c]) = esc l ++ escB c := by simp [esc]
theorem quo_snoc (l : Bytes) (c : UInt8) : quo (l ++ [c]) = quo l ++ quoB c := by simp [quo]
theorem esc_len (l : Bytes) : (esc l).length ≤ 6 * l.length := by rw [← repl_esc]; exact repl_le escOk.six (by decide) l
theorem quo_len (l : Bytes) : (quo l).length ≤ 6 * l.length := by rw [← repl_quo]; exact repl_le quoOk.six (by decide) l
theorem toNat_is {c : UInt8} (k : UInt8) : (c = k) = ((c.toNat : Int) = (k.toNat : Int)) := propext ⟨fun h => by rw [h], fun h => UInt8.toNat_inj.1 (by omega)⟩
theorem escB_if (c : UInt8) : escB c = if (c.toNat : Int) = 38 then [38, 97, 109, 112, 59] else if (c.toNat : Int) = 60 then [38, 108, 116, 59] else if (c.toNat : Int) = 62 then [38, 103, 116, 59] else if (c.toNat : Int) = 13 then [38, 35, 49, 51, 59] else [c] := by
  unfold escB
  simp only [toNat_is]
  rfl
theorem quoB_if (c : UInt8) : quoB c = if (c.toNat : Int) = 38 then [38, 97, 109, 112, 59] else if (c.toNat : Int) = 60 then [38, 108, 116, 59] else if (c.toNat : Int) = 34 then [38, 113, 117, 111, 116, 59] else if (c.toNat : Int) = 9 then [38, 35, 57, 59] else if (c.toNat : Int) = 10 then [38, 35, 49, 48, 59] else if (c.toNat : Int) = 13 then [38, 35, 49, 51, 59] else [c] := by
  unfold quoB
  simp only [toNat_is]
  rfl

theorem extract_at (s : Bytes) (i : Nat) (h : i < s.length) (c : UInt8) (hc : s[i] = c) : ((⟨s.toArray⟩ : ByteArray).extract i (i + 1)).data.toList = [c] := by
  rw [extract_part]
  simp only [Nat.add_sub_cancel_left]
  rw [List.drop_eq_getElem_cons h, hc]
  rfl
end Go.Proofs.YtahfcgjlcdbnjaaGreatDoor
