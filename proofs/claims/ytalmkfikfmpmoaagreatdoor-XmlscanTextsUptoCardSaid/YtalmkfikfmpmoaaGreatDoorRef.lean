/- References: what stands between & and ; and the five entities that all documents have. -/
import Derived.Test.YtalmkfikfmpmoaaGreatDoorDig
namespace Go.Proofs.YtalmkfikfmpmoaaGreatDoor
open Go.RowKit

/-- A reference at a text's begin: its length, its text, its entity. -/
def reference (l : Bytes) : Option (Nat × Bytes × Bytes) :=
  let c := Lib.cut l [59]
  if c.2.2 then
    (if Lib.hasPrefix c.1.tail [35, 120] then (digits 16 (Lib.trimPrefix c.1.tail [35, 120])).map fun t => (c.1.length + 1, t, [])
     else if Lib.hasPrefix c.1.tail [35] then (digits 10 (Lib.trimPrefix c.1.tail [35])).map fun t => (c.1.length + 1, t, [])
     else if isName c.1.tail then some (c.1.length + 1, [], c.1.tail) else none)
  else none

/-- Not said: a reference by number whose digits are no decimal number. -/
def refWild (l : Bytes) : Bool :=
  let c := Lib.cut l [59]
  c.2.2 && (if Lib.hasPrefix c.1.tail [35, 120] then digWild 16 (Lib.trimPrefix c.1.tail [35, 120]) else Lib.hasPrefix c.1.tail [35] && digWild 10 (Lib.trimPrefix c.1.tail [35]))

def refV : Option (Nat × Bytes × Bytes) → Value
  | some (n, t, e) => .tuple #[.int .i64 n, str t, str e]
  | none => .tuple #[.int .i64 0, str [], str []]

theorem extract_part (l : Bytes) (i j : Nat) : (⟨l.toArray⟩ : ByteArray).extract i j = ⟨((l.drop i).take (j - i)).toArray⟩ := bytes_ext (by rw [extract_list])
theorem extract_tail (l : Bytes) (i : Nat) : (⟨l.toArray⟩ : ByteArray).extract i l.length = ⟨(l.drop i).toArray⟩ := by
  rw [extract_part, List.take_of_length_le (by simp)]

theorem extract_one (l : Bytes) : (⟨l.toArray⟩ : ByteArray).extract 1 l.length = ⟨l.tail.toArray⟩ := by
  rw [extract_tail]; simp

section
variable {W w : World} {L : List Asn} {b : Nat} {s : ByteArray} {σ : St}

theorem cut_amp (l : Bytes) (h : l.head? = some 38) (hc : (Lib.cut l [59]).2.2 = true) : 1 ≤ (Lib.cut l [59]).1.length := by
  unfold Lib.cut at hc ⊢
  by_cases hi : 0 ≤ Lib.index l [59]
  · rw [if_pos hi]
    cases l with
    | nil => cases h
    | cons c l' =>
      simp at h
      subst h
      have h0 : Lib.index (38 :: l') [59] ≠ 0 := by
        rw [Lib.index_one]
        intro h0
        have hb : ((38 : UInt8) == 59) = false := by decide
        simp only [Lib.indexByte, hb, Bool.false_eq_true, if_false] at h0
        have hge := Lib.indexByte_ge l' 59
        split at h0
        · omega
        · rename_i hne
          have : Lib.indexByte l' 59 ≠ -1 := by simpa using hne
          omega
      simp only [List.length_take, List.length_cons]
      omega
  · rw [if_neg hi] at hc; cases hc

set_option maxHeartbeats 4000000 in
set_option maxRecDepth 100000 in
theorem reference_any (g : Glob w) (l : Bytes) (hl : l.length ≤ 1048576) (h0 : l.head? = some 38) (hw : refWild l = false) :
    Calls Tryz.prog 120 #[str l] w fun e w' => e = .returned (refV (reference l)) ∧ Below w.heap.size w w' := by
  have HG := Lib.hid g
  have hca := cut_amp l h0
  have hcl := cut_length l [59]
  have hrf : reference l = (if (Lib.cut l [59]).2.2 then
    (if Lib.hasPrefix (Lib.cut l [59]).1.tail [35, 120] then (digits 16 (Lib.trimPrefix (Lib.cut l [59]).1.tail [35, 120])).map fun t => ((Lib.cut l [59]).1.length + 1, t, [])
     else if Lib.hasPrefix (Lib.cut l [59]).1.tail [35] then (digits 10 (Lib.trimPrefix (Lib.cut l [59]).1.tail [35])).map fun t => ((Lib.cut l [59]).1.length + 1, t, [])
     else if isName (Lib.cut l [59]).1.tail then some ((Lib.cut l [59]).1.length + 1, [], (Lib.cut l [59]).1.tail) else none)
    else none) := rfl
  have hw : ((Lib.cut l [59]).2.2 && (if Lib.hasPrefix (Lib.cut l [59]).1.tail [35, 120] then digWild 16 (Lib.trimPrefix (Lib.cut l [59]).1.tail [35, 120]) else Lib.hasPrefix (Lib.cut l [59]).1.tail [35] && digWild 10 (Lib.trimPrefix (Lib.cut l [59]).1.tail [35]))) = false := hw
  clear g h0
  go_enter Tryz.func120, Tryz.ntmps120
  go_wp2_with fail
  refine (cut_any HG.out (Hold.start w) l [59] (by omega)).mono ?_
  rintro e w1 ⟨rfl, n, rfl⟩
  have HX := Lib.hid ((Hold.start w).drewN n)
  have HG1 := Lib.hid (HG.out.carry HX.out)
  generalize Lib.cut l [59] = c at *
  obtain ⟨c1, c2, c3⟩ := c
  have HR := Lib.hid hrf
  have HWI := Lib.hid hw
  clear hrf hw
  cases c3
  · clear hca hcl
    go_wp2_with fail
    go_ret3
    exact ⟨by rw [HR.out]; rfl, HX.out.old⟩
  · have hc0 := hca rfl
    have hc1 := hcl rfl
    simp at hc0 hc1
    clear hca hcl
    go_wp2_with fail
    rw [extract_one]
    refine (cutPrefix_any c1.tail [35, 120]).mono ?_
    rintro e w2 ⟨rfl, rfl⟩
    cases hp1 : Lib.hasPrefix c1.tail [35, 120]
    · go_wp2_with fail
      refine (cutPrefix_any c1.tail [35]).mono ?_
      rintro e w2 ⟨rfl, rfl⟩
      cases hp2 : Lib.hasPrefix c1.tail [35]
      · have hnl : c1.tail.length ≤ 1048576 := by simp; omega
        have HN : Hid (reference l = if isName c1.tail then some (c1.length + 1, [], c1.tail) else none) := by
          show _ = _
          rw [HR.out]; simp only [hp1, hp2, Bool.false_eq_true, if_true, if_false]
        clear hp1 hp2
        go_wp2_with fail
        refine (isName_any HG1.out c1.tail hnl).mono ?_
        rintro e w3 ⟨rfl, hb⟩
        have HX2 := Lib.hid (HX.out.below hb)
        cases hi : isName c1.tail
        · have HN2 : Hid (reference l = none) := by show _ = _; rw [HN.out, hi]; rfl
          clear hb hi
          go_wp2_with fail
          go_ret3
          exact ⟨by rw [HN2.out]; rfl, HX2.out.old⟩
        · have HN2 : Hid (reference l = some (c1.length + 1, [], c1.tail)) := by show _ = _; rw [HN.out, hi]; rfl
          clear hb hi
          go_wp2_with fail
          go_ret3
          exact ⟨by rw [HN2.out]; rfl, HX2.out.old⟩
      · have hx := hp1
        have hdl : (Lib.trimPrefix c1.tail [35]).length ≤ 1048576 := by unfold Lib.trimPrefix; split <;> simp <;> omega
        have HN : Hid (reference l = (digits 10 (Lib.trimPrefix c1.tail [35])).map fun t => (c1.length + 1, t, [])) := by
          show _ = _
          rw [HR.out]; simp only [hp1, hp2, Bool.false_eq_true, if_true, if_false]
        have hdw : digWild 10 (Lib.trimPrefix c1.tail [35]) = false := by
          have := HWI.out
          simpa [hp1, hp2] using this
        have HDW := Lib.hid hdw
        clear hdw HWI
        generalize Lib.trimPrefix c1.tail [35] = dg at *
        clear hp1 hp2 hx
        go_wp2_with fail
        refine (digits_any HG1.out 10 dg hdl HDW.out).mono ?_
        rintro e w3 ⟨t, rfl, ht, hb⟩
        have HX2 := Lib.hid (HX.out.below hb)
        cases hd : digits 10 dg with
        | none =>
          have HN2 : Hid (reference l = none) := by show _ = _; rw [HN.out, hd]; rfl
          clear ht hb hd
          go_wp2_with fail
          go_ret3
          exact ⟨by rw [HN2.out]; rfl, HX2.out.old⟩
        | some u =>
          have HN2 : Hid (reference l = some (c1.length + 1, u, [])) := by show _ = _; rw [HN.out, hd]; rfl
          obtain rfl := ht u hd
          clear ht hb hd
          go_wp2_with fail
          go_ret3
          exact ⟨by rw [HN2.out]; rfl, HX2.out.old⟩
    · have hx := hp1
      have hdl : (Lib.trimPrefix c1.tail [35, 120]).length ≤ 1048576 := by unfold Lib.trimPrefix; split <;> simp <;> omega
      have HN : Hid (reference l = (digits 16 (Lib.trimPrefix c1.tail [35, 120])).map fun t => (c1.length + 1, t, [])) := by
        show _ = _
        rw [HR.out]; simp only [hp1, Bool.false_eq_true, if_true, if_false]
      have hdw : digWild 16 (Lib.trimPrefix c1.tail [35, 120]) = false := by
        have := HWI.out
        simpa [hp1] using this
      have HDW := Lib.hid hdw
      clear hdw HWI
      generalize Lib.trimPrefix c1.tail [35, 120] = dg at *
      clear hp1 hx
      go_wp2_with fail
      refine (digits_any HG1.out 16 dg hdl HDW.out).mono ?_
      rintro e w3 ⟨t, rfl, ht, hb⟩
      have HX2 := Lib.hid (HX.out.below hb)
      cases hd : digits 16 dg with
      | none =>
        have HN2 : Hid (reference l = none) := by show _ = _; rw [HN.out, hd]; rfl
        clear ht hb hd
        go_wp2_with fail
        go_ret3
        exact ⟨by rw [HN2.out]; rfl, HX2.out.old⟩
      | some u =>
        have HN2 : Hid (reference l = some (c1.length + 1, u, [])) := by show _ = _; rw [HN.out, hd]; rfl
        obtain rfl := ht u hd
        clear ht hb hd
        go_wp2_with fail
        go_ret3
        exact ⟨by rw [HN2.out]; rfl, HX2.out.old⟩
end
end Go.Proofs.YtalmkfikfmpmoaaGreatDoor
