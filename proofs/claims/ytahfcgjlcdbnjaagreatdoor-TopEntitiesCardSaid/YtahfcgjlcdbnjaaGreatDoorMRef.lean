/- digits: a character's number in a base. -/
import Derived.Test.YtahfcgjlcdbnjaaGreatDoorMScn5
namespace Go.Proofs.YtahfcgjlcdbnjaaGreatDoor
open Go.RowKit

/-- A digit's worth; 99: none. -/
def digitOf (c : UInt8) : Nat :=
  if 48 ≤ c.toNat ∧ c.toNat ≤ 57 then c.toNat - 48
  else if 97 ≤ c.toNat ∧ c.toNat ≤ 122 then c.toNat - 97 + 10
  else if 65 ≤ c.toNat ∧ c.toNat ≤ 90 then c.toNat - 65 + 10
  else 99
/-- What digits say in a base. -/
def numOf (base : Nat) (l : Bytes) : Nat := l.foldl (fun n c => n * base + digitOf c) 0
/-- The text of the character whose number stands there in a base. -/
def digits (base : Nat) (l : Bytes) : Option Bytes :=
  if l ≠ [] ∧ (∀ c ∈ l, digitOf c < base) ∧ numOf base l < 1114112 ∧ isChar (numOf base l) = true then some (Utf8.encode (numOf base l)).data.toList else none

/-- Not said: digits of another base, or such as are no number (the library's error text reads tables of which the statement says nothing). -/
def digWild (base : Nat) (l : Bytes) : Bool := !(base == 10 && !l.isEmpty && l.all (fun c => decide (48 ≤ c.toNat ∧ c.toNat ≤ 57)) && decide (numOf 10 l < 18446744073709551616))

def DigPost (w : World) (base : Nat) (l : Bytes) (e : Ending) (w' : World) : Prop :=
  ∃ t : Bytes, e = .returned (.tuple #[str t, .bool (digits base l).isSome]) ∧ (∀ u, digits base l = some u → t = u) ∧ Below w.heap.size w w'

def ascii (l : Bytes) : Bool := l.all fun c => decide (c.toNat < 128)
def hasAny (l set : Bytes) : Bool := l.any fun c => set.contains c

theorem containsAny_eq (set : Bytes) : ∀ l : Bytes, Lib.containsAny l set = hasAny l set
  | [] => rfl
  | c :: l => by
    have ih := containsAny_eq set l
    have hge := Lib.indexAny_ge set l
    show decide (0 ≤ Lib.indexAny (c :: l) set) = (set.contains c || hasAny l set)
    rw [← ih]
    unfold Lib.containsAny
    by_cases h : set.contains c = true
    · have e : Lib.indexAny (c :: l) set = 0 := by rw [Lib.indexAny, if_pos h]
      simp only [e, h]; rfl
    · have e : Lib.indexAny (c :: l) set = if Lib.indexAny l set == -1 then -1 else Lib.indexAny l set + 1 := by rw [Lib.indexAny, if_neg h]
      simp only [e, Bool.eq_false_iff.2 h, Bool.false_or]
      split
      · rename_i h1
        have h1 : Lib.indexAny l set = -1 := by simpa using h1
        simp only [h1]
      · rename_i h1
        have h1 : Lib.indexAny l set ≠ -1 := by simpa using h1
        exact decide_eq_decide.2 (by omega)

theorem ascii_get {l : Bytes} (h : ascii l = true) : ∀ (j : Nat) (c : UInt8), l[j]? = some c → c.toNat < 128 := by
  intro j c hc
  unfold ascii at h
  rw [List.all_eq_true] at h
  simpa using h c (List.mem_of_getElem? hc)

theorem containsAny_any {w : World} (l set : Bytes) (hl : l.length ≤ 1048576) (hs : set.length ≤ 1048576) (h1 : ascii l = true) (h2 : ascii set = true) :
    Calls Tryz.prog 203 #[str l, str set] w fun e w' => e = .returned (.bool (hasAny l set)) ∧ Below w.heap.size w w' := by
  have := Tryz.strings_ContainsAny_laid ⟨l.toArray⟩ ⟨set.toArray⟩ w (by simp [ByteArray.size]; omega) (by simp [ByteArray.size]; omega) (ascii_get h1) (ascii_get h2)
  rw [← containsAny_eq]
  exact this

theorem fold_ge : ∀ (l : Bytes) (acc : Nat), acc ≤ l.foldl (fun n c => n * 10 + digitOf c) acc
  | [], acc => Nat.le_refl _
  | c :: l, acc => Nat.le_trans (by omega) (fold_ge l (acc * 10 + digitOf c))

theorem parse_dec : ∀ (l : Bytes) (acc : Nat), (∀ c ∈ l, 48 ≤ c.toNat ∧ c.toNat ≤ 57) → l.foldl (fun n c => n * 10 + digitOf c) acc < 18446744073709551616 →
    Lib.parseUintM 18446744073709551615 acc l = .ok (l.foldl (fun n c => n * 10 + digitOf c) acc)
  | [], acc, _, _ => rfl
  | c :: l, acc, h, hn => by
    have hc := h c (by simp)
    have hd : digitOf c = c.toNat - 48 := by unfold digitOf; rw [if_pos hc]
    have hge := fold_ge l (acc * 10 + digitOf c)
    rw [List.foldl_cons] at hn ⊢
    rw [hd] at hn hge ⊢
    unfold Lib.parseUintM
    rw [if_pos hc, if_neg (by omega), if_neg (by omega)]
    exact parse_dec l _ (fun d hd => h d (by simp [hd])) hn

theorem enc_eq (r : Int) (b : Bool) : Ending.returned (.tuple #[.string (Utf8.encode r), .bool b]) = .returned (.tuple #[str (Utf8.encode r).data.toList, .bool b]) := by
  generalize Utf8.encode r = x
  exact congrArg (fun y => Ending.returned (.tuple #[.string y, .bool b])) (bytes_str x)

theorem min_cap (n : Nat) : ∃ m : Nat, min (n : Int) 1114112 = m ∧ m ≤ 1114112 ∧ (m = n ∨ (1114112 ≤ n ∧ m = 1114112)) :=
  ⟨min n 1114112, by omega, by omega, by omega⟩

set_option maxHeartbeats 1000000 in
set_option maxRecDepth 100000 in
theorem digits_any {w : World} (_g : Glob w) (base : Nat) (l : Bytes) (hl : l.length ≤ 1048576) (hw : digWild base l = false) :
    Calls Tryz.prog 200 #[str l, .int .i64 base] w (DigPost w base l) := by
  unfold digWild at hw
  simp only [Bool.not_eq_false', Bool.and_eq_true, beq_iff_eq, List.all_eq_true, decide_eq_true_eq] at hw
  obtain ⟨⟨⟨rfl, hne⟩, hall⟩, hlt⟩ := hw
  have hne' : l ≠ [] := by simpa using hne
  have hasc : ascii l = true := by
    unfold ascii; rw [List.all_eq_true]; intro c hc; have := hall c hc; simp; omega
  have hna : hasAny l [95, 43, 45] = false := by
    unfold hasAny
    rw [List.any_eq_false]
    intro c hc
    have := hall c hc
    simp
    refine ⟨?_, ?_, ?_⟩ <;> (rintro rfl; revert this; decide)
  have hpu : Lib.parseUintB 64 l = .ok (numOf 10 l) := by
    unfold Lib.parseUintB
    rw [if_neg hne']
    exact parse_dec l 0 hall hlt
  have hdg : digits 10 l = if numOf 10 l < 1114112 ∧ isChar (numOf 10 l) = true then some (Utf8.encode (numOf 10 l)).data.toList else none := by
    unfold digits
    have h10 : ∀ c ∈ l, digitOf c < 10 := fun c hc => by have := hall c hc; unfold digitOf; rw [if_pos this]; omega
    by_cases hq : numOf 10 l < 1114112 ∧ isChar (numOf 10 l) = true
    · rw [if_pos ⟨hne', h10, hq⟩, if_pos hq]
    · rw [if_neg (fun h => hq h.2.2), if_neg hq]
  have hsz : (⟨l.toArray⟩ : ByteArray).size ≤ 9223372036854775806 := by simp [ByteArray.size]; omega
  generalize hnn : numOf 10 l = n at *
  have HP := Lib.hid hpu
  have HD := Lib.hid hdg
  have HAS := Lib.hid hasc
  have HNA := Lib.hid hna
  have HSZ := Lib.hid hsz
  obtain ⟨m, hm, hm2, hm3⟩ := min_cap n
  have HM := Lib.hid hm
  have HM3 := Lib.hid hm3
  clear hm3 hpu hdg hasc hna hsz hall hlt hnn
  cases l with
  | nil => exact absurd rfl hne'
  | cons c l =>
    clear hne hne'
    go_enter Tryz.func200, Tryz.ntmps200
    go_wp2_with fail
    refine (Tryz.strconv_ParseUint_10_at64_ok ⟨(c :: l).toArray⟩ HSZ.out n HP.out w).mono ?_
    rintro e w1 ⟨rfl, hw1⟩
    have hb1 : Below w.heap.size w w1 := by
      rcases hw1 with rfl | rfl
      · exact Below.refl _ _
      · exact Lib.bytesWorld_below _ _ _
    have HB1 := Lib.hid hb1
    clear hw1 hb1
    go_wp2_with fail
    refine (containsAny_any (c :: l) [95, 43, 45] (by simpa using hl) (by decide) HAS.out (by decide)).mono ?_
    rintro e w2 ⟨rfl, hb2⟩
    rw [HNA.out]
    have HB2 := Lib.hid (HB1.out.trans (hb2.mono HB1.out.size))
    clear hb2
    go_wp2_with fail
    refine (isChar_any m w2 (by omega)).mono ?_
    rintro e w3 ⟨rfl, hb3⟩
    have HB3 := Lib.hid (HB2.out.trans (hb3.mono HB2.out.size))
    clear hb3
    go_wp2_with fail
    go_ret2
    rcases HM3.out with rfl | ⟨hn, rfl⟩
    · by_cases hn : m < 1114112
      rotate_left
      · have hme : m = 1114112 := by omega
        subst hme
        have hno : digits 10 (c :: l) = none := by rw [HD.out, if_neg (fun h => hn h.1)]
        refine ⟨(Utf8.encode ((1114112 : Nat) : Int)).data.toList, ?_, ?_, HB3.out⟩
        · rw [hno]
          have : isChar ((1114112 : Nat) : Int) = false := by decide
          rw [this]
          exact enc_eq _ _
        · intro u hu
          rw [hno] at hu
          cases hu
      refine ⟨(Utf8.encode (m : Int)).data.toList, ?_, ?_, HB3.out⟩
      · rw [HD.out]
        cases hic : isChar (m : Int)
        · rw [if_neg (by simp)]; exact enc_eq _ _
        · rw [if_pos ⟨hn, rfl⟩]; exact enc_eq _ _
      · intro u hu
        rw [HD.out] at hu
        split at hu
        · exact Option.some.inj hu
        · cases hu
    · have hno : digits 10 (c :: l) = none := by rw [HD.out, if_neg (fun h => absurd h.1 (Nat.not_lt.2 hn))]
      refine ⟨(Utf8.encode ((1114112 : Nat) : Int)).data.toList, ?_, ?_, HB3.out⟩
      · rw [hno]
        have : isChar ((1114112 : Nat) : Int) = false := by decide
        rw [this]
        exact enc_eq _ _
      · intro u hu
        rw [hno] at hu
        cases hu

theorem encode_len (r : Int) : 1 ≤ (Utf8.encode r).data.toList.length ∧ (Utf8.encode r).data.toList.length ≤ 4 := by
  unfold Utf8.encode
  simp only
  generalize (if Utf8.valid r = true then r.toNat else Utf8.runeError) = c
  by_cases h1 : c < 128
  · rw [if_pos h1]; exact ⟨by simp, by simp⟩
  · rw [if_neg h1]
    by_cases h2 : c < 2048
    · rw [if_pos h2]; exact ⟨by simp, by simp⟩
    · rw [if_neg h2]
      by_cases h3 : c < 65536
      · rw [if_pos h3]; exact ⟨by simp, by simp⟩
      · rw [if_neg h3]; exact ⟨by simp, by simp⟩

theorem digits_len {base : Nat} {l u : Bytes} (h : digits base l = some u) : 1 ≤ u.length ∧ u.length ≤ 4 := by
  unfold digits at h
  generalize numOf base l = m at h
  have hh : ∀ p : Prop, ∀ [Decidable p], (if p then some (Utf8.encode (m : Int)).data.toList else none) = some u → (Utf8.encode (m : Int)).data.toList = u := by
    intro p _ hp
    by_cases q : p
    · rw [if_pos q] at hp; exact Option.some.inj hp
    · rw [if_neg q] at hp; cases hp
  rw [← hh _ h]
  exact encode_len _
end Go.Proofs.YtahfcgjlcdbnjaaGreatDoor
/- References: what stands between & and ; and the five entities that all documents have. -/
namespace Go.Proofs.YtahfcgjlcdbnjaaGreatDoor
open Go.RowKit

/-- A reference at a text's begin: its length, its text, its entity. -/
def reference (l : Bytes) : Option (Nat × Bytes × Bytes) :=
  let c := Lib.cut l [59]
  if c.2.2 then
    (if Lib.hasPrefix c.1.tail [35, 120] then (digits 16 (Lib.trimPrefix c.1.tail [35, 120])).map fun t => (c.1.length + 1, t, [])
     else if Lib.hasPrefix c.1.tail [35] then (digits 10 (Lib.trimPrefix c.1.tail [35])).map fun t => (c.1.length + 1, t, [])
     else if isName c.1.tail then some (c.1.length + 1, [], c.1.tail) else none)
  else none

/-- Not said: a reference by number whose digits are no decimal number. -/
def refWild (l : Bytes) : Bool :=
  let c := Lib.cut l [59]
  c.2.2 && (if Lib.hasPrefix c.1.tail [35, 120] then digWild 16 (Lib.trimPrefix c.1.tail [35, 120]) else Lib.hasPrefix c.1.tail [35] && digWild 10 (Lib.trimPrefix c.1.tail [35]))

def refV : Option (Nat × Bytes × Bytes) → Value
  | some (n, t, e) => .tuple #[.int .i64 n, str t, str e]
  | none => .tuple #[.int .i64 0, str [], str []]

theorem extract_part (l : Bytes) (i j : Nat) : (⟨l.toArray⟩ : ByteArray).extract i j = ⟨((l.drop i).take (j - i)).toArray⟩ := bytes_ext (by rw [extract_list])
theorem extract_tail (l : Bytes) (i : Nat) : (⟨l.toArray⟩ : ByteArray).extract i l.length = ⟨(l.drop i).toArray⟩ := by
  rw [extract_part, List.take_of_length_le (by simp)]

theorem extract_one (l : Bytes) : (⟨l.toArray⟩ : ByteArray).extract 1 l.length = ⟨l.tail.toArray⟩ := by
  rw [extract_tail]; simp

section
variable {W w : World} {L : List Asn} {b : Nat} {s : ByteArray} {σ : St}

theorem cut_amp (l : Bytes) (h : l.head? = some 38) (hc : (Lib.cut l [59]).2.2 = true) : 1 ≤ (Lib.cut l [59]).1.length := by
  unfold Lib.cut at hc ⊢
  by_cases hi : 0 ≤ Lib.index l [59]
  · rw [if_pos hi]
    cases l with
    | nil => cases h
    | cons c l' =>
      simp at h
      subst h
      have h0 : Lib.index (38 :: l') [59] ≠ 0 := by
        rw [Lib.index_one]
        intro h0
        have hb : ((38 : UInt8) == 59) = false := by decide
        simp only [Lib.indexByte, hb, Bool.false_eq_true, if_false] at h0
        have hge := Lib.indexByte_ge l' 59
        split at h0
        · omega
        · rename_i hne
          have : Lib.indexByte l' 59 ≠ -1 := by simpa using hne
          omega
      simp only [List.length_take, List.length_cons]
      omega
  · rw [if_neg hi] at hc; cases hc

set_option maxHeartbeats 4000000 in
set_option maxRecDepth 100000 in
theorem reference_any (g : Glob w) (l : Bytes) (hl : l.length ≤ 1048576) (h0 : l.head? = some 38) (hw : refWild l = false) :
    Calls Tryz.prog 171 #[str l] w fun e w' => e = .returned (refV (reference l)) ∧ Below w.heap.size w w' := by
  have HG := Lib.hid g
  have hca := cut_amp l h0
  have hcl := cut_length l [59]
  have hrf : reference l = (if (Lib.cut l [59]).2.2 then
    (if Lib.hasPrefix (Lib.cut l [59]).1.tail [35, 120] then (digits 16 (Lib.trimPrefix (Lib.cut l [59]).1.tail [35, 120])).map fun t => ((Lib.cut l [59]).1.length + 1, t, [])
     else if Lib.hasPrefix (Lib.cut l [59]).1.tail [35] then (digits 10 (Lib.trimPrefix (Lib.cut l [59]).1.tail [35])).map fun t => ((Lib.cut l [59]).1.length + 1, t, [])
     else if isName (Lib.cut l [59]).1.tail then some ((Lib.cut l [59]).1.length + 1, [], (Lib.cut l [59]).1.tail) else none)
    else none) := rfl
  have hw : ((Lib.cut l [59]).2.2 && (if Lib.hasPrefix (Lib.cut l [59]).1.tail [35, 120] then digWild 16 (Lib.trimPrefix (Lib.cut l [59]).1.tail [35, 120]) else Lib.hasPrefix (Lib.cut l [59]).1.tail [35] && digWild 10 (Lib.trimPrefix (Lib.cut l [59]).1.tail [35]))) = false := hw
  clear g h0
  go_enter Tryz.func171, Tryz.ntmps171
  go_wp2_with fail
  refine (cut_any HG.out (Hold.start w) l [59] (by omega)).mono ?_
  rintro e w1 ⟨rfl, n, rfl⟩
  have HX := Lib.hid ((Hold.start w).drewN n)
  have HG1 := Lib.hid (HG.out.carry HX.out)
  generalize Lib.cut l [59] = c at *
  obtain ⟨c1, c2, c3⟩ := c
  have HR := Lib.hid hrf
  have HWI := Lib.hid hw
  clear hrf hw
  cases c3
  · clear hca hcl
    go_wp2_with fail
    go_ret3
    exact ⟨by rw [HR.out]; rfl, HX.out.old⟩
  · have hc0 := hca rfl
    have hc1 := hcl rfl
    simp at hc0 hc1
    clear hca hcl
    go_wp2_with fail
    rw [extract_one]
    refine (cutPrefix_any c1.tail [35, 120]).mono ?_
    rintro e w2 ⟨rfl, rfl⟩
    cases hp1 : Lib.hasPrefix c1.tail [35, 120]
    · go_wp2_with fail
      refine (cutPrefix_any c1.tail [35]).mono ?_
      rintro e w2 ⟨rfl, rfl⟩
      cases hp2 : Lib.hasPrefix c1.tail [35]
      · have hnl : c1.tail.length ≤ 1048576 := by simp; omega
        have HN : Hid (reference l = if isName c1.tail then some (c1.length + 1, [], c1.tail) else none) := by
          show _ = _
          rw [HR.out]; simp only [hp1, hp2, Bool.false_eq_true, if_true, if_false]
        clear hp1 hp2
        go_wp2_with fail
        refine (isName_any HG1.out c1.tail hnl).mono ?_
        rintro e w3 ⟨rfl, hb⟩
        have HX2 := Lib.hid (HX.out.below hb)
        cases hi : isName c1.tail
        · have HN2 : Hid (reference l = none) := by show _ = _; rw [HN.out, hi]; rfl
          clear hb hi
          go_wp2_with fail
          go_ret3
          exact ⟨by rw [HN2.out]; rfl, HX2.out.old⟩
        · have HN2 : Hid (reference l = some (c1.length + 1, [], c1.tail)) := by show _ = _; rw [HN.out, hi]; rfl
          clear hb hi
          go_wp2_with fail
          go_ret3
          exact ⟨by rw [HN2.out]; rfl, HX2.out.old⟩
      · have hx := hp1
        have hdl : (Lib.trimPrefix c1.tail [35]).length ≤ 1048576 := by unfold Lib.trimPrefix; split <;> simp <;> omega
        have HN : Hid (reference l = (digits 10 (Lib.trimPrefix c1.tail [35])).map fun t => (c1.length + 1, t, [])) := by
          show _ = _
          rw [HR.out]; simp only [hp1, hp2, Bool.false_eq_true, if_true, if_false]
        have hdw : digWild 10 (Lib.trimPrefix c1.tail [35]) = false := by
          have := HWI.out
          simpa [hp1, hp2] using this
        have HDW := Lib.hid hdw
        clear hdw HWI
        generalize Lib.trimPrefix c1.tail [35] = dg at *
        clear hp1 hp2 hx
        go_wp2_with fail
        refine (digits_any HG1.out 10 dg hdl HDW.out).mono ?_
        rintro e w3 ⟨t, rfl, ht, hb⟩
        have HX2 := Lib.hid (HX.out.below hb)
        cases hd : digits 10 dg with
        | none =>
          have HN2 : Hid (reference l = none) := by show _ = _; rw [HN.out, hd]; rfl
          clear ht hb hd
          go_wp2_with fail
          go_ret3
          exact ⟨by rw [HN2.out]; rfl, HX2.out.old⟩
        | some u =>
          have HN2 : Hid (reference l = some (c1.length + 1, u, [])) := by show _ = _; rw [HN.out, hd]; rfl
          obtain rfl := ht u hd
          clear ht hb hd
          go_wp2_with fail
          go_ret3
          exact ⟨by rw [HN2.out]; rfl, HX2.out.old⟩
    · have hx := hp1
      have hdl : (Lib.trimPrefix c1.tail [35, 120]).length ≤ 1048576 := by unfold Lib.trimPrefix; split <;> simp <;> omega
      have HN : Hid (reference l = (digits 16 (Lib.trimPrefix c1.tail [35, 120])).map fun t => (c1.length + 1, t, [])) := by
        show _ = _
        rw [HR.out]; simp only [hp1, if_true]
      have hdw : digWild 16 (Lib.trimPrefix c1.tail [35, 120]) = false := by
        have := HWI.out
        simpa [hp1] using this
      have HDW := Lib.hid hdw
      clear hdw HWI
      generalize Lib.trimPrefix c1.tail [35, 120] = dg at *
      clear hp1 hx
      go_wp2_with fail
      refine (digits_any HG1.out 16 dg hdl HDW.out).mono ?_
      rintro e w3 ⟨t, rfl, ht, hb⟩
      have HX2 := Lib.hid (HX.out.below hb)
      cases hd : digits 16 dg with
      | none =>
        have HN2 : Hid (reference l = none) := by show _ = _; rw [HN.out, hd]; rfl
        clear ht hb hd
        go_wp2_with fail
        go_ret3
        exact ⟨by rw [HN2.out]; rfl, HX2.out.old⟩
      | some u =>
        have HN2 : Hid (reference l = some (c1.length + 1, u, [])) := by show _ = _; rw [HN.out, hd]; rfl
        obtain rfl := ht u hd
        clear ht hb hd
        go_wp2_with fail
        go_ret3
        exact ⟨by rw [HN2.out]; rfl, HX2.out.old⟩
end
end Go.Proofs.YtahfcgjlcdbnjaaGreatDoor
