/- The law's own IsText. -/
import Derived.Test.YtalmkfikfmpmoaaGreatDoorMWid
namespace Go.Proofs.YtalmkfikfmpmoaaGreatDoor
open Go.RowKit

section
variable {W w : World} {L : List Asn}

set_option maxHeartbeats 2000000 in
theorem refIsChar_any (r : Int) (w : World) :
    Calls Tryz.prog 44 #[.int .i32 r] w fun e w' => e = .returned (.bool (isChar r)) ∧ w = w' := by
  go_enter Tryz.func44, Tryz.ntmps44
  go_wp2
  all_goals
    go_ret
    refine ⟨?_, rfl⟩
    refine congrArg (fun b => Ending.returned (Value.bool b)) ?_
    rw [Bool.eq_iff_iff]
    simp [isChar, within, chars, *]
    try omega

set_option maxHeartbeats 4000000 in
set_option maxRecDepth 100000 in
theorem refBad_any (g : Glob w) (l : Bytes) (hl : l.length ≤ 9223372036854775807) :
    Calls Tryz.prog 25 #[str l] w fun e w' => ∃ (p : Int) (b : Bool), e = .returned (.tuple #[.int .i64 p, .bool b]) ∧ decide (p < 0) = isText l ∧ Below w.heap.size w w' := by
  have HG := Lib.hid g
  obtain ⟨tot, htot⟩ : ∃ r, isText l = r := ⟨_, rfl⟩
  have HTT : Hid (isText (l.drop 0) = tot) := htot
  rw [htot]
  clear g htot
  go_enter Tryz.func25, Tryz.ntmps25
  go_wp2_with fail
  go_loopg [4] l.length (fun gk v4 wr => ∃ p : Nat, v4 = .int .i64 p ∧ Hid (Hold w wr []) ∧ l.length ≤ gk + p ∧ p ≤ l.length ∧ Hid (isText (l.drop p) = tot))
  case atStart => exact ⟨0, rfl, Lib.hid (Hold.start w), by omega, by omega, HTT⟩
  case round =>
    obtain ⟨p, rfl, HZ, hk, hpl, HB⟩ := hrel
    by_cases hp : p < l.length
    · have hp' : (p : Int) < (l.length : Int) := by omega
      have hne : l.drop p ≠ [] := by simp; omega
      have hle := Lib.decodeL_le _ hne
      rw [List.length_drop] at hle
      have hw1 := Lib.decodeL_width (l.drop p)
      have hru := Lib.decodeL_rune (l.drop p)
      have hbv : isText (l.drop p) = tot := HB.out
      rw [isText_step hne, List.drop_drop] at hbv
      have hbr : badR (l.drop p) = (!isChar (Lib.decodeL (l.drop p)).1 || ((Lib.decodeL (l.drop p)).1 == 65533 && (Lib.decodeL (l.drop p)).2 == 1)) := rfl
      rw [hbr] at hbv
      have hdec : dec (l.drop p) = Lib.decodeL (l.drop p) := by unfold dec; rw [if_neg hne]
      have HDC := Lib.hid hdec
      clear hbr
      generalize Lib.decodeL (l.drop p) = d at *
      obtain ⟨r, wd⟩ := d
      have HBV := Lib.hid hbv
      have hex : (⟨l.toArray⟩ : ByteArray).extract p l.length = ⟨(l.drop p).toArray⟩ := extract_tail l p
      have HEX := Lib.hid hex
      have hru : r ≤ 1114111 := hru
      have hle : wd ≤ l.length - p := hle
      have hw1 : 1 ≤ wd := hw1
      clear hne hbv hdec hex
      go_wp2_with fail
      rw [HEX.out]
      refine (decode_any (HG.out.carry HZ.out) (Hold.start _) (l.drop p)).mono ?_
      rw [HDC.out]
      rintro e w3 ⟨rfl, hb⟩
      have HZ3 := Lib.hid (HZ.out.below hb)
      clear hb
      by_cases hbad : r = 65533 ∧ wd = 1
      · obtain ⟨rfl, rfl⟩ := hbad
        have hbv := HBV.out
        rw [if_pos (by simp)] at hbv
        subst hbv
        go_wp2_with fail
        go_ret2
        exact ⟨_, _, rfl, by simp, HZ3.out.old⟩
      · have hbv := HBV.out
        have hd1 : ((r : Nat) == 65533 && wd == 1) = false := by
          rw [Bool.eq_false_iff]
          intro hh
          simp only [Bool.and_eq_true, beq_iff_eq] at hh
          exact hbad hh
        have hsp : (((r : Int) == 65533) = false) ∨ ((((r : Int) == 65533) = true) ∧ (((wd : Int) == 1) = false)) := by
          by_cases h65 : r = 65533
          · exact .inr ⟨by rw [h65]; rfl, by rw [beq_eq_false_iff_ne]; omega⟩
          · exact .inl (by rw [beq_eq_false_iff_ne]; omega)
        simp only [hd1, Bool.or_false] at hbv
        have HBV2 := Lib.hid hbv
        clear hbv hd1 hbad
        rcases hsp with h65 | ⟨h65, hwd⟩
        all_goals
          go_wp2_with fail
          refine (refIsChar_any (r : Int) w3).mono ?_
          rintro e w4 ⟨rfl, rfl⟩
          cases hic : isChar (r : Int)
          · have hbv := HBV2.out
            rw [if_pos (by simp [hic])] at hbv
            subst hbv
            clear hic
            go_wp2_with fail
            go_ret2
            exact ⟨_, _, rfl, by simp, HZ3.out.old⟩
          · have hbv := HBV2.out
            rw [if_neg (by simp [hic])] at hbv
            have HN := Lib.hid hbv
            clear hic hbv
            go_wp2_with fail
            go_roundg (gk - wd)
            case measure => omega
            case rel => exact ⟨p + wd, by go_num, HZ3, by omega, by omega, HN⟩
    · have hp' : ¬ (p : Int) < (l.length : Int) := by omega
      have hbn : tot = true := by
        have hd : l.drop p = [] := by simp; omega
        rw [← HB.out, hd]; rfl
      subst hbn
      go_wp2_with fail
      go_ret2
      exact ⟨-1, .inl rfl, by decide, HZ.out.old⟩

set_option maxRecDepth 100000 in
theorem refIsText_any (g : Glob w) (l : Bytes) (hl : l.length ≤ 9223372036854775807) :
    Calls Tryz.prog 21 #[str l] w fun e w' => e = .returned (.bool (isText l)) ∧ Below w.heap.size w w' := by
  have HG := Lib.hid g
  clear g
  go_enter Tryz.func21, Tryz.ntmps21
  go_wp2_with fail
  refine (refBad_any HG.out l hl).mono ?_
  rintro e w1 ⟨p, b, rfl, hp, hb⟩
  have HP := Lib.hid hp
  have HB := Lib.hid hb
  clear hp hb
  go_wp2_with fail
  go_ret
  exact ⟨by rw [← HP.out]; rfl, HB.out⟩
end
end Go.Proofs.YtalmkfikfmpmoaaGreatDoor

