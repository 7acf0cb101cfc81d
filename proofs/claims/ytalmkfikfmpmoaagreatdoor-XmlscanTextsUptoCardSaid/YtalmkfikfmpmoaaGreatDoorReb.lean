/- The reference's Escape and Quote. -/
import Derived.Test.YtalmkfikfmpmoaaGreatDoorRep3
namespace Go.Proofs.YtalmkfikfmpmoaaGreatDoor
open Go.RowKit

theorem esc_snoc (l : Bytes) (c : UInt8) : esc (l ++ [c]) = esc l ++ escB c := by simp [esc]
theorem quo_snoc (l : Bytes) (c : UInt8) : quo (l ++ [c]) = quo l ++ quoB c := by simp [quo]
theorem esc_len (l : Bytes) : (esc l).length ≤ 6 * l.length := by rw [← repl_esc]; exact repl_le escOk.six (by decide) l
theorem quo_len (l : Bytes) : (quo l).length ≤ 6 * l.length := by rw [← repl_quo]; exact repl_le quoOk.six (by decide) l
theorem toNat_is {c : UInt8} (k : UInt8) : (c = k) = ((c.toNat : Int) = (k.toNat : Int)) := propext ⟨fun h => by rw [h], fun h => UInt8.toNat_inj.1 (by omega)⟩
theorem escB_if (c : UInt8) : escB c = if (c.toNat : Int) = 38 then [38, 97, 109, 112, 59] else if (c.toNat : Int) = 60 then [38, 108, 116, 59] else if (c.toNat : Int) = 62 then [38, 103, 116, 59] else if (c.toNat : Int) = 13 then [38, 35, 49, 51, 59] else [c] := by
  unfold escB
  simp only [toNat_is]
  rfl
theorem quoB_if (c : UInt8) : quoB c = if (c.toNat : Int) = 38 then [38, 97, 109, 112, 59] else if (c.toNat : Int) = 60 then [38, 108, 116, 59] else if (c.toNat : Int) = 34 then [38, 113, 117, 111, 116, 59] else if (c.toNat : Int) = 9 then [38, 35, 57, 59] else if (c.toNat : Int) = 10 then [38, 35, 49, 48, 59] else if (c.toNat : Int) = 13 then [38, 35, 49, 51, 59] else [c] := by
  unfold quoB
  simp only [toNat_is]
  rfl

theorem extract_at (s : Bytes) (i : Nat) (h : i < s.length) (c : UInt8) (hc : s[i] = c) : ((⟨s.toArray⟩ : ByteArray).extract i (i + 1)).data.toList = [c] := by
  rw [extract_part]
  simp only [Nat.add_sub_cancel_left]
  rw [List.drop_eq_getElem_cons h, hc]
  rfl

set_option maxHeartbeats 4000000 in
set_option maxRecDepth 100000 in
theorem refEscape_any (s : Bytes) (hl : s.length ≤ 1048576) (w : World) :
    Calls Tryz.prog 16 #[str s] w fun e w' => e = .returned (str (esc s)) ∧ w = w' := by
  go_enter Tryz.func16, Tryz.ntmps16
  go_wp2_with fail
  go_loopg [3, 4] s.length (fun gk v3 v4 wr => w = wr ∧ ∃ i : Nat, v4 = .int .i64 i ∧ i + gk = s.length ∧ v3 = str (esc (s.take i)))
  case atStart => exact ⟨rfl, 0, rfl, by omega, rfl⟩
  case round =>
    obtain ⟨rfl, i, rfl, hig, rfl⟩ := hrel
    by_cases hlt : i < s.length
    · have hlt' : (i : Int) < (s.length : Int) := by omega
      obtain ⟨c, hc⟩ : ∃ c : UInt8, (⟨s.toArray⟩ : ByteArray)[i]'(by simpa [ByteArray.size] using hlt) = c := ⟨_, rfl⟩
      have hcl : s[i] = c := hc
      have hcb := c.toNat_lt
      have hnx : esc (s.take (i + 1)) = esc (s.take i) ++ escB c := by
        rw [List.take_succ_eq_append_getElem hlt, hcl, esc_snoc]
      rw [escB_if] at hnx
      have HN := Lib.hid hnx
      have HEX := Lib.hid (extract_at s i hlt c hcl)
      have hel := esc_len (s.take i)
      have htl : (s.take i).length ≤ 1048576 := by simp; omega
      clear hcl hnx
      go_wp2_with fail
      all_goals
        go_roundg (gk - 1)
        case measure => omega
        case rel =>
          refine ⟨rfl, i + 1, by go_num, by omega, ?_⟩
          rw [HN.out]
          clear HN hc hel htl
          refine congrArg Value.string (bytes_ext ?_)
          simp only [ByteArray.data_append, Array.toList_append]
          refine congrArg (esc (s.take i) ++ ·) ?_
          simp only [beq_iff_eq, beq_eq_false_iff_ne, ne_eq] at *
          first | (simp [*]; done) | (rw [HEX.out]; simp [*])
    · have hge : ¬ (i : Int) < (s.length : Int) := by omega
      have hall : esc (s.take i) = esc s := by rw [List.take_of_length_le (by omega)]
      rw [hall]
      clear hall
      go_wp2_with fail
      go_ret
      exact ⟨rfl, rfl⟩
set_option maxHeartbeats 4000000 in
set_option maxRecDepth 100000 in
theorem refQuote_any (s : Bytes) (hl : s.length ≤ 1048576) (w : World) :
    Calls Tryz.prog 18 #[str s] w fun e w' => e = .returned (str (quo s)) ∧ w = w' := by
  go_enter Tryz.func18, Tryz.ntmps18
  go_wp2_with fail
  go_loopg [3, 4] s.length (fun gk v3 v4 wr => w = wr ∧ ∃ i : Nat, v4 = .int .i64 i ∧ i + gk = s.length ∧ v3 = str (quo (s.take i)))
  case atStart => exact ⟨rfl, 0, rfl, by omega, rfl⟩
  case round =>
    obtain ⟨rfl, i, rfl, hig, rfl⟩ := hrel
    by_cases hlt : i < s.length
    · have hlt' : (i : Int) < (s.length : Int) := by omega
      obtain ⟨c, hc⟩ : ∃ c : UInt8, (⟨s.toArray⟩ : ByteArray)[i]'(by simpa [ByteArray.size] using hlt) = c := ⟨_, rfl⟩
      have hcl : s[i] = c := hc
      have hcb := c.toNat_lt
      have hnx : quo (s.take (i + 1)) = quo (s.take i) ++ quoB c := by
        rw [List.take_succ_eq_append_getElem hlt, hcl, quo_snoc]
      rw [quoB_if] at hnx
      have HN := Lib.hid hnx
      have HEX := Lib.hid (extract_at s i hlt c hcl)
      have hel := quo_len (s.take i)
      have htl : (s.take i).length ≤ 1048576 := by simp; omega
      clear hcl hnx
      go_wp2_with fail
      all_goals
        go_roundg (gk - 1)
        case measure => omega
        case rel =>
          refine ⟨rfl, i + 1, by go_num, by omega, ?_⟩
          rw [HN.out]
          clear HN hc hel htl
          refine congrArg Value.string (bytes_ext ?_)
          simp only [ByteArray.data_append, Array.toList_append]
          refine congrArg (quo (s.take i) ++ ·) ?_
          simp only [beq_iff_eq, beq_eq_false_iff_ne, ne_eq] at *
          first | (simp [*]; done) | (rw [HEX.out]; simp [*])
    · have hge : ¬ (i : Int) < (s.length : Int) := by omega
      have hall : quo (s.take i) = quo s := by rw [List.take_of_length_le (by omega)]
      rw [hall]
      clear hall
      go_wp2_with fail
      go_ret
      exact ⟨rfl, rfl⟩
end Go.Proofs.YtalmkfikfmpmoaaGreatDoor
