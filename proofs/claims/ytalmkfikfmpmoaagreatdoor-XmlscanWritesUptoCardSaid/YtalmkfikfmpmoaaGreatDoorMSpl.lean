/- The law's own Split, qname, lower and IsBlank. -/
import Derived.Test.YtalmkfikfmpmoaaGreatDoorMRnm
import Derived.Test.YtalmkfikfmpmoaaGreatDoorMSpt
import Derived.Test.YtalmkfikfmpmoaaGreatDoorMPi
import Derived.Laws.IdiomStrings
namespace Go.Proofs.YtalmkfikfmpmoaaGreatDoor
open Go.RowKit

section
variable {W w : World} {L : List Asn}

set_option maxHeartbeats 4000000 in
set_option maxRecDepth 100000 in
theorem refSplit_any (g : Glob w) (l : Bytes) (hl : l.length ≤ 1048576) :
    Calls Tryz.prog 124 #[str l] w fun e w' => e = .returned (splitV (split l)) ∧ Below w.heap.size w w' := by
  have HG := Lib.hid g
  clear g
  go_enter Tryz.func124, Tryz.ntmps124
  go_wp2_with fail
  go_loopg [5] l.length (fun gk v5 wr => w = wr ∧ ∃ i : Nat, v5 = .int .i64 i ∧ i + gk = l.length ∧ Hid ((58 : UInt8) ∉ l.take i))
  case atStart => exact ⟨rfl, 0, rfl, by omega, Lib.hid (by simp)⟩
  case round =>
    obtain ⟨rfl, i, rfl, hig, HC⟩ := hrel
    by_cases hlt : i < l.length
    · have hlt' : (i : Int) < (l.length : Int) := by omega
      obtain ⟨c, hc⟩ : ∃ c : UInt8, (⟨l.toArray⟩ : ByteArray)[i]'(by simpa [ByteArray.size] using hlt) = c := ⟨_, rfl⟩
      have hcl : l[i] = c := hc
      by_cases h58 : c = 58
      · subst h58
        have hil : i + 1 ≤ l.length := by omega
        have hil' : (i : Int) + 1 ≤ (l.length : Int) := by omega
        have he1 : (⟨l.toArray⟩ : ByteArray).extract 0 i = ⟨(l.take i).toArray⟩ := by rw [extract_part]; simp
        have he2 : (⟨l.toArray⟩ : ByteArray).extract (i + 1) l.length = ⟨(l.drop (i + 1)).toArray⟩ := extract_tail l (i + 1)
        have hsp : split l = if isName (l.drop (i + 1)) && isName (l.take i) then some (l.take i, l.drop (i + 1)) else none := by
          refine split_at ?_ HC.out
          rw [← hcl, ← List.drop_eq_getElem_cons hlt, List.take_append_drop]
        have HSP := Lib.hid hsp
        have HE1 := Lib.hid he1
        have HE2 := Lib.hid he2
        have ht1 : (l.take i).length ≤ 1048576 := by simp; omega
        have ht2 : (l.drop (i + 1)).length ≤ 1048576 := by simp; omega
        clear hsp he1 he2 hcl
        go_wp2_with fail
        rw [HE1.out]
        refine (refIsName_any HG.out (l.take i) ht1).mono ?_
        rintro e w1 ⟨rfl, hb⟩
        have HX := Lib.hid ((Hold.start w).below hb)
        clear hb
        cases hn1 : isName (l.take i)
        · have HR : Hid (split l = none) := by show _ = _; rw [HSP.out, hn1]; simp
          clear hn1
          go_wp2_with fail
          go_ret3
          exact ⟨by rw [HR.out]; rfl, HX.out.old⟩
        · have HN1 := Lib.hid hn1
          clear hn1
          go_wp2_with fail
          rw [HE2.out]
          refine (refIsName_any (HG.out.carry HX.out) (l.drop (i + 1)) ht2).mono ?_
          rintro e w2 ⟨rfl, hb⟩
          have HX2 := Lib.hid (HX.out.below hb)
          clear hb
          cases hn2 : isName (l.drop (i + 1))
          · have HR : Hid (split l = none) := by show _ = _; rw [HSP.out, hn2]; simp
            clear hn2
            go_wp2_with fail
            go_ret3
            exact ⟨by rw [HR.out]; rfl, HX2.out.old⟩
          · have HR : Hid (split l = some (l.take i, l.drop (i + 1))) := by show _ = _; rw [HSP.out, hn2, HN1.out]; simp
            clear hn2
            go_wp2_with fail
            go_quiet (fail)
            go_wp2_with fail
            go_ret3
            exact ⟨by rw [HR.out]; simp [splitV, HE1.out, HE2.out], below_drewN HX2.out.old _⟩
      · have h58' : ((c.toNat : Int) == 58) = false := by
          rw [beq_eq_false_iff_ne]
          intro h
          exact h58 (UInt8.toNat_inj.1 (by have : (58 : UInt8).toNat = 58 := rfl; omega))
        have HN : Hid ((58 : UInt8) ∉ l.take (i + 1)) := by
          show ¬ _
          rw [List.take_succ_eq_append_getElem hlt, hcl]
          simp only [List.mem_append, List.mem_singleton, not_or]
          exact ⟨HC.out, fun h => h58 h.symm⟩
        clear hcl h58
        go_wp2_with fail
        go_roundg (gk - 1)
        case measure => omega
        case rel => exact ⟨rfl, i + 1, by go_num, by omega, HN⟩
    · have hge : ¬ (i : Int) < (l.length : Int) := by omega
      have HSP : Hid (split l = if isName l then some ([], l) else none) := by
        show _ = _
        refine split_gone ?_
        have := HC.out
        rwa [List.take_of_length_le (by omega)] at this
      go_wp2_with fail
      refine (refIsName_any HG.out l hl).mono ?_
      rintro e w1 ⟨rfl, hb⟩
      have HX := Lib.hid ((Hold.start w).below hb)
      clear hb
      cases hn1 : isName l
      · have HR : Hid (split l = none) := by show _ = _; rw [HSP.out, hn1]; rfl
        clear hn1
        go_wp2_with fail
        go_ret3
        exact ⟨by rw [HR.out]; rfl, HX.out.old⟩
      · have HR : Hid (split l = some ([], l)) := by show _ = _; rw [HSP.out, hn1]; rfl
        clear hn1
        go_wp2_with fail
        go_ret3
        exact ⟨by rw [HR.out]; rfl, HX.out.old⟩

set_option maxHeartbeats 1000000 in
theorem refQname_any (g : Glob w) (l : Bytes) (hl : l.length ≤ 1048576) :
    Calls Tryz.prog 102 #[str l] w fun e w' => e = .returned (.bool (split l).isSome) ∧ Below w.heap.size w w' := by
  go_enter Tryz.func102, Tryz.ntmps102
  go_wp2_with fail
  refine (refSplit_any g l hl).mono ?_
  rintro e w1 ⟨rfl, hb⟩
  cases hs : split l with
  | none =>
    simp only [splitV]
    go_wp2_with fail
    go_ret
    exact ⟨by rw [hs]; rfl, hb⟩
  | some p =>
    obtain ⟨a, b⟩ := p
    simp only [splitV]
    go_wp2_with fail
    go_ret
    exact ⟨by rw [hs]; rfl, hb⟩

def blankI (r : Int) : Bool := r == 9 || r == 10 || r == 13 || r == 32

set_option maxHeartbeats 1000000 in
theorem refBlank_any (r : Int) (w : World) :
    Calls Tryz.prog 46 #[.int .i32 r] w fun e w' => e = .returned (.bool (blankI r)) ∧ w = w' := by
  have HB : Hid (blankI r = (r == 9 || r == 10 || r == 13 || r == 32)) := rfl
  go_enter Tryz.func46, Tryz.ntmps46
  cases h9 : (r == 9)
  · cases h10 : (r == 10)
    · cases h13 : (r == 13)
      · cases h32 : (r == 32)
        all_goals
          go_wp2_with fail
          go_ret
          exact ⟨by rw [HB.out, h9, h10, h13, h32]; rfl, rfl⟩
      · go_wp2_with fail
        go_ret
        exact ⟨by rw [HB.out, h9, h10, h13]; rfl, rfl⟩
    · go_wp2_with fail
      go_ret
      exact ⟨by rw [HB.out, h9, h10]; rfl, rfl⟩
  · go_wp2_with fail
    go_ret
    exact ⟨by rw [HB.out, h9]; rfl, rfl⟩

set_option maxHeartbeats 4000000 in
set_option maxRecDepth 100000 in
theorem refLower_any (l : Bytes) (hl : l.length ≤ 1048576) (w : World) :
    Calls Tryz.prog 86 #[str l] w fun e w' => e = .returned (str (l.map lowB)) ∧ Below w.heap.size w w' := by
  obtain ⟨i0, hi, hz0, hz1, hz2⟩ := info_parts infoByte
  go_enter Tryz.func86, Tryz.ntmps86
  go_wp2_with fail
  go_loopg [3, 4, 5] l.length (fun gk v3 v4 v5 wr => ∃ (i : Nat) (v : Value), v3 = v ∧ v4 = .int .i64 i ∧ i + gk = l.length ∧ Hid (Hold w wr [Buf v ((l.take i).map lowB)]))
  case atStart => exact ⟨0, .slice none 0 0, rfl, rfl, by omega, Lib.hid (Row.nil (Hold.start w))⟩
  case round =>
    obtain ⟨i, v, rfl, rfl, hig, HZ⟩ := hrel
    by_cases hlt : i < l.length
    · have hlt' : (i : Int) < (l.length : Int) := by omega
      obtain ⟨c, hc⟩ : ∃ c : UInt8, (⟨l.toArray⟩ : ByteArray)[i]'(by simpa [ByteArray.size] using hlt) = c := ⟨_, rfl⟩
      have hcl : l[i] = c := hc
      have hcb := c.toNat_lt
      have hnx : (l.take (i + 1)).map lowB = (l.take i).map lowB ++ [lowB c] := by
        rw [List.take_succ_eq_append_getElem hlt, hcl, List.map_append]; rfl
      have HN := Lib.hid hnx
      have hlen : ((l.take i).map lowB).length = i := by simp; omega
      have HLN := Lib.hid hlen
      obtain ⟨pre, hpre⟩ : ∃ x, x = (l.take i).map lowB := ⟨_, rfl⟩
      rw [← hpre] at HN HLN HZ
      clear hcl hnx hlen hpre
      have tail : ∀ (d : Int) (wq : World) (u : Value), d = ((lowB c).toNat : Int) → Hold w wq (Row 5 1 u (pre.length + 1) (Lib.byteCells pre ++ [.int .u8 d]) :: Asn.pts wr.heap.size (.cells #[.int .u8 d] 5 (0, 0)) :: []) → Hold w wq [Buf u ((l.take (i + 1)).map lowB)] := fun d wq u hd z => by
        rw [HN.out]
        unfold Buf
        rw [List.length_append, List.length_singleton, Lib.byteCells_append]
        have : Lib.byteCells [lowB c] = [.int .u8 d] := by rw [hd]; rfl
        rw [this]
        exact (z.re [1, 0]).drop
      have HTAIL := Lib.hid tail
      clear tail
      by_cases hu1 : (65 : Int) ≤ (c.toNat : Int)
      · by_cases hu2 : (c.toNat : Int) ≤ 90
        · have hd : (c.toNat : Int) + 32 = ((lowB c).toNat : Int) := by
            unfold lowB
            rw [if_pos (by omega), UInt8.toNat_add]
            have : (32 : UInt8).toNat = 32 := rfl
            rw [this]; omega
          have HD := Lib.hid hd
          have HY := Lib.hid (HZ.out.alloc (.cells #[.int .u8 ((c.toNat : Int) + 32)] 5))
          have zz := HY.out.f1
          unfold Buf at zz
          have HW := Lib.hid zz
          clear hd zz
          go_wp2_with (at_builtin; refine wpl_append rfl _ _ 50 rfl i0 (.int .u8 0) 1 undBytes hi hz0 hz1 hz2 rfl (by decide) rfl HW.out ⟨wr.heap.size, 0, none⟩ 1 1 [.int .u8 ((c.toNat : Int) + 32)] rfl rfl (news_of HY.out) (by simp [Value.oneCell']) ?c1 ?c2 ?_)
          case c1 => have := HLN.out; unfold maxLen; omega
          case c2 => have := HLN.out; omega
          intro u w2 z
          have HR := Lib.hid (HTAIL.out _ _ _ HD.out z)
          clear z
          go_wp2_with fail
          go_roundg (gk - 1)
          case measure => omega
          case rel => exact ⟨i + 1, _, rfl, by go_num, by omega, HR⟩
        · have hd : (c.toNat : Int) = ((lowB c).toNat : Int) := by
            unfold lowB
            rw [if_neg (by omega)]
          have HD := Lib.hid hd
          have HY := Lib.hid (HZ.out.alloc (.cells #[.int .u8 (c.toNat : Int)] 5))
          have zz := HY.out.f1
          unfold Buf at zz
          have HW := Lib.hid zz
          clear hd zz
          go_wp2_with (at_builtin; refine wpl_append rfl _ _ 50 rfl i0 (.int .u8 0) 1 undBytes hi hz0 hz1 hz2 rfl (by decide) rfl HW.out ⟨wr.heap.size, 0, none⟩ 1 1 [.int .u8 (c.toNat : Int)] rfl rfl (news_of HY.out) (by simp [Value.oneCell']) ?c1 ?c2 ?_)
          case c1 => have := HLN.out; unfold maxLen; omega
          case c2 => have := HLN.out; omega
          intro u w2 z
          have HR := Lib.hid (HTAIL.out _ _ _ HD.out z)
          clear z
          go_wp2_with fail
          go_roundg (gk - 1)
          case measure => omega
          case rel => exact ⟨i + 1, _, rfl, by go_num, by omega, HR⟩
      · have hd : (c.toNat : Int) = ((lowB c).toNat : Int) := by
          unfold lowB
          rw [if_neg (by omega)]
        have HD := Lib.hid hd
        have HY := Lib.hid (HZ.out.alloc (.cells #[.int .u8 (c.toNat : Int)] 5))
        have zz := HY.out.f1
        unfold Buf at zz
        have HW := Lib.hid zz
        clear hd zz
        go_wp2_with (at_builtin; refine wpl_append rfl _ _ 50 rfl i0 (.int .u8 0) 1 undBytes hi hz0 hz1 hz2 rfl (by decide) rfl HW.out ⟨wr.heap.size, 0, none⟩ 1 1 [.int .u8 (c.toNat : Int)] rfl rfl (news_of HY.out) (by simp [Value.oneCell']) ?c1 ?c2 ?_)
        case c1 => have := HLN.out; unfold maxLen; omega
        case c2 => have := HLN.out; omega
        intro u w2 z
        have HR := Lib.hid (HTAIL.out _ _ _ HD.out z)
        clear z
        go_wp2_with fail
        go_roundg (gk - 1)
        case measure => omega
        case rel => exact ⟨i + 1, _, rfl, by go_num, by omega, HR⟩
    · have hge : ¬ (i : Int) < (l.length : Int) := by omega
      have hall : l.take i = l := List.take_of_length_le (by omega)
      rw [hall] at HZ
      obtain ⟨lb, hlb⟩ : ∃ x, x = l.map lowB := ⟨_, rfl⟩
      rw [← hlb] at HZ
      have HLB := Lib.hid hlb
      clear hlb hall
      have HOLD := Lib.hid HZ.out.old
      obtain ⟨_, p⟩ := Row.cases HZ.out
      rcases p with ⟨rfl, h0, y⟩ | ⟨g, cap, cur, rfl, h4, h5, h6, h7, y⟩
      · have HNIL : Hid (l.map lowB = []) := by show _ = _; rw [← HLB.out]; exact List.eq_nil_of_length_eq_zero h0
        have hcv : (convert 50 9 (.slice none 0 0)).run Tryz.prog wr = .ok (.string ⟨#[]⟩) wr := by
          rw [run_convert_bytes_string wr 50 9 5 none 0 0 Tryz.underlying50 Tryz.underlying5 Tryz.underlying9]
          simp [Conv.bytesToString]
          rfl
        clear h0 y
        go_wp2_with fail
        go_ret
        exact ⟨by rw [HNIL.out]; rfl, HOLD.out⟩
      · have hcv := run_convert_bytes_back (P := Tryz.prog) wr 50 9 5 ⟨g, 0, none⟩ cap lb Tryz.underlying50 Tryz.underlying5 Tryz.underlying9 (fun j hj => by
          have := (Row.own HZ.out).cells (g := g) rfl j (.int .u8 (lb[j].toNat : Int)) (by simp [Lib.byteCells, hj])
          exact this)
        clear h4 h5 h6 h7 y
        go_wp2_with fail
        go_ret
        exact ⟨by rw [← HLB.out]; rfl, HOLD.out⟩
end
end Go.Proofs.YtalmkfikfmpmoaaGreatDoor

