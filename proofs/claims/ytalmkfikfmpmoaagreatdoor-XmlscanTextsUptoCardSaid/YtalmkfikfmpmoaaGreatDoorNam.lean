/- Names: a text is one, two with a colon between. -/
import Derived.Test.YtalmkfikfmpmoaaGreatDoorScn2
namespace Go.Proofs.YtalmkfikfmpmoaaGreatDoor
open Go.RowKit

/-- Is a text a name? -/
def isName (l : Bytes) : Bool := Lib.validD l && !l.isEmpty && begins (Lib.decodeL l).1 && decide (wordN false l = l.length)

section
variable {W w : World} {L : List Asn} {b : Nat} {s : ByteArray} {σ : St}

theorem begins_goes (r : Int) (h : begins r = true) : goesOn r = true := by simp [goesOn, h]

set_option maxHeartbeats 2000000 in
set_option maxRecDepth 100000 in
theorem isName_any (g : Glob w) (l : Bytes) (hl : l.length ≤ 1048576) :
    Calls Tryz.prog 97 #[str l] w fun e w' => e = .returned (.bool (isName l)) ∧ Below w.heap.size w w' := by
  have HG := Lib.hid g
  clear g
  go_enter Tryz.func97, Tryz.ntmps97
  go_wp2_with fail
  refine (valid_any HG.out (Hold.start w) l (by omega)).mono ?_
  rintro e w1 ⟨rfl, hb⟩
  have x := (Hold.start w).below hb
  have HX := Lib.hid x
  clear hb x
  cases hv : Lib.validD l
  · have HN : Hid (isName l = false) := by show _ = _; simp [isName, hv]
    clear hv
    go_wp2_with fail
    go_ret
    exact ⟨by rw [HN.out]; rfl, HX.out.old⟩
  · have HV := Lib.hid hv
    clear hv
    go_wp2_with fail
    go_loopg [] l.length (fun k wr => ∃ p : Nat, Hold w wr [Asn.pts w1.heap.size (.stringIter ⟨l.toArray⟩ p)] ∧ k + p = l.length ∧
      Hid (wordN false l = p + wordN false (l.drop p)) ∧ Hid (0 < p → begins (Lib.decodeL l).1 = true))
    case atStart =>
      exact ⟨0, HX.out.allocAt rfl rfl, by simp, by show _ = _; simp, fun h => absurd h (Nat.lt_irrefl 0)⟩
    case round =>
      obtain ⟨p, z, hk, HW, HB⟩ := hrel
      have HZ := Lib.hid z
      have HK := Lib.hid hk
      by_cases hp : p < l.length
      · obtain ⟨w2, hnx, z2⟩ := run_next z (by simpa [ByteArray.size] using hp)
        rw [decode_list] at hnx z2
        have hne : l.drop p ≠ [] := by simp; omega
        have hst := Lib.hid (wordN_step false _ hne)
        have hw1 := Lib.decodeL_width (l.drop p)
        have hle := Lib.decodeL_le _ hne
        have hdl := decode_le ⟨l.toArray⟩ p
        rw [decode_list] at hdl
        rw [List.length_drop] at hle
        generalize hd : Lib.decodeL (l.drop p) = d at *
        have HD := Lib.hid hd
        obtain ⟨r, wd⟩ := d
        have hmv : l.drop (p + wd) = (l.drop p).drop wd := by rw [List.drop_drop]
        have HMV := Lib.hid hmv
        have HZ2 := Lib.hid z2
        clear z z2 hd hk hmv
        by_cases hp0 : p = 0
        · have hd0 : ((p : Int) == 0) = true := by simpa using hp0
          have hD0 := Lib.hid (show Lib.decodeL l = (r, wd) by have := HD.out; rw [hp0] at this; simpa using this)
          have HP0 := Lib.hid hp0
          clear hp0
          go_wp2_with fail
          refine (begins_any r w2 (by omega)).mono ?_
          rintro e w3 ⟨rfl, hb⟩
          have HZ3 := Lib.hid (HZ2.out.below hb)
          clear hb
          cases hbg : begins r
          · have HN : Hid (isName l = false) := by show _ = _; simp [isName, hD0.out, hbg]
            clear hbg
            go_wp2_with fail
            go_ret
            exact ⟨by rw [HN.out]; rfl, HZ3.out.old⟩
          · have hgo := begins_goes r hbg
            have HBG := Lib.hid hbg
            have HGO := Lib.hid hgo
            clear hgo hbg
            go_wp2_with fail
            refine (goesOn_any r w3 (by omega)).mono ?_
            rintro e w4 ⟨rfl, hb⟩
            have HZ4 := Lib.hid (HZ3.out.below hb)
            clear hb
            rw [HGO.out]
            go_wp2_with fail
            go_roundg (gk - wd)
            case measure => have := HK.out; omega
            case rel => exact ⟨p + wd, HZ4.out, by have := HK.out; omega, by show _ = _; rw [HW.out, hst.out, HGO.out, HMV.out]; simp; omega, fun _ => by rw [hD0.out]; exact HBG.out⟩
        · have hd0 : ((p : Int) == 0) = false := by simpa using hp0
          go_wp2_with fail
          refine (goesOn_any r w2 (by omega)).mono ?_
          rintro e w3 ⟨rfl, hb⟩
          have HZ3 := Lib.hid (HZ2.out.below hb)
          clear hb
          cases hgo : goesOn r
          · have HN : Hid (isName l = false) := by
              show _ = _
              have : wordN false l ≠ l.length := by rw [HW.out, hst.out, hgo]; simp; omega
              simp [isName, this]
            clear hgo
            go_wp2_with fail
            go_ret
            exact ⟨by rw [HN.out]; rfl, HZ3.out.old⟩
          · have HGO := Lib.hid hgo
            clear hgo
            go_wp2_with fail
            go_roundg (gk - wd)
            case measure => have := HK.out; omega
            case rel => exact ⟨p + wd, HZ3.out, by have := HK.out; omega, by show _ = _; rw [HW.out, hst.out, HGO.out, HMV.out]; simp; omega, fun _ => HB.out (by omega)⟩
      · have hov := run_over z (by simpa [ByteArray.size] using hp)
        have HN : Hid (isName l = !l.isEmpty) := by
          show _ = _
          have hd : l.drop p = [] := by simp; omega
          have : wordN false l = l.length := by rw [HW.out, hd, wordN_nil]; omega
          by_cases he : l = []
          · subst he; rfl
          · have h0 : 0 < p := by have := List.length_pos_iff.2 he; omega
            simp [isName, HV.out, HB.out h0, this]
        clear z hk
        go_wp2_with fail
        go_ret
        exact ⟨by rw [HN.out]; rfl, HZ.out.old⟩

/-- A QName's prefix and local name. -/
def split (l : Bytes) : Option (Bytes × Bytes) :=
  let c := Lib.cut l [58]
  if c.2.2 then (if isName c.2.1 && isName c.1 then some (c.1, c.2.1) else none)
  else if isName l then some ([], l) else none

def splitV : Option (Bytes × Bytes) → Value
  | some (a, b) => .tuple #[str a, str b, .bool true]
  | none => .tuple #[str [], str [], .bool false]

set_option maxHeartbeats 2000000 in
theorem split_any (g : Glob w) (l : Bytes) (hl : l.length ≤ 1048576) :
    Calls Tryz.prog 94 #[str l] w fun e w' => e = .returned (splitV (split l)) ∧ Below w.heap.size w w' := by
  have HG := Lib.hid g
  clear g
  go_enter Tryz.func94, Tryz.ntmps94
  go_wp2_with fail
  refine (cut_any HG.out (Hold.start w) l [58] (by omega)).mono ?_
  rintro e w1 ⟨rfl, n, rfl⟩
  have x := (Hold.start w).drewN n
  have HX := Lib.hid x
  have HG1 := Lib.hid (HG.out.carry x)
  have hcl := cut_length l [58]
  have hsp : split l = (if (Lib.cut l [58]).2.2 then (if isName (Lib.cut l [58]).2.1 && isName (Lib.cut l [58]).1 then some ((Lib.cut l [58]).1, (Lib.cut l [58]).2.1) else none) else if isName l then some ([], l) else none) := rfl
  have hc2 : (Lib.cut l [58]).2.1.length ≤ l.length := by
    unfold Lib.cut; split <;> simp
  generalize hcut : Lib.cut l [58] = c at *
  obtain ⟨c1, c2, c3⟩ := c
  have HS := Lib.hid hsp
  clear x hcut hsp
  cases c3
  · clear hcl
    go_wp2_with fail
    refine (isName_any HG1.out l hl).mono ?_
    rintro e w2 ⟨rfl, hb⟩
    have HX2 := Lib.hid (HX.out.below hb)
    clear hb
    cases hn : isName l
    · have HF : Hid (split l = none) := by show _ = _; rw [HS.out]; simp [hn]
      clear hn
      go_wp2_with fail
      go_ret3
      exact ⟨by rw [HF.out]; rfl, HX2.out.old⟩
    · have HF : Hid (split l = some ([], l)) := by show _ = _; rw [HS.out]; simp [hn]
      clear hn
      go_wp2_with fail
      go_ret3
      exact ⟨by rw [HF.out]; rfl, HX2.out.old⟩
  · have hcl := hcl rfl
    simp at hcl
    have h2 : c2.length ≤ 1048576 := by simp at hc2; omega
    have h1 : c1.length ≤ 1048576 := by omega
    clear hcl hc2
    go_wp2_with fail
    refine (isName_any HG1.out c2 h2).mono ?_
    rintro e w2 ⟨rfl, hb⟩
    have HX2 := Lib.hid (HX.out.below hb)
    have HG2 := Lib.hid (HG.out.carry HX2.out)
    clear hb
    cases hn : isName c2
    · have HF : Hid (split l = none) := by show _ = _; rw [HS.out]; simp [hn]
      clear hn
      go_wp2_with fail
      go_ret3
      exact ⟨by rw [HF.out]; rfl, HX2.out.old⟩
    · have HN2 := Lib.hid hn
      clear hn
      go_wp2_with fail
      refine (isName_any HG2.out c1 h1).mono ?_
      rintro e w3 ⟨rfl, hb⟩
      have HX3 := Lib.hid (HX2.out.below hb)
      clear hb
      cases hn : isName c1
      · have HF : Hid (split l = none) := by show _ = _; rw [HS.out]; simp [hn]
        clear hn
        go_wp2_with fail
        go_ret3
        exact ⟨by rw [HF.out]; rfl, HX3.out.old⟩
      · have HF : Hid (split l = some (c1, c2)) := by show _ = _; rw [HS.out]; simp [hn, HN2.out]
        clear hn
        go_wp2_with fail
        go_ret3
        exact ⟨by rw [HF.out]; rfl, HX3.out.old⟩
end
end Go.Proofs.YtalmkfikfmpmoaaGreatDoor
