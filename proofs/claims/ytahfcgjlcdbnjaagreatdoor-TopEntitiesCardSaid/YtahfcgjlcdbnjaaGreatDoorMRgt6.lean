/- right, of a processing instruction. -/
import Derived.Test.YtahfcgjlcdbnjaaGreatDoorMWid
namespace Go.Proofs.YtahfcgjlcdbnjaaGreatDoor
open Go.RowKit

theorem bytes_eqb (a b : Bytes) : ((⟨a.toArray⟩ : ByteArray) == ⟨b.toArray⟩) = (a == b) := by
  by_cases h : a = b
  · subst h
    rw [(Go.MapKept.bytes_beq _ _).2 rfl]; simp
  · have h1 : ((⟨a.toArray⟩ : ByteArray) == ⟨b.toArray⟩) = false := by
      rw [Bool.eq_false_iff]
      intro hh
      apply h
      have := congrArg (fun x : ByteArray => x.data.toList) ((Go.MapKept.bytes_beq _ _).1 hh)
      simpa using this
    rw [h1]; symm; simpa using h

theorem splitV_some (l : Bytes) : ∃ a b : Bytes, splitV (split l) = .tuple #[str a, str b, .bool (split l).isSome] := by
  cases split l with
  | none => exact ⟨[], [], rfl⟩
  | some p => exact ⟨p.1, p.2, rfl⟩

/-- An operation of a quiet walk that is wanted: its value. -/
theorem quiet_take {P : Program} {ops : Array Oper} {C : World → Prop} {o : Oper} {a : Act} {K : Act → Prop} (hw : Region.wanted o (yielded ops a.tmps) = true) (v : Value) (h : ∀ w, C w → o.quietAt P a C w v) (hk : K (a.put o.dst v)) :
    if Region.wanted o (yielded ops a.tmps) then o.quiet P a C K else K (a.put o.dst undef) := by
  rw [if_pos hw]; exact ⟨v, h, hk⟩

section
variable {W w w' : World} {L : List Asn}

set_option maxHeartbeats 8000000 in
set_option maxRecDepth 100000 in
theorem right6_any (g : Glob w) (t : Tok) (hs : SmallTok t) (av : Value) (ha : AttrsAt w av t.attrs) (hk6 : t.kind = 6) (hte : isText t.text = true) (hnil : t.attrs = []) :
    Calls Tryz.prog 133 #[.agg #[.int .i64 t.kind, str t.name, av, str t.text]] w fun e w' => e = .returned (.bool (right isText t)) ∧ Below w.heap.size w w' := by
  obtain ⟨aa, ac, rfl, hat⟩ := ha
  obtain ⟨n, hn⟩ : ∃ n, n = t.attrs.length := ⟨_, rfl⟩
  rw [← hn] at hat ⊢
  have hn0 : n = 0 := by rw [hn, hnil]; rfl
  subst hn0
  have HTE := Lib.hid hte
  have HNIL := Lib.hid hnil
  have HG := Lib.hid g
  have HS := Lib.hid hs
  have htl := hs.text
  have HR : Hid (right isText t = (isName t.name && !isXml t.name && !Lib.contains t.text [63, 62] && trimB t.text == t.text)) := by
    show _ = _
    unfold right
    rw [HTE.out, HNIL.out]
    simp [hk6]
  have HX := Lib.hid ((Hold.start w).alloc (.cells #[.int .i64 6, str t.name, .slice aa 0 ac, str t.text] 38))
  rw [hk6]
  clear hn hat g hs hte hnil hk6
  go_enter Tryz.func133, Tryz.ntmps133
  go_wp2_with fail
  refine (split_any (HG.out.carry HX.out) t.name HS.out.name).mono ?_
  obtain ⟨sa, sb, hsv⟩ := splitV_some t.name
  rw [hsv]
  rintro e w1 ⟨rfl, hb⟩
  obtain ⟨q, hq⟩ : ∃ q, (split t.name).isSome = q := ⟨_, rfl⟩
  rw [hq]
  have HX1 := Lib.hid (HX.out.below hb)
  have k0 := HX1.out.cell 0
  have k1 := HX1.out.cell 1
  have k2 := HX1.out.cell 2
  have k3 := HX1.out.cell 3
  clear hb hsv hq
  go_wp2_with fail
  refine (isText_any (HG.out.carry HX1.out) t.text (by omega)).mono ?_
  rintro e w2 ⟨rfl, hb⟩
  rw [HTE.out]
  have HX2 := Lib.hid (HX1.out.below hb)
  have k0 := HX2.out.cell 0
  have k1 := HX2.out.cell 1
  have k2 := HX2.out.cell 2
  have k3 := HX2.out.cell 3
  clear hb
  go_wp2_with fail
  obtain ⟨b1, hin⟩ : ∃ b, isName t.name = b := ⟨_, rfl⟩
  obtain ⟨b2, hx⟩ : ∃ b, isXml t.name = b := ⟨_, rfl⟩
  obtain ⟨b3, hc⟩ : ∃ b, Lib.contains t.text [63, 62] = b := ⟨_, rfl⟩
  obtain ⟨b4, htr⟩ : ∃ b, (trimB t.text == t.text) = b := ⟨_, rfl⟩
  have HR2 : Hid (right isText t = (b1 && !b2 && !b3 && b4)) := by show _ = _; rw [HR.out, hin, hx, hc, htr]
  have htq : (((⟨(trimB t.text).toArray⟩ : ByteArray) == ⟨t.text.toArray⟩) = b4) := by rw [← htr]; exact bytes_eqb _ _
  have HIN := Lib.hid hin
  have HXM := Lib.hid hx
  have HCO := Lib.hid hc
  have HTR := Lib.hid htr
  clear hin hx hc htr
  cases b1
  · refine wp_region_quiet (C := fun w' => Hold w w' [Asn.pts w.heap.size (.cells #[.int .i64 6, str t.name, .slice aa 0 ac, str t.text] 38 (0, 0))]) (by kernel_rfl) (by kernel_rfl) HX2.out.drew ?_
    repeat
      (refine wpQuiet_step (fun K hK => ?_)
       first
       | (go_simp; first | refine hK _ ?_ | refine ⟨_, fun _ _ => rfl, hK _ ?_⟩; clear hK K)
       | (refine quiet_take rfl (str t.name) (fun w' hC => ?_) (hK _ ?_)
          · unfold Oper.quietAt
            have k1 := hC.cell 1
            go_simp
            done
          clear hK K)
       | (refine quiet_take rfl (str t.text) (fun w' hC => ?_) (hK _ ?_)
          · unfold Oper.quietAt
            have k3 := hC.cell 3
            go_simp
            done
          clear hK K)
       | (refine quiet_take rfl (.bool false) (fun w' hC => ?_) (hK _ ?_)
          · unfold Oper.quietAt
            go_simp
            go_at_call 140
            exact (isName_any (HG.out.carry hC) t.name HS.out.name).mono fun e w'' h => ⟨by rw [h.1, HIN.out], hC.below h.2⟩
          clear hK K)
       | (refine quiet_take rfl (.bool b2) (fun w' hC => ?_) (hK _ ?_)
          · unfold Oper.quietAt
            go_simp
            go_at_call 166
            exact (equalFold_any (HG.out.carry hC) t.name HS.out.name).mono fun e w'' h => ⟨by rw [h.1, HXM.out], hC.below h.2⟩
          clear hK K)
       | (refine quiet_take rfl (.bool b3) (fun w' hC => ?_) (hK _ ?_)
          · unfold Oper.quietAt
            go_simp
            go_at_call 175
            exact (contains_any (HG.out.carry hC) (Hold.start w') t.text [63, 62] (by omega)).mono fun e w'' h => ⟨by rw [h.1, HCO.out], by rw [h.2]; exact hC⟩
          clear hK K)
       | (refine quiet_take rfl (str (trimB t.text)) (fun w' hC => ?_) (hK _ ?_)
          · unfold Oper.quietAt
            go_simp
            go_at_call 161
            exact (trimLeft_any t.text).mono fun e w'' h => ⟨h.1, hC.below h.2⟩
          clear hK K))
    refine wpQuiet_nil ?_
    intro w9 hC
    have HZ := Lib.hid hC
    clear hC
    go_wp2_with fail
    go_ret
    exact ⟨by rw [HR2.out]; first | rfl | (rw [← HTR.out]; rfl), HZ.out.old⟩
  cases b2
  rotate_left
  · refine wp_region_quiet (C := fun w' => Hold w w' [Asn.pts w.heap.size (.cells #[.int .i64 6, str t.name, .slice aa 0 ac, str t.text] 38 (0, 0))]) (by kernel_rfl) (by kernel_rfl) HX2.out.drew ?_
    repeat
      (refine wpQuiet_step (fun K hK => ?_)
       first
       | (go_simp; first | refine hK _ ?_ | refine ⟨_, fun _ _ => rfl, hK _ ?_⟩; clear hK K)
       | (refine quiet_take rfl (str t.name) (fun w' hC => ?_) (hK _ ?_)
          · unfold Oper.quietAt
            have k1 := hC.cell 1
            go_simp
            done
          clear hK K)
       | (refine quiet_take rfl (str t.text) (fun w' hC => ?_) (hK _ ?_)
          · unfold Oper.quietAt
            have k3 := hC.cell 3
            go_simp
            done
          clear hK K)
       | (refine quiet_take rfl (.bool true) (fun w' hC => ?_) (hK _ ?_)
          · unfold Oper.quietAt
            go_simp
            go_at_call 140
            exact (isName_any (HG.out.carry hC) t.name HS.out.name).mono fun e w'' h => ⟨by rw [h.1, HIN.out], hC.below h.2⟩
          clear hK K)
       | (refine quiet_take rfl (.bool true) (fun w' hC => ?_) (hK _ ?_)
          · unfold Oper.quietAt
            go_simp
            go_at_call 166
            exact (equalFold_any (HG.out.carry hC) t.name HS.out.name).mono fun e w'' h => ⟨by rw [h.1, HXM.out], hC.below h.2⟩
          clear hK K)
       | (refine quiet_take rfl (.bool b3) (fun w' hC => ?_) (hK _ ?_)
          · unfold Oper.quietAt
            go_simp
            go_at_call 175
            exact (contains_any (HG.out.carry hC) (Hold.start w') t.text [63, 62] (by omega)).mono fun e w'' h => ⟨by rw [h.1, HCO.out], by rw [h.2]; exact hC⟩
          clear hK K)
       | (refine quiet_take rfl (str (trimB t.text)) (fun w' hC => ?_) (hK _ ?_)
          · unfold Oper.quietAt
            go_simp
            go_at_call 161
            exact (trimLeft_any t.text).mono fun e w'' h => ⟨h.1, hC.below h.2⟩
          clear hK K))
    refine wpQuiet_nil ?_
    intro w9 hC
    have HZ := Lib.hid hC
    clear hC
    go_wp2_with fail
    go_ret
    exact ⟨by rw [HR2.out]; first | rfl | (rw [← HTR.out]; rfl), HZ.out.old⟩
  cases b3
  · refine wp_region_quiet (C := fun w' => Hold w w' [Asn.pts w.heap.size (.cells #[.int .i64 6, str t.name, .slice aa 0 ac, str t.text] 38 (0, 0))]) (by kernel_rfl) (by kernel_rfl) HX2.out.drew ?_
    repeat
      (refine wpQuiet_step (fun K hK => ?_)
       first
       | (go_simp; first | refine hK _ ?_ | refine ⟨_, fun _ _ => rfl, hK _ ?_⟩; clear hK K)
       | (refine quiet_take rfl (str t.name) (fun w' hC => ?_) (hK _ ?_)
          · unfold Oper.quietAt
            have k1 := hC.cell 1
            go_simp
            done
          clear hK K)
       | (refine quiet_take rfl (str t.text) (fun w' hC => ?_) (hK _ ?_)
          · unfold Oper.quietAt
            have k3 := hC.cell 3
            go_simp
            done
          clear hK K)
       | (refine quiet_take rfl (.bool true) (fun w' hC => ?_) (hK _ ?_)
          · unfold Oper.quietAt
            go_simp
            go_at_call 140
            exact (isName_any (HG.out.carry hC) t.name HS.out.name).mono fun e w'' h => ⟨by rw [h.1, HIN.out], hC.below h.2⟩
          clear hK K)
       | (refine quiet_take rfl (.bool false) (fun w' hC => ?_) (hK _ ?_)
          · unfold Oper.quietAt
            go_simp
            go_at_call 166
            exact (equalFold_any (HG.out.carry hC) t.name HS.out.name).mono fun e w'' h => ⟨by rw [h.1, HXM.out], hC.below h.2⟩
          clear hK K)
       | (refine quiet_take rfl (.bool false) (fun w' hC => ?_) (hK _ ?_)
          · unfold Oper.quietAt
            go_simp
            go_at_call 175
            exact (contains_any (HG.out.carry hC) (Hold.start w') t.text [63, 62] (by omega)).mono fun e w'' h => ⟨by rw [h.1, HCO.out], by rw [h.2]; exact hC⟩
          clear hK K)
       | (refine quiet_take rfl (str (trimB t.text)) (fun w' hC => ?_) (hK _ ?_)
          · unfold Oper.quietAt
            go_simp
            go_at_call 161
            exact (trimLeft_any t.text).mono fun e w'' h => ⟨h.1, hC.below h.2⟩
          clear hK K))
    refine wpQuiet_nil ?_
    intro w9 hC
    have HZ := Lib.hid hC
    clear hC
    go_wp2_with fail
    go_ret
    exact ⟨by rw [HR2.out]; first | rfl | (rw [← HTR.out]; rfl), HZ.out.old⟩
  · refine wp_region_quiet (C := fun w' => Hold w w' [Asn.pts w.heap.size (.cells #[.int .i64 6, str t.name, .slice aa 0 ac, str t.text] 38 (0, 0))]) (by kernel_rfl) (by kernel_rfl) HX2.out.drew ?_
    repeat
      (refine wpQuiet_step (fun K hK => ?_)
       first
       | (go_simp; first | refine hK _ ?_ | refine ⟨_, fun _ _ => rfl, hK _ ?_⟩; clear hK K)
       | (refine quiet_take rfl (str t.name) (fun w' hC => ?_) (hK _ ?_)
          · unfold Oper.quietAt
            have k1 := hC.cell 1
            go_simp
            done
          clear hK K)
       | (refine quiet_take rfl (str t.text) (fun w' hC => ?_) (hK _ ?_)
          · unfold Oper.quietAt
            have k3 := hC.cell 3
            go_simp
            done
          clear hK K)
       | (refine quiet_take rfl (.bool true) (fun w' hC => ?_) (hK _ ?_)
          · unfold Oper.quietAt
            go_simp
            go_at_call 140
            exact (isName_any (HG.out.carry hC) t.name HS.out.name).mono fun e w'' h => ⟨by rw [h.1, HIN.out], hC.below h.2⟩
          clear hK K)
       | (refine quiet_take rfl (.bool false) (fun w' hC => ?_) (hK _ ?_)
          · unfold Oper.quietAt
            go_simp
            go_at_call 166
            exact (equalFold_any (HG.out.carry hC) t.name HS.out.name).mono fun e w'' h => ⟨by rw [h.1, HXM.out], hC.below h.2⟩
          clear hK K)
       | (refine quiet_take rfl (.bool true) (fun w' hC => ?_) (hK _ ?_)
          · unfold Oper.quietAt
            go_simp
            go_at_call 175
            exact (contains_any (HG.out.carry hC) (Hold.start w') t.text [63, 62] (by omega)).mono fun e w'' h => ⟨by rw [h.1, HCO.out], by rw [h.2]; exact hC⟩
          clear hK K)
       | (refine quiet_take rfl (str (trimB t.text)) (fun w' hC => ?_) (hK _ ?_)
          · unfold Oper.quietAt
            go_simp
            go_at_call 161
            exact (trimLeft_any t.text).mono fun e w'' h => ⟨h.1, hC.below h.2⟩
          clear hK K))
    refine wpQuiet_nil ?_
    intro w9 hC
    have HZ := Lib.hid hC
    clear hC
    go_wp2_with fail
    go_ret
    exact ⟨by rw [HR2.out]; first | rfl | (rw [← HTR.out]; rfl), HZ.out.old⟩
end
end Go.Proofs.YtahfcgjlcdbnjaaGreatDoor

