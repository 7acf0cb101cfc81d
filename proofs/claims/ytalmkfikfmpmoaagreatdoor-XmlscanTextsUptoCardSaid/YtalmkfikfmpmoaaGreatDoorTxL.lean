/- XmlscanTexts, walked. -/
import Derived.Test.YtalmkfikfmpmoaaGreatDoorReb
import Derived.Test.YtalmkfikfmpmoaaGreatDoorTx
namespace Go.Proofs.YtalmkfikfmpmoaaGreatDoor
open Go.RowKit

theorem catT2 (a b : Bytes) : ((⟨#[60, 97, 32, 98, 61, 34]⟩ : ByteArray) ++ ⟨a.toArray⟩ ++ ⟨#[34, 62]⟩ ++ ⟨b.toArray⟩ ++ ⟨#[60, 47, 97, 62]⟩) = ⟨([60, 97, 32, 98, 61, 34] ++ a ++ [34, 62] ++ b ++ [60, 47, 97, 62]).toArray⟩ :=
  bytes_ext (by simp [ByteArray.data_append])

theorem docT_len (s : Bytes) : (docT s).length ≤ 12 * s.length + 12 := by
  have h1 := esc_len s
  have h2 := quo_len s
  unfold docT
  simp only [List.length_append, List.length_cons, List.length_nil]
  omega

section
variable {w : World}

set_option maxHeartbeats 8000000 in
set_option maxRecDepth 100000 in
theorem texts_any (g : Glob w) (s : Bytes) (hl : s.length ≤ 1048576) :
    Calls Tryz.prog 6 #[str s] w fun e w' => e = .returned (.bool true) ∧ Below w.heap.size w w' := by
  have HG := Lib.hid g
  have hdl := docT_len s
  have hcat : ((⟨#[60, 97, 32, 98, 61, 34]⟩ : ByteArray) ++ ⟨(quo s).toArray⟩ ++ ⟨#[34, 62]⟩ ++ ⟨(esc s).toArray⟩ ++ ⟨#[60, 47, 97, 62]⟩) = ⟨(docT s).toArray⟩ := catT2 _ _
  have HCAT := Lib.hid hcat
  have hql := quo_len s
  have hel := esc_len s
  clear g hcat
  go_enter Tryz.func6, Tryz.ntmps6
  go_wp2_with fail
  refine (escape_any s (by omega) w).mono ?_
  rintro e w1 ⟨rfl, hb⟩
  have HX := Lib.hid ((Hold.start w).below hb)
  clear hb
  go_wp2_with fail
  refine (refEscape_any s hl w1).mono ?_
  rintro e w2 ⟨rfl, rfl⟩
  go_wp2_with fail
  refine (quote_any s (by omega) w1).mono ?_
  rintro e w2 ⟨rfl, hb⟩
  have HX2 := Lib.hid (HX.out.below hb)
  clear hb
  go_wp2_with fail
  refine (refQuote_any s hl w2).mono ?_
  rintro e w3 ⟨rfl, rfl⟩
  go_wp2_with fail
  refine (quote_any s (by omega) w2).mono ?_
  rintro e w3 ⟨rfl, hb⟩
  have HX3 := Lib.hid (HX2.out.below hb)
  clear hb
  go_wp2_with fail
  refine (escape_any s (by omega) w3).mono ?_
  rintro e w4 ⟨rfl, hb⟩
  have HX4 := Lib.hid (HX3.out.below hb)
  clear hb
  go_wp2_with fail
  rw [HCAT.out]
  have hsc := scan_docT s
  have HTOK : Hid (toksT s = if s = [] then [⟨2, [97], [([98], s)], []⟩, ⟨7, [97], [], []⟩] else [⟨2, [97], [([98], s)], []⟩, ⟨4, [], [], s⟩, ⟨7, [97], [], []⟩]) := rfl
  clear HCAT
  generalize docT s = D at *
  by_cases hbig : 32768 < D.length
  · rw [if_pos hbig] at hsc
    have hbig' : (32768 : Int) < (D.length : Int) := by omega
    refine (scan_any HG.out D (by omega) HX4.out (by rw [hsc]; simp [wild])).mono ?_
    rw [hsc]
    rintro e w5 ⟨rfl, z⟩
    have HZ := Lib.hid z
    clear z hsc
    go_wp2_with fail
    refine (live_any HG.out HZ.out).mono ?_
    rintro e w6 ⟨rfl, z⟩
    have HZ2 := Lib.hid z
    clear z
    go_wp2_with fail
    go_ret
    exact ⟨rfl, HZ2.out.old⟩
  · rw [if_neg hbig] at hsc
    cases hb : badAt D.length D 0 with
    | some p =>
      rw [hb] at hsc
      simp only at hsc
      refine (scan_any HG.out D (by omega) HX4.out (by rw [hsc]; simp [wild])).mono ?_
      rw [hsc]
      rintro e w5 ⟨rfl, z⟩
      have HZ := Lib.hid z
      clear z hsc hb
      go_wp2_with fail
      refine (live_any HG.out HZ.out).mono ?_
      rintro e w6 ⟨rfl, z⟩
      have HZ2 := Lib.hid z
      clear z
      go_wp2_with fail
      go_ret
      exact ⟨rfl, HZ2.out.old⟩
    | none =>
      rw [hb] at hsc
      simp only at hsc
      refine (scan_any HG.out D (by omega) HX4.out (by rw [hsc]; simp)).mono ?_
      rw [hsc]
      rintro e w5 ⟨v, rfl, z⟩
      have HZ := Lib.hid z
      by_cases hs : s = []
      · subst hs
        have htk : toksT [] = [⟨2, [97], [([98], [])], []⟩, ⟨7, [97], [], []⟩] := rfl
        rw [htk] at z
        obtain ⟨gb, c, avs, rfl, hc1, hc2, hal, hcell, hatt⟩ := Toks.read z (by simp)
        clear z hsc hb hcell hatt htk
        go_wp2_with fail
        refine (live_any HG.out HZ.out).mono ?_
        rintro e w6 ⟨rfl, z⟩
        have HZ2 := Lib.hid z
        clear z
        go_wp2_with fail
        go_ret
        exact ⟨rfl, HZ2.out.old⟩
      · have hs0 : List.isEmpty s = false := by simpa using hs
        have htk : toksT s = [⟨2, [97], [([98], s)], []⟩, ⟨4, [], [], s⟩, ⟨7, [97], [], []⟩] := by rw [HTOK.out, if_neg hs]
        rw [htk] at z
        have HZT := Lib.hid z
        obtain ⟨va, vc, rfl⟩ := Toks.slice z
        clear z hsc hb htk
        go_wp2_with fail
        refine (live_any HG.out HZT.out).mono ?_
        rintro e w6 ⟨rfl, z⟩
        obtain ⟨gb, c, avs, hv, hc1, hc2, hal, hcell, hatt⟩ := Toks.read z (by simp)
        cases hv
        match avs, hal with
        | [a0, a1, a2], _ =>
          obtain ⟨c00, c01, c02, c03⟩ := hcell 0 _ a0 rfl rfl
          obtain ⟨c10, c11, c12, c13⟩ := hcell 1 _ a1 rfl rfl
          obtain ⟨ha, da, rfl, hd1, hd2, hat⟩ := hatt 0 _ a0 rfl rfl (by simp)
          obtain ⟨d0, d1⟩ := hat 0 _ rfl
          simp only [Nat.zero_mul, Nat.one_mul, Nat.zero_add, Nat.reduceMul, Nat.reduceAdd] at c00 c01 c02 c03 c10 c13 d0 d1
          have HZ3 := Lib.hid z
          have hlen : ([⟨2, [97], [([98], s)], []⟩, ⟨4, [], [], s⟩, ⟨7, [97], [], []⟩] : List Tok).length = 3 := rfl
          clear z hcell hatt hat c00 c01 c03 c10 c11 c12
          go_wp2_with fail
          go_ret
          exact ⟨rfl, HZ3.out.old⟩
end
end Go.Proofs.YtalmkfikfmpmoaaGreatDoor
