/- The law's own Write: tokens as a text. -/
import Derived.Test.YtalmkfikfmpmoaaGreatDoorMRrg
import Derived.Test.YtalmkfikfmpmoaaGreatDoorMWrt
namespace Go.Proofs.YtalmkfikfmpmoaaGreatDoor
open Go.RowKit

section
variable {W w w' : World} {L : List Asn} {b : Nat}

set_option maxHeartbeats 16000000 in
set_option maxRecDepth 100000 in
theorem refWrite_any (g : Glob w) (l : List Tok) (v : Value) (hv : TokRow w v l) (hl : l.length ≤ 1048576) (hs : ∀ t ∈ l, SmallTok t) :
    Calls Tryz.prog 20 #[v] w fun e w' => e = .returned (.tuple #[str (writeR l).1, .int .i64 (writeR l).2]) ∧ Below w.heap.size w w' := by
  have HV := Lib.hid hv
  obtain ⟨aa, ac, rfl, hrow⟩ := hv
  obtain ⟨n, hn⟩ : ∃ n, n = l.length := ⟨_, rfl⟩
  rw [← hn] at hrow hl HV ⊢
  have HN := Lib.hid hn
  have HA := Lib.hid hrow
  have HS := Lib.hid hs
  have HG := Lib.hid g
  clear hn hrow hs g
  go_enter Tryz.func20, Tryz.ntmps20
  go_wp2_with fail
  refine (refRight_any HG.out l (.slice aa n ac) HV.out (by have := HN.out; omega) HS.out).mono ?_
  rintro e w1 ⟨rfl, hb⟩
  obtain ⟨r, hr⟩ : ∃ r, r = wholeN l := ⟨_, rfl⟩
  rw [← hr]
  have HX1 := Lib.hid ((Hold.start w).below hb)
  clear hb
  by_cases h0 : r = 0
  · have HR0 : Hid (wholeN l = 0) := by show _ = _; rw [← hr, h0]
    have hr0 : ((r : Int) != 0) = false := by rw [h0]; rfl
    subst h0
    clear hr
    go_wp2_with fail
    go_loopg [5, 6] n (fun gk v5 v6 wr => ∃ (j : Nat), v5 = str (write (l.take j)) ∧ v6 = .int .i64 j ∧ gk + j = n ∧ (write (l.take j)).length ≤ 32768 ∧ Hid (Hold w wr []))
    case atStart => exact ⟨0, rfl, rfl, by omega, by simp [write], HX1⟩
    case round =>
      obtain ⟨j, rfl, rfl, hig, hout, HZ⟩ := hrel
      rename World => wo
      by_cases hlt : j < n
      · have hlt' : (j : Int) < (n : Int) := by omega
        obtain ⟨t, ht⟩ : ∃ t, l[j]? = some t := ⟨_, List.getElem?_eq_getElem (by have := HN.out; omega)⟩
        have hmem : t ∈ l := List.mem_of_getElem? ht
        have HST := Lib.hid (HS.out t hmem)
        have hs1 := HST.out.name
        have hs2 := HST.out.text
        have hs3 := HST.out.many
        have HNX : Hid (write (l.take (j + 1)) = write (l.take j) ++ wr t) := by
          show _ = _
          have hj' : j < l.length := by have := HN.out; omega
          unfold write
          rw [List.take_succ_eq_append_getElem hj', (List.getElem?_eq_some_iff.1 ht).2, List.flatMap_append]
          simp
        obtain ⟨nx, hnx⟩ : ∃ nx, nx = write (l.take (j + 1)) := ⟨_, rfl⟩
        have HNN := Lib.hid hnx
        have HTL := Lib.hid (write_take_le l (j + 1))
        have HNX2 : Hid (nx = write (l.take j) ++ Go.Proofs.YtalmkfikfmpmoaaGreatDoor.wr t) := by show _ = _; rw [hnx]; exact HNX.out
        obtain ⟨h, o, rfl, hcells⟩ := HA.out (by omega)
        obtain ⟨av, hta⟩ := hcells j t ht
        obtain ⟨ta, tc, hav, hat⟩ := hta.at_
        subst hav
        have hta := hta.keep HZ.out
        have HAT := Lib.hid hat
        have c0 := hta.kind
        have c1 := hta.name
        have c2 := hta.attrs
        have c3 := hta.text
        have HZA := Lib.hid (HZ.out.alloc (.cells #[.int .i64 t.kind, str t.name, .slice ta t.attrs.length tc, str t.text] 32))
        generalize write (l.take j) = out at *
        clear hta hat hmem hcells ht hnx
        by_cases hk2 : t.kind = 2
        · have HWR : Hid (nx = out ++ (60 :: t.name) ++ t.attrs.flatMap attrB ++ [62]) := by show _ = _; rw [HNX2.out]; unfold Go.Proofs.YtalmkfikfmpmoaaGreatDoor.wr; rw [if_pos hk2]; simp
          have hc1 : ((⟨#[60]⟩ : ByteArray) ++ ⟨t.name.toArray⟩) = ⟨(60 :: t.name).toArray⟩ := bytes_ext (by simp [ByteArray.data_append])
          have hc2 : ((⟨out.toArray⟩ : ByteArray) ++ ⟨(60 :: t.name).toArray⟩) = ⟨(out ++ (60 :: t.name)).toArray⟩ := bytes_ext (by simp [ByteArray.data_append])
          obtain ⟨m, hm⟩ : ∃ m, m = t.attrs.length := ⟨_, rfl⟩
          have hat := HAT.out
          have hza := HZA.out
          rw [hk2] at hza
          rw [← hm] at hza c2 hat hs3
          have HZA := Lib.hid hza
          have HM := Lib.hid hm
          have HAT := Lib.hid hat
          obtain ⟨G, hG⟩ : ∃ G, G = gk := ⟨_, rfl⟩
          have HGG : Hid (G + j = n) := by show _ = _; omega
          have hBL : (out ++ (60 :: t.name)).length ≤ 32768 + 1048576 + 1 := by simp; omega
          clear hza hm hat
          go_wp2_with fail
          generalize out ++ (60 :: t.name) = B at *
          go_loopg [5, 8] m (fun gk v5 v8 wr => ∃ (k : Nat), v5 = str (B ++ (t.attrs.take k).flatMap attrB) ∧ v8 = .int .i64 k ∧ gk + k = m ∧ Hid (Hold w wr [Asn.pts wo.heap.size (.cells #[.int .i64 2, str t.name, .slice ta m tc, str t.text] 32 (0, 0))]))
          case atStart => exact ⟨0, by simp, rfl, by omega, HZA⟩
          case round =>
            obtain ⟨k, rfl, rfl, hig2, HZK⟩ := hrel
            have q0 := HZK.out.cell 2
            by_cases hlt2 : k < m
            · have hlt2' : (k : Int) < (m : Int) := by omega
              obtain ⟨p, hp⟩ : ∃ p, t.attrs[k]? = some p := ⟨_, List.getElem?_eq_getElem (by have := HM.out; omega)⟩
              obtain ⟨h2, o2, rfl, hcs⟩ := HAT.out (by omega)
              obtain ⟨hp1, hp2⟩ := HST.out.attrs p (List.mem_of_getElem? hp)
              have hlen := attrs_len8 t.attrs HST.out.attrs k
              have hmm : k * 8388608 ≤ 8796093022208 := by omega
              have HFL : Hid ((t.attrs.take (k + 1)).flatMap attrB = (t.attrs.take k).flatMap attrB ++ attrB p) := by
                show _ = _
                have hk' : k < t.attrs.length := by have := HM.out; omega
                rw [List.take_succ_eq_append_getElem hk', (List.getElem?_eq_some_iff.1 hp).2, List.flatMap_append]
                simp
              obtain ⟨n1, n2⟩ := p
              have e1 : wr.cell? ⟨h2, o2 + k * 2, none⟩ = some (str n1) := HZK.out.oldCell (hcs k _ hp).1
              have e2 : wr.cell? ⟨h2, o2 + k * 2 + 1, none⟩ = some (str n2) := HZK.out.oldCell (hcs k _ hp).2
              simp only at hp1 hp2
              have hql := quo_len n2
              have hal : (attrB (n1, n2)).length = n1.length + (quo n2).length + 4 := by unfold attrB; simp; omega
              obtain ⟨ab, hab⟩ : ∃ a, a = attrB (n1, n2) := ⟨_, rfl⟩
              have q1 : ((⟨#[32]⟩ : ByteArray) ++ ⟨n1.toArray⟩) = ⟨(32 :: n1).toArray⟩ := bytes_ext (by simp [ByteArray.data_append])
              have q2 : ((⟨(32 :: n1).toArray⟩ : ByteArray) ++ ⟨#[61, 34]⟩) = ⟨(32 :: (n1 ++ [61, 34])).toArray⟩ := bytes_ext (by simp [ByteArray.data_append])
              have q3 : ((⟨(32 :: (n1 ++ [61, 34])).toArray⟩ : ByteArray) ++ ⟨(quo n2).toArray⟩) = ⟨(32 :: (n1 ++ 61 :: 34 :: quo n2)).toArray⟩ := bytes_ext (by simp [ByteArray.data_append])
              have q4 : ((⟨(32 :: (n1 ++ 61 :: 34 :: quo n2)).toArray⟩ : ByteArray) ++ ⟨#[34]⟩) = ⟨ab.toArray⟩ := bytes_ext (by rw [hab]; simp [ByteArray.data_append, attrB])
              obtain ⟨acc, hacc⟩ : ∃ a, a = B ++ (t.attrs.take k).flatMap attrB := ⟨_, rfl⟩
              have hal2 : acc.length ≤ 8796093022208 + 32768 + 1048576 + 1 := by rw [hacc, List.length_append]; omega
              have q5 : ((⟨acc.toArray⟩ : ByteArray) ++ ⟨ab.toArray⟩) = ⟨(acc ++ ab).toArray⟩ := bytes_ext (by simp [ByteArray.data_append])
              have HAC : Hid (acc ++ ab = B ++ (t.attrs.take (k + 1)).flatMap attrB) := by show _ = _; rw [hacc, hab, HFL.out, List.append_assoc]
              rw [← hacc]
              have z1 : ¬ 9223372036854775807 < 1 + n1.length := by omega
              have z2 : ¬ 9223372036854775807 < n1.length + 1 + 2 := by omega
              have z3 : ¬ 9223372036854775807 < n1.length + 2 + 1 + (quo n2).length := by omega
              have z4 : ¬ 9223372036854775807 < n1.length + ((quo n2).length + 1 + 1) + 1 + 1 := by omega
              have z5 : ¬ 9223372036854775807 < acc.length + ab.length := by rw [hab]; omega
              clear hp hcs hacc hab hal
              go_wp2_with fail
              go_region_held3 (fun w' => w'.cell? ⟨wo.heap.size, 2, none⟩ = some (.slice (some ⟨h2, o2, none⟩) m tc) ∧ w'.cell? ⟨h2, o2 + k * 2, none⟩ = some (str n1) ∧ w'.cell? ⟨h2, o2 + k * 2 + 1, none⟩ = some (str n2))
                (first | go_keep | exact k12)
                (first
                  | (go_at_call 18
                     refine (refQuote_any n2 (by omega) _).mono ?_
                     rintro e w5 ⟨rfl, rfl⟩
                     have k12 : wr.drew.cell? ⟨wo.heap.size, 2, none⟩ = some (.slice (some ⟨h2, o2, none⟩) m tc) ∧ wr.drew.cell? ⟨h2, o2 + k * 2, none⟩ = some (str n1) ∧ wr.drew.cell? ⟨h2, o2 + k * 2 + 1, none⟩ = some (str n2) := ⟨q0, e1, e2⟩))
              all_goals
                have HZN := Lib.hid HZK.out.drew
                go_wp2_with fail
                go_roundg (gk - 1)
                case measure => omega
                case rel => exact ⟨k + 1, (by rw [← HAC.out]), by go_num, by omega, HZN⟩
            · have hge2 : ¬ (k : Int) < (m : Int) := by omega
              have HTK : Hid (t.attrs.take k = t.attrs) := List.take_of_length_le (by have := HM.out; omega)
              have hlen := attrs_len8 t.attrs HST.out.attrs k
              have hmm : k * 8388608 ≤ 8796093022208 := by omega
              have hc9 : ((⟨(B ++ (t.attrs.take k).flatMap attrB).toArray⟩ : ByteArray) ++ ⟨#[62]⟩) = ⟨nx.toArray⟩ := bytes_ext (by rw [HWR.out, HTK.out]; simp [ByteArray.data_append])
              have hal2 : (B ++ (t.attrs.take k).flatMap attrB).length ≤ 8796093022208 + 32768 + 1048576 + 1 := by rw [List.length_append]; omega
              generalize B ++ (t.attrs.take k).flatMap attrB = acc at *
              have HZF := Lib.hid HZK.out.drop
              by_cases hbig : nx.length ≤ 32768
              · have hbig' : ¬ (32768 : Int) < (nx.length : Int) := by omega
                go_wp2_with fail
                go_roundg (G - 1)
                case measure => have := HGG.out; omega
                case rel => exact ⟨j + 1, (by rw [← HNN.out]), by go_num, by have := HGG.out; omega, by rw [← HNN.out]; exact hbig, HZF⟩
              · have hbig' : (32768 : Int) < (nx.length : Int) := by omega
                have HR : Hid (writeR l = ([], 6)) := by
                  show _ = _
                  have h1 := HTL.out
                  rw [← HNN.out] at h1
                  unfold writeR
                  rw [HR0.out, if_pos rfl, if_neg (by omega)]
                go_wp2_with fail
                go_ret2
                exact ⟨by rw [HR.out]; rfl, HZF.out.old⟩
        · by_cases hk7 : t.kind = 7
          · have HWR : Hid (nx = out ++ 60 :: 47 :: (t.name ++ [62])) := by show _ = _; rw [HNX2.out]; unfold Go.Proofs.YtalmkfikfmpmoaaGreatDoor.wr; rw [if_neg hk2, if_pos hk7]
            have hc1 : ((⟨#[60, 47]⟩ : ByteArray) ++ ⟨t.name.toArray⟩) = ⟨(60 :: 47 :: t.name).toArray⟩ := bytes_ext (by simp [ByteArray.data_append])
            have hc2 : ((⟨(60 :: 47 :: t.name).toArray⟩ : ByteArray) ++ ⟨#[62]⟩) = ⟨(60 :: 47 :: (t.name ++ [62])).toArray⟩ := bytes_ext (by simp [ByteArray.data_append])
            have hc3 : ((⟨out.toArray⟩ : ByteArray) ++ ⟨(60 :: 47 :: (t.name ++ [62])).toArray⟩) = ⟨nx.toArray⟩ := bytes_ext (by rw [HWR.out]; simp [ByteArray.data_append])
            have hza := HZA.out
            rw [hk7] at hza
            have HZF := Lib.hid hza.drop
            clear hza
            by_cases hbig : nx.length ≤ 32768
            · have hbig' : ¬ (32768 : Int) < (nx.length : Int) := by omega
              go_wp2_with fail
              go_roundg (gk - 1)
              case measure => omega
              case rel => exact ⟨j + 1, (by rw [← HNN.out]), by go_num, by omega, by rw [← HNN.out]; exact hbig, HZF⟩
            · have hbig' : (32768 : Int) < (nx.length : Int) := by omega
              have HR : Hid (writeR l = ([], 6)) := by
                show _ = _
                have h1 := HTL.out
                rw [← HNN.out] at h1
                unfold writeR
                rw [HR0.out, if_pos rfl, if_neg (by omega)]
              go_wp2_with fail
              go_ret2
              exact ⟨by rw [HR.out]; rfl, HZF.out.old⟩
          · by_cases hk4 : t.kind = 4
            · have HWR : Hid (nx = out ++ esc t.text) := by show _ = _; rw [HNX2.out]; unfold Go.Proofs.YtalmkfikfmpmoaaGreatDoor.wr; rw [if_neg hk2, if_neg hk7, if_pos hk4]
              have hel := esc_len t.text
              have hc3 : ((⟨out.toArray⟩ : ByteArray) ++ ⟨(esc t.text).toArray⟩) = ⟨nx.toArray⟩ := bytes_ext (by rw [HWR.out]; simp [ByteArray.data_append])
              have hza := HZA.out
              rw [hk4] at hza
              have HZF := Lib.hid hza.drop
              clear hza
              go_wp2_with fail
              refine (refEscape_any t.text hs2 _).mono ?_
              rintro e w5 ⟨rfl, rfl⟩
              by_cases hbig : nx.length ≤ 32768
              · have hbig' : ¬ (32768 : Int) < (nx.length : Int) := by omega
                go_wp2_with fail
                go_roundg (gk - 1)
                case measure => omega
                case rel => exact ⟨j + 1, (by rw [← HNN.out]), by go_num, by omega, by rw [← HNN.out]; exact hbig, HZF⟩
              · have hbig' : (32768 : Int) < (nx.length : Int) := by omega
                have HR : Hid (writeR l = ([], 6)) := by
                  show _ = _
                  have h1 := HTL.out
                  rw [← HNN.out] at h1
                  unfold writeR
                  rw [HR0.out, if_pos rfl, if_neg (by omega)]
                go_wp2_with fail
                go_ret2
                exact ⟨by rw [HR.out]; rfl, HZF.out.old⟩
            · by_cases hk5 : t.kind = 5
              · have HWR : Hid (nx = out ++ 60 :: 33 :: 45 :: 45 :: (t.text ++ [45, 45, 62])) := by show _ = _; rw [HNX2.out]; unfold Go.Proofs.YtalmkfikfmpmoaaGreatDoor.wr; rw [if_neg hk2, if_neg hk7, if_neg hk4, if_pos hk5]
                have hc1 : ((⟨#[60, 33, 45, 45]⟩ : ByteArray) ++ ⟨t.text.toArray⟩) = ⟨(60 :: 33 :: 45 :: 45 :: t.text).toArray⟩ := bytes_ext (by simp [ByteArray.data_append])
                have hc2 : ((⟨(60 :: 33 :: 45 :: 45 :: t.text).toArray⟩ : ByteArray) ++ ⟨#[45, 45, 62]⟩) = ⟨(60 :: 33 :: 45 :: 45 :: (t.text ++ [45, 45, 62])).toArray⟩ := bytes_ext (by simp [ByteArray.data_append])
                have hc3 : ((⟨out.toArray⟩ : ByteArray) ++ ⟨(60 :: 33 :: 45 :: 45 :: (t.text ++ [45, 45, 62])).toArray⟩) = ⟨nx.toArray⟩ := bytes_ext (by rw [HWR.out]; simp [ByteArray.data_append])
                have hza := HZA.out
                rw [hk5] at hza
                have HZF := Lib.hid hza.drop
                clear hza
                by_cases hbig : nx.length ≤ 32768
                · have hbig' : ¬ (32768 : Int) < (nx.length : Int) := by omega
                  go_wp2_with fail
                  go_roundg (gk - 1)
                  case measure => omega
                  case rel => exact ⟨j + 1, (by rw [← HNN.out]), by go_num, by omega, by rw [← HNN.out]; exact hbig, HZF⟩
                · have hbig' : (32768 : Int) < (nx.length : Int) := by omega
                  have HR : Hid (writeR l = ([], 6)) := by
                    show _ = _
                    have h1 := HTL.out
                    rw [← HNN.out] at h1
                    unfold writeR
                    rw [HR0.out, if_pos rfl, if_neg (by omega)]
                  go_wp2_with fail
                  go_ret2
                  exact ⟨by rw [HR.out]; rfl, HZF.out.old⟩
              · have HWR : Hid (nx = out ++ 60 :: 63 :: (t.name ++ (piB t.text ++ [63, 62]))) := by show _ = _; rw [HNX2.out]; unfold Go.Proofs.YtalmkfikfmpmoaaGreatDoor.wr; rw [if_neg hk2, if_neg hk7, if_neg hk4, if_neg hk5]
                have hc1 : ((⟨#[60, 63]⟩ : ByteArray) ++ ⟨t.name.toArray⟩) = ⟨(60 :: 63 :: t.name).toArray⟩ := bytes_ext (by simp [ByteArray.data_append])
                have hc2 : ((⟨out.toArray⟩ : ByteArray) ++ ⟨(60 :: 63 :: t.name).toArray⟩) = ⟨(out ++ 60 :: 63 :: t.name).toArray⟩ := bytes_ext (by simp [ByteArray.data_append])
                have hBL : (out ++ 60 :: 63 :: t.name).length ≤ 32768 + 1048576 + 2 := by simp; omega
                have HZF := Lib.hid HZA.out.drop
                cases hem : List.isEmpty t.text
                · have hpi : piB t.text = 32 :: t.text := by unfold piB; rw [if_neg (by intro h; rw [h] at hem; cases hem)]
                  have hc3 : ((⟨#[32]⟩ : ByteArray) ++ ⟨t.text.toArray⟩) = ⟨(32 :: t.text).toArray⟩ := bytes_ext (by simp [ByteArray.data_append])
                  have hc4 : ((⟨(out ++ 60 :: 63 :: t.name).toArray⟩ : ByteArray) ++ ⟨(32 :: t.text).toArray⟩) = ⟨(out ++ 60 :: 63 :: (t.name ++ 32 :: t.text)).toArray⟩ := bytes_ext (by simp [ByteArray.data_append])
                  have hc5 : ((⟨(out ++ 60 :: 63 :: (t.name ++ 32 :: t.text)).toArray⟩ : ByteArray) ++ ⟨#[63, 62]⟩) = ⟨nx.toArray⟩ := bytes_ext (by rw [HWR.out, hpi]; simp [ByteArray.data_append])
                  have hBL2 : (out ++ 60 :: 63 :: (t.name ++ 32 :: t.text)).length ≤ 32768 + 1048576 + 1048576 + 3 := by simp; omega
                  generalize out ++ 60 :: 63 :: (t.name ++ 32 :: t.text) = B2 at *
                  generalize out ++ 60 :: 63 :: t.name = B at *
                  by_cases hbig : nx.length ≤ 32768
                  · have hbig' : ¬ (32768 : Int) < (nx.length : Int) := by omega
                    go_wp2_with fail
                    go_roundg (gk - 1)
                    case measure => omega
                    case rel => exact ⟨j + 1, (by rw [← HNN.out]), by go_num, by omega, by rw [← HNN.out]; exact hbig, HZF⟩
                  · have hbig' : (32768 : Int) < (nx.length : Int) := by omega
                    have HR : Hid (writeR l = ([], 6)) := by
                      show _ = _
                      have h1 := HTL.out
                      rw [← HNN.out] at h1
                      unfold writeR
                      rw [HR0.out, if_pos rfl, if_neg (by omega)]
                    go_wp2_with fail
                    go_ret2
                    exact ⟨by rw [HR.out]; rfl, HZF.out.old⟩
                · have hpi : piB t.text = [] := by unfold piB; rw [if_pos (List.isEmpty_iff.1 hem)]
                  have hc5 : ((⟨(out ++ 60 :: 63 :: t.name).toArray⟩ : ByteArray) ++ ⟨#[63, 62]⟩) = ⟨nx.toArray⟩ := bytes_ext (by rw [HWR.out, hpi]; simp [ByteArray.data_append])
                  generalize out ++ 60 :: 63 :: t.name = B at *
                  by_cases hbig : nx.length ≤ 32768
                  · have hbig' : ¬ (32768 : Int) < (nx.length : Int) := by omega
                    go_wp2_with fail
                    go_roundg (gk - 1)
                    case measure => omega
                    case rel => exact ⟨j + 1, (by rw [← HNN.out]), by go_num, by omega, by rw [← HNN.out]; exact hbig, HZF⟩
                  · have hbig' : (32768 : Int) < (nx.length : Int) := by omega
                    have HR : Hid (writeR l = ([], 6)) := by
                      show _ = _
                      have h1 := HTL.out
                      rw [← HNN.out] at h1
                      unfold writeR
                      rw [HR0.out, if_pos rfl, if_neg (by omega)]
                    go_wp2_with fail
                    go_ret2
                    exact ⟨by rw [HR.out]; rfl, HZF.out.old⟩
      · have hge : ¬ (j : Int) < (n : Int) := by omega
        have hall : l.take j = l := List.take_of_length_le (by have := HN.out; omega)
        have HR : Hid (writeR l = (write l, 0)) := by
          show _ = _
          unfold writeR
          rw [HR0.out, if_pos rfl, if_pos (by rw [hall] at hout; exact hout)]
        rw [hall]
        clear hall
        go_wp2_with fail
        go_ret2
        exact ⟨by rw [HR.out]; rfl, HZ.out.old⟩
  · have HR : Hid (writeR l = ([], r)) := by
      show _ = _
      unfold writeR
      rw [← hr, if_neg h0]
    have hr0 : ((r : Int) != 0) = true := by simpa using h0
    clear hr h0
    go_wp2_with fail
    go_ret2
    exact ⟨by rw [HR.out]; rfl, HX1.out.old⟩
end
end Go.Proofs.YtalmkfikfmpmoaaGreatDoor

