/- Write: tokens as a text. -/
import Derived.Test.YtahfcgjlcdbnjaaGreatDoorMWho
import Derived.Test.YtahfcgjlcdbnjaaGreatDoorMEql
import Derived.Test.YtahfcgjlcdbnjaaGreatDoorMTx
namespace Go.Proofs.YtahfcgjlcdbnjaaGreatDoor
open Go.RowKit

/-- What Write answers. -/
def writeR (l : List Tok) : Bytes × Nat := if wholeN l = 0 then (if (write l).length ≤ 32768 then (write l, 0) else ([], 6)) else ([], wholeN l)

theorem wholeN_right {l : List Tok} (h : wholeN l = 0) : okL isText [] false false l = true := by
  unfold wholeN at h
  split at h
  · assumption
  · cases h
theorem write_take_le (l : List Tok) (j : Nat) : (write (l.take j)).length ≤ (write l).length := by
  have : write l = write (l.take j) ++ write (l.drop j) := by
    unfold write
    rw [← List.flatMap_append, List.take_append_drop]
  rw [this, List.length_append]; omega
theorem attrs_len8 (l : List (Bytes × Bytes)) (h : ∀ p ∈ l, p.1.length ≤ 1048576 ∧ p.2.length ≤ 1048576) (k : Nat) : ((l.take k).flatMap attrB).length ≤ k * 8388608 := by
  induction k generalizing l with
  | zero => simp
  | succ k ih =>
    cases l with
    | nil => simp
    | cons p l =>
      have h1 := h p (by simp)
      have h2 := ih l fun q hq => h q (by simp [hq])
      have h3 := quo_len p.2
      simp only [List.take_succ_cons, List.flatMap_cons, List.length_append]
      have : (attrB p).length = p.1.length + (quo p.2).length + 4 := by unfold attrB; simp; omega
      omega

section
variable {W w w' : World} {L : List Asn} {b : Nat}

theorem Bldr.len {l : Bytes} (x : Hold W w (Bldr b l :: L)) :
    Calls Tryz.prog 103 #[.pointer (some ⟨b, 0, none⟩)] w fun e w' => e = .returned (.int .i64 l.length) ∧ w = w' := by
  obtain ⟨tp, tv, _, y⟩ := Bldr.out x
  exact len_any (o := 0) y rfl

set_option maxHeartbeats 16000000 in
set_option maxRecDepth 100000 in
theorem write_any (g : Glob w) (l : List Tok) (v : Value) (hv : TokRow w v l) (hl : l.length ≤ 1048576) (hs : ∀ t ∈ l, SmallTok t) :
    Calls Tryz.prog 63 #[v] w fun e w' => e = .returned (.tuple #[str (writeR l).1, .int .i64 (writeR l).2]) ∧ Below w.heap.size w w' := by
  have HV := Lib.hid hv
  obtain ⟨aa, ac, rfl, hrow⟩ := hv
  obtain ⟨n, hn⟩ : ∃ n, n = l.length := ⟨_, rfl⟩
  rw [← hn] at hrow hl HV ⊢
  have HN := Lib.hid hn
  have HA := Lib.hid hrow
  have HS := Lib.hid hs
  have HG := Lib.hid g
  clear hn hrow hs g
  go_enter Tryz.func63, Tryz.ntmps63
  go_wp2_with fail
  refine (whole_any HG.out l (.slice aa n ac) HV.out (by have := HN.out; omega) HS.out).mono ?_
  rintro e w1 ⟨rfl, hb⟩
  obtain ⟨r, hr⟩ : ∃ r, r = wholeN l := ⟨_, rfl⟩
  rw [← hr]
  have HW1 := Lib.hid hb
  by_cases h0 : r = 0
  · have HR0 : Hid (wholeN l = 0) := by show _ = _; rw [← hr, h0]
    have HOK := Lib.hid (okL_right l (wholeN_right HR0.out))
    have HGW : Hid (Glob w1) := HG.out.carry (Hold.start w |>.below hb)
    have HZ0 := Lib.hid (Bldr.newAt (bo := w1.heap.size) ((Hold.start w).below hb) rfl rfl)
    clear hb hr
    go_wp2_with fail
    go_loopg [17] n (fun gk v17 wr => ∃ (j : Nat), v17 = .int .i64 j ∧ gk + j = n ∧ (write (l.take j)).length ≤ 32768 ∧ Hid (Hold w wr [Bldr w1.heap.size (write (l.take j))]))
    case atStart => exact ⟨0, rfl, by omega, by simp [write], HZ0⟩
    case round =>
      obtain ⟨j, rfl, hig, hout, HZ⟩ := hrel
      rename World => wo
      by_cases hlt : j < n
      · have hlt' : (j : Int) < (n : Int) := by omega
        obtain ⟨t, ht⟩ : ∃ t, l[j]? = some t := ⟨_, List.getElem?_eq_getElem (by have := HN.out; omega)⟩
        have hmem : t ∈ l := List.mem_of_getElem? ht
        have HST := Lib.hid (HS.out t hmem)
        have hs1 := HST.out.name
        have hs2 := HST.out.text
        have hs3 := HST.out.many
        have HKD := Lib.hid (kinds (HOK.out t hmem))
        have HNX : Hid (write (l.take (j + 1)) = write (l.take j) ++ wr t) := by
          show _ = _
          have hj' : j < l.length := by have := HN.out; omega
          unfold write
          rw [List.take_succ_eq_append_getElem hj', (List.getElem?_eq_some_iff.1 ht).2, List.flatMap_append]
          simp
        obtain ⟨h, o, rfl, hcells⟩ := HA.out (by omega)
        obtain ⟨av, hta⟩ := hcells j t ht
        obtain ⟨ta, tc, hav, hat⟩ := hta.at_
        subst hav
        have hta := hta.keep HZ.out
        have HAT := Lib.hid hat
        have c0 := hta.kind
        have c1 := hta.name
        have c2 := hta.attrs
        have c3 := hta.text
        have HZA := Lib.hid (HZ.out.alloc (.cells #[.int .i64 t.kind, str t.name, .slice ta t.attrs.length tc, str t.text] 38))
        generalize write (l.take j) = out at *
        clear hta hat hmem hcells ht
        by_cases hk2 : t.kind = 2
        · have HWR : Hid (wr t = 60 :: (t.name ++ (t.attrs.flatMap attrB ++ [62]))) := by show _ = _; unfold wr; rw [if_pos hk2]
          have hc1 : ((⟨#[60]⟩ : ByteArray) ++ ⟨t.name.toArray⟩) = ⟨(60 :: t.name).toArray⟩ := bytes_ext (by simp [ByteArray.data_append])
          obtain ⟨m, hm⟩ : ∃ m, m = t.attrs.length := ⟨_, rfl⟩
          have hat := HAT.out
          have hza := HZA.out
          rw [hk2] at hza
          rw [← hm] at hza c2 hat hs3
          have HZA := Lib.hid hza
          have HM := Lib.hid hm
          have HAT := Lib.hid hat
          obtain ⟨G, hG⟩ : ∃ G, G = gk := ⟨_, rfl⟩
          have HGG : Hid (G + j = n) := by show _ = _; omega
          clear hza hm hat
          go_wp2_with fail
          refine (Bldr.writeString (60 :: t.name) HZA.out.f1 (by simp; omega)).mono ?_
          rintro e w3 ⟨rfl, z⟩
          have d2 := z.f1.cell 2
          have HZ3 := Lib.hid z
          clear z
          go_wp2_with fail
          go_loopg [32] m (fun gk v32 wr => ∃ (k : Nat), v32 = .int .i64 k ∧ gk + k = m ∧ Hid (Hold w wr [Bldr w1.heap.size ((out ++ (60 :: t.name)) ++ (t.attrs.take k).flatMap attrB), Asn.pts wo.heap.size (.cells #[.int .i64 2, str t.name, .slice ta m tc, str t.text] 38 (0, 0))]))
          case atStart => exact ⟨0, rfl, by omega, Lib.hid (by rw [List.take_zero, List.flatMap_nil, List.append_nil]; exact HZ3.out)⟩
          case round =>
            obtain ⟨k, rfl, hig2, HZK⟩ := hrel
            by_cases hlt2 : k < m
            · have hlt2' : (k : Int) < (m : Int) := by omega
              obtain ⟨p, hp⟩ : ∃ p, t.attrs[k]? = some p := ⟨_, List.getElem?_eq_getElem (by have := HM.out; omega)⟩
              obtain ⟨h2, o2, rfl, hcs⟩ := HAT.out (by omega)
              obtain ⟨hp1, hp2⟩ := HST.out.attrs p (List.mem_of_getElem? hp)
              have hlen := attrs_len8 t.attrs HST.out.attrs k
              have hmm : k * 8388608 ≤ 8796093022208 := by omega
              have HFL : Hid ((t.attrs.take (k + 1)).flatMap attrB = (t.attrs.take k).flatMap attrB ++ attrB p) := by
                show _ = _
                have hk' : k < t.attrs.length := by have := HM.out; omega
                rw [List.take_succ_eq_append_getElem hk', (List.getElem?_eq_some_iff.1 hp).2, List.flatMap_append]
                simp
              obtain ⟨n1, n2⟩ := p
              have e1 : wr.cell? ⟨h2, o2 + k * 2, none⟩ = some (str n1) := HZK.out.oldCell (hcs k _ hp).1
              have e2 : wr.cell? ⟨h2, o2 + k * 2 + 1, none⟩ = some (str n2) := HZK.out.oldCell (hcs k _ hp).2
              simp only at hp1 hp2
              have hql := quo_len n2
              have hal : (attrB (n1, n2)).length = n1.length + (quo n2).length + 4 := by unfold attrB; simp; omega
              have HZP := Lib.hid (HZK.out.alloc (.cells #[str n1, str n2] 45))
              have q1 : ((⟨#[32]⟩ : ByteArray) ++ ⟨n1.toArray⟩) = ⟨(32 :: n1).toArray⟩ := bytes_ext (by simp [ByteArray.data_append])
              have q2 : ((⟨(32 :: n1).toArray⟩ : ByteArray) ++ ⟨#[61, 34]⟩) = ⟨(32 :: (n1 ++ [61, 34])).toArray⟩ := bytes_ext (by simp [ByteArray.data_append])
              have q3 : ((⟨(32 :: (n1 ++ [61, 34])).toArray⟩ : ByteArray) ++ ⟨(quo n2).toArray⟩) = ⟨(32 :: (n1 ++ 61 :: 34 :: quo n2)).toArray⟩ := bytes_ext (by simp [ByteArray.data_append])
              have q4 : ((⟨(32 :: (n1 ++ 61 :: 34 :: quo n2)).toArray⟩ : ByteArray) ++ ⟨#[34]⟩) = ⟨(attrB (n1, n2)).toArray⟩ := bytes_ext (by simp [ByteArray.data_append, attrB])
              have hb1 : out.length + t.name.length + ((t.attrs.take k).flatMap attrB).length ≤ 32768 + 1048576 + 8796093022208 := by omega
              have z1 : ¬ 9223372036854775807 < 1 + n1.length := by omega
              have z2 : ¬ 9223372036854775807 < n1.length + 1 + 2 := by omega
              have z3 : ¬ 9223372036854775807 < n1.length + 2 + 1 + (quo n2).length := by omega
              have z4 : ¬ 9223372036854775807 < n1.length + ((quo n2).length + 1 + 1) + 1 + 1 := by omega
              generalize (t.attrs.take k).flatMap attrB = fa at *
              clear hp hcs
              go_wp2_with fail
              go_region_held3 (fun w' => w'.cell? ⟨wr.heap.size, 0, none⟩ = some (str n1) ∧ w'.cell? ⟨wr.heap.size, 1, none⟩ = some (str n2))
                (first | go_keep | exact k12)
                (first
                  | (go_at_call 101
                     refine (quote_any n2 (by omega) _).mono ?_
                     rintro e w5 ⟨rfl, hb⟩
                     have Z1 := Lib.hid (HZP.out.drew.below hb)
                     have k12 : w5.cell? ⟨wr.heap.size, 0, none⟩ = some (str n1) ∧ w5.cell? ⟨wr.heap.size, 1, none⟩ = some (str n2) := ⟨Z1.out.cell 0, Z1.out.cell 1⟩
                     clear hb)
                  | (go_at_call 50
                     refine (Bldr.writeString (attrB (n1, n2)) Z1.out.f1 (by simp; omega)).mono ?_
                     rintro e w6 ⟨rfl, z⟩
                     have k12 : w6.cell? ⟨wr.heap.size, 0, none⟩ = some (str n1) ∧ w6.cell? ⟨wr.heap.size, 1, none⟩ = some (str n2) := ⟨z.f1.cell 0, z.f1.cell 1⟩
                     have Z2 := Lib.hid z
                     clear z))
              all_goals
                have HZN : Hid (Hold w w6 [Bldr w1.heap.size ((out ++ (60 :: t.name)) ++ (t.attrs.take (k + 1)).flatMap attrB), Asn.pts wo.heap.size (.cells #[.int .i64 2, str t.name, .slice (some ⟨h2, o2, none⟩) m tc, str t.text] 38 (0, 0))]) := by
                  show Hold _ _ _
                  rw [HFL.out, ← List.append_assoc]
                  exact Z2.out.f1.drop
                go_wp2_with fail
                go_roundg (gk - 1)
                case measure => omega
                case rel => exact ⟨k + 1, by go_num, by omega, HZN⟩
            · have hge2 : ¬ (k : Int) < (m : Int) := by omega
              have HTK : Hid (t.attrs.take k = t.attrs) := List.take_of_length_le (by have := HM.out; omega)
              have HWR2 : Hid (out ++ Go.Proofs.YtahfcgjlcdbnjaaGreatDoor.wr t = (out ++ (60 :: t.name) ++ (t.attrs.take k).flatMap attrB) ++ [62]) := by
                show _ = _
                rw [HWR.out, HTK.out]
                simp
              have hlen := attrs_len8 t.attrs HST.out.attrs k
              have hmm : k * 8388608 ≤ 8796093022208 := by omega
              go_wp2_with fail
              refine (Bldr.writeString [62] HZK.out (by simp; simp at hlen; omega)).mono ?_
              rintro e w5 ⟨rfl, z⟩
              have HZ9 : Hid (Hold w w5 [Bldr w1.heap.size (write (l.take (j + 1)))]) := by
                show Hold _ _ _
                rw [HNX.out, HWR2.out]
                exact z.f1.drop
              clear z
              go_wp2_with fail
              obtain ⟨N, hN⟩ : ∃ N, N = (write (l.take (j + 1))).length := ⟨_, rfl⟩
              have HNN := Lib.hid hN
              refine (Bldr.len HZ9.out).mono ?_
              rintro e wz ⟨rfl, rfl⟩
              rw [← HNN.out]
              clear hN
              by_cases hbig : N ≤ 32768
              · have hbig' : ¬ (32768 : Int) < (N : Int) := by omega
                go_wp2_with fail
                go_roundg (G - 1)
                case measure => have := HGG.out; omega
                case rel => exact ⟨j + 1, by go_num, by have := HGG.out; omega, by rw [← HNN.out]; exact hbig, HZ9⟩
              · have hbig' : (32768 : Int) < (N : Int) := by omega
                have HR : Hid (writeR l = ([], 6)) := by
                  show _ = _
                  have h1 := write_take_le l (j + 1)
                  have h2 := HNN.out
                  unfold writeR
                  rw [HR0.out, if_pos rfl, if_neg (by omega)]
                go_wp2_with fail
                go_ret2
                exact ⟨by rw [HR.out]; rfl, HZ9.out.old⟩
        · by_cases hk7 : t.kind = 7
          · have HWR : Hid (wr t = 60 :: 47 :: (t.name ++ [62])) := by show _ = _; unfold wr; rw [if_neg hk2, if_pos hk7]
            have hc1 : ((⟨#[60, 47]⟩ : ByteArray) ++ ⟨t.name.toArray⟩) = ⟨(60 :: 47 :: t.name).toArray⟩ := bytes_ext (by simp [ByteArray.data_append])
            have hc2 : ((⟨(60 :: 47 :: t.name).toArray⟩ : ByteArray) ++ ⟨#[62]⟩) = ⟨(60 :: 47 :: (t.name ++ [62])).toArray⟩ := bytes_ext (by simp [ByteArray.data_append])
            have hza := HZA.out
            rw [hk7] at hza
            have HZA := Lib.hid hza
            clear hza
            go_wp2_with fail
            refine (Bldr.writeString (60 :: 47 :: (t.name ++ [62])) HZA.out.f1 (by simp; omega)).mono ?_
            rintro e w3 ⟨rfl, z⟩
            have HZ9 : Hid (Hold w w3 [Bldr w1.heap.size (write (l.take (j + 1)))]) := by
              show Hold _ _ _
              rw [HNX.out, HWR.out]
              exact z.f1.drop
            clear z
            go_wp2_with fail
            obtain ⟨N, hN⟩ : ∃ N, N = (write (l.take (j + 1))).length := ⟨_, rfl⟩
            have HNN := Lib.hid hN
            refine (Bldr.len HZ9.out).mono ?_
            rintro e wz ⟨rfl, rfl⟩
            rw [← HNN.out]
            clear hN
            by_cases hbig : N ≤ 32768
            · have hbig' : ¬ (32768 : Int) < (N : Int) := by omega
              go_wp2_with fail
              go_roundg (gk - 1)
              case measure => omega
              case rel => exact ⟨j + 1, by go_num, by omega, by rw [← HNN.out]; exact hbig, HZ9⟩
            · have hbig' : (32768 : Int) < (N : Int) := by omega
              have HR : Hid (writeR l = ([], 6)) := by
                show _ = _
                have h1 := write_take_le l (j + 1)
                have h2 := HNN.out
                unfold writeR
                rw [HR0.out, if_pos rfl, if_neg (by omega)]
              go_wp2_with fail
              go_ret2
              exact ⟨by rw [HR.out]; rfl, HZ9.out.old⟩
          · by_cases hk4 : t.kind = 4
            · have HWR : Hid (wr t = esc t.text) := by show _ = _; unfold wr; rw [if_neg hk2, if_neg hk7, if_pos hk4]
              have hza := HZA.out
              rw [hk4] at hza
              have HZA := Lib.hid hza
              clear hza
              go_wp2_with fail
              refine (escape_any t.text (by omega) _).mono ?_
              rintro e w2 ⟨rfl, hb⟩
              have HZ2 := Lib.hid (HZA.out.below hb)
              have hel := esc_len t.text
              clear hb
              go_wp2_with fail
              refine (Bldr.writeString (esc t.text) HZ2.out.f1 (by omega)).mono ?_
              rintro e w3 ⟨rfl, z⟩
              have HZ9 : Hid (Hold w w3 [Bldr w1.heap.size (write (l.take (j + 1)))]) := by
                show Hold _ _ _
                rw [HNX.out, HWR.out]
                exact z.f1.drop
              clear z
              go_wp2_with fail
              obtain ⟨N, hN⟩ : ∃ N, N = (write (l.take (j + 1))).length := ⟨_, rfl⟩
              have HNN := Lib.hid hN
              refine (Bldr.len HZ9.out).mono ?_
              rintro e wz ⟨rfl, rfl⟩
              rw [← HNN.out]
              clear hN
              by_cases hbig : N ≤ 32768
              · have hbig' : ¬ (32768 : Int) < (N : Int) := by omega
                go_wp2_with fail
                go_roundg (gk - 1)
                case measure => omega
                case rel => exact ⟨j + 1, by go_num, by omega, by rw [← HNN.out]; exact hbig, HZ9⟩
              · have hbig' : (32768 : Int) < (N : Int) := by omega
                have HR : Hid (writeR l = ([], 6)) := by
                  show _ = _
                  have h1 := write_take_le l (j + 1)
                  have h2 := HNN.out
                  unfold writeR
                  rw [HR0.out, if_pos rfl, if_neg (by omega)]
                go_wp2_with fail
                go_ret2
                exact ⟨by rw [HR.out]; rfl, HZ9.out.old⟩
            · by_cases hk5 : t.kind = 5
              · have HWR : Hid (wr t = 60 :: 33 :: 45 :: 45 :: (t.text ++ [45, 45, 62])) := by show _ = _; unfold wr; rw [if_neg hk2, if_neg hk7, if_neg hk4, if_pos hk5]
                have hc1 : ((⟨#[60, 33, 45, 45]⟩ : ByteArray) ++ ⟨t.text.toArray⟩) = ⟨(60 :: 33 :: 45 :: 45 :: t.text).toArray⟩ := bytes_ext (by simp [ByteArray.data_append])
                have hc2 : ((⟨(60 :: 33 :: 45 :: 45 :: t.text).toArray⟩ : ByteArray) ++ ⟨#[45, 45, 62]⟩) = ⟨(60 :: 33 :: 45 :: 45 :: (t.text ++ [45, 45, 62])).toArray⟩ := bytes_ext (by simp [ByteArray.data_append])
                have hza := HZA.out
                rw [hk5] at hza
                have HZA := Lib.hid hza
                clear hza
                go_wp2_with fail
                refine (Bldr.writeString (60 :: 33 :: 45 :: 45 :: (t.text ++ [45, 45, 62])) HZA.out.f1 (by simp; omega)).mono ?_
                rintro e w3 ⟨rfl, z⟩
                have HZ9 : Hid (Hold w w3 [Bldr w1.heap.size (write (l.take (j + 1)))]) := by
                  show Hold _ _ _
                  rw [HNX.out, HWR.out]
                  exact z.f1.drop
                clear z
                go_wp2_with fail
                obtain ⟨N, hN⟩ : ∃ N, N = (write (l.take (j + 1))).length := ⟨_, rfl⟩
                have HNN := Lib.hid hN
                refine (Bldr.len HZ9.out).mono ?_
                rintro e wz ⟨rfl, rfl⟩
                rw [← HNN.out]
                clear hN
                by_cases hbig : N ≤ 32768
                · have hbig' : ¬ (32768 : Int) < (N : Int) := by omega
                  go_wp2_with fail
                  go_roundg (gk - 1)
                  case measure => omega
                  case rel => exact ⟨j + 1, by go_num, by omega, by rw [← HNN.out]; exact hbig, HZ9⟩
                · have hbig' : (32768 : Int) < (N : Int) := by omega
                  have HR : Hid (writeR l = ([], 6)) := by
                    show _ = _
                    have h1 := write_take_le l (j + 1)
                    have h2 := HNN.out
                    unfold writeR
                    rw [HR0.out, if_pos rfl, if_neg (by omega)]
                  go_wp2_with fail
                  go_ret2
                  exact ⟨by rw [HR.out]; rfl, HZ9.out.old⟩
              · have HWR : Hid (wr t = 60 :: 63 :: (t.name ++ (piB t.text ++ [63, 62]))) := by show _ = _; unfold wr; rw [if_neg hk2, if_neg hk7, if_neg hk4, if_neg hk5]
                have hk6 : t.kind = 6 := by have := HKD.out; omega
                have hc1 : ((⟨#[60, 63]⟩ : ByteArray) ++ ⟨t.name.toArray⟩) = ⟨(60 :: 63 :: t.name).toArray⟩ := bytes_ext (by simp [ByteArray.data_append])
                have hc2 : ((⟨#[32]⟩ : ByteArray) ++ ⟨t.text.toArray⟩) = ⟨(32 :: t.text).toArray⟩ := bytes_ext (by simp [ByteArray.data_append])
                have hza := HZA.out
                rw [hk6] at hza
                have HZA := Lib.hid hza
                clear hza
                go_wp2_with fail
                refine (Bldr.writeString (60 :: 63 :: t.name) HZA.out.f1 (by simp; omega)).mono ?_
                rintro e w3 ⟨rfl, z⟩
                have d3 := z.f1.cell 3
                have HZ3 := Lib.hid z
                clear z
                cases hem : List.isEmpty t.text
                · have HWR2 : Hid (out ++ wr t = ((out ++ (60 :: 63 :: t.name)) ++ (32 :: t.text)) ++ [63, 62]) := by
                    show _ = _
                    have hne : t.text ≠ [] := by intro h; rw [h] at hem; cases hem
                    rw [HWR.out]
                    simp [piB, hne]
                  go_wp2_with fail
                  refine (Bldr.writeString (32 :: t.text) HZ3.out (by simp; omega)).mono ?_
                  rintro e w4 ⟨rfl, z⟩
                  have HZ4 := Lib.hid z
                  clear z
                  go_wp2_with fail
                  refine (Bldr.writeString [63, 62] HZ4.out (by simp; omega)).mono ?_
                  rintro e w5 ⟨rfl, z⟩
                  have HZ9 : Hid (Hold w w5 [Bldr w1.heap.size (write (l.take (j + 1)))]) := by
                    show Hold _ _ _
                    rw [HNX.out, HWR2.out]
                    exact z.f1.drop
                  clear z
                  go_wp2_with fail
                  obtain ⟨N, hN⟩ : ∃ N, N = (write (l.take (j + 1))).length := ⟨_, rfl⟩
                  have HNN := Lib.hid hN
                  refine (Bldr.len HZ9.out).mono ?_
                  rintro e wz ⟨rfl, rfl⟩
                  rw [← HNN.out]
                  clear hN
                  by_cases hbig : N ≤ 32768
                  · have hbig' : ¬ (32768 : Int) < (N : Int) := by omega
                    go_wp2_with fail
                    go_roundg (gk - 1)
                    case measure => omega
                    case rel => exact ⟨j + 1, by go_num, by omega, by rw [← HNN.out]; exact hbig, HZ9⟩
                  · have hbig' : (32768 : Int) < (N : Int) := by omega
                    have HR : Hid (writeR l = ([], 6)) := by
                      show _ = _
                      have h1 := write_take_le l (j + 1)
                      have h2 := HNN.out
                      unfold writeR
                      rw [HR0.out, if_pos rfl, if_neg (by omega)]
                    go_wp2_with fail
                    go_ret2
                    exact ⟨by rw [HR.out]; rfl, HZ9.out.old⟩
                · have HWR2 : Hid (out ++ wr t = (out ++ (60 :: 63 :: t.name)) ++ [63, 62]) := by
                    show _ = _
                    have hne : t.text = [] := by simpa using hem
                    rw [HWR.out]
                    simp [piB, hne]
                  go_wp2_with fail
                  refine (Bldr.writeString [63, 62] HZ3.out (by simp; omega)).mono ?_
                  rintro e w5 ⟨rfl, z⟩
                  have HZ9 : Hid (Hold w w5 [Bldr w1.heap.size (write (l.take (j + 1)))]) := by
                    show Hold _ _ _
                    rw [HNX.out, HWR2.out]
                    exact z.f1.drop
                  clear z
                  go_wp2_with fail
                  obtain ⟨N, hN⟩ : ∃ N, N = (write (l.take (j + 1))).length := ⟨_, rfl⟩
                  have HNN := Lib.hid hN
                  refine (Bldr.len HZ9.out).mono ?_
                  rintro e wz ⟨rfl, rfl⟩
                  rw [← HNN.out]
                  clear hN
                  by_cases hbig : N ≤ 32768
                  · have hbig' : ¬ (32768 : Int) < (N : Int) := by omega
                    go_wp2_with fail
                    go_roundg (gk - 1)
                    case measure => omega
                    case rel => exact ⟨j + 1, by go_num, by omega, by rw [← HNN.out]; exact hbig, HZ9⟩
                  · have hbig' : (32768 : Int) < (N : Int) := by omega
                    have HR : Hid (writeR l = ([], 6)) := by
                      show _ = _
                      have h1 := write_take_le l (j + 1)
                      have h2 := HNN.out
                      unfold writeR
                      rw [HR0.out, if_pos rfl, if_neg (by omega)]
                    go_wp2_with fail
                    go_ret2
                    exact ⟨by rw [HR.out]; rfl, HZ9.out.old⟩
      · have hge : ¬ (j : Int) < (n : Int) := by omega
        have HTK : Hid (l.take j = l) := List.take_of_length_le (by have := HN.out; omega)
        have HR : Hid (writeR l = (write l, 0)) := by
          show _ = _
          unfold writeR
          have h1 := hout
          rw [HTK.out] at h1
          rw [HR0.out, if_pos rfl, if_pos h1]
        go_wp2_with fail
        refine (Bldr.string HZ.out).mono ?_
        rintro e w3 ⟨rfl, z⟩
        have HZ3 := Lib.hid z
        clear z
        go_wp2_with fail
        go_ret2
        exact ⟨by rw [HR.out, HTK.out]; rfl, HZ3.out.old⟩
  · have HR : Hid (writeR l = ([], r)) := by
      show _ = _
      unfold writeR
      rw [← hr, if_neg h0]
    clear hr hb
    go_wp2_with fail
    go_ret2
    exact ⟨by rw [HR.out]; rfl, HW1.out⟩
end
end Go.Proofs.YtahfcgjlcdbnjaaGreatDoor

