/- xdm's declared: an element's prefixes. -/
import Derived.Test.YtahfcgjlcdbnjaaGreatDoorMSn
import Derived.Test.YtahfcgjlcdbnjaaGreatDoorMWid
namespace Go.Proofs.YtahfcgjlcdbnjaaGreatDoor
open Go.RowKit

/-- What declared answers. -/
def DeclPost (o : Option Sc) (ms : List (Nat × Sc)) (e : Ending) : Prop := match o with
  | none => e = .returned (.tuple #[.map none, .bool false])
  | some sc' => ∃ mo', e = .returned (.tuple #[.map mo', .bool true]) ∧ ScIn mo' sc' ms

section
variable {W w : World} {L : List Asn}

set_option maxHeartbeats 8000000 in
set_option maxRecDepth 100000 in
theorem declared4_any (_g : Glob W) {ms : List (Nat × Sc)} (x : Hold W w (MapsA ms :: L)) (mo : Option Nat) (sc : Sc) (hsc : ScIn mo sc ms) (az : List (Bytes × Bytes)) (av : Value) (hav : AttrsAt W av az) (hn : az.length ≤ 1048576)
    (_hs : ∀ p ∈ az, p.1.length ≤ 1048576 ∧ p.2.length ≤ 1048576) :
    Calls Tryz.prog 64 #[.map mo, av] w fun e w' => ∃ r, Hold W w' (MapsA (ms ++ r) :: L) ∧ DeclPost (declared sc az) (ms ++ r) e := by
  obtain ⟨aa, ac, rfl, hat⟩ := hav
  obtain ⟨n, hn'⟩ : ∃ n, n = az.length := ⟨_, rfl⟩
  rw [← hn'] at hat hn ⊢
  have HN := Lib.hid hn'
  have HA := Lib.hid hat
  have HX := Lib.hid x
  have HS := Lib.hid hsc
  have hmm := @run_makeMap Tryz.prog
  have hqq := fun (p : Option Nat) w => run_eql_map_nil_sl (P := Tryz.prog) w 69 _ _ p undMapS
  clear hn' hat x hsc
  go_enter Tryz.func64, Tryz.ntmps64
  go_wp2_with fail
  go_loopg [6, 14] n (fun gk v6 v14 wr => ∃ (j : Nat) (mo' : Option Nat) (sc' : Sc) (r : List (Nat × Sc)), v6 = .map mo' ∧ v14 = .int .i64 j ∧ gk + j = n ∧ Hid (ScIn mo' sc' (ms ++ r)) ∧ Hid (Hold W wr (MapsA (ms ++ r) :: L)) ∧ Hid (declared sc' (az.drop j) = declared sc az))
  case atStart => exact ⟨0, mo, sc, [], rfl, rfl, by omega, by rw [List.append_nil]; exact HS, by rw [List.append_nil]; exact HX, rfl⟩
  case round =>
    obtain ⟨j, mo', sc', r, rfl, rfl, hig, HSC, HZ, HD⟩ := hrel
    by_cases hlt : j < n
    · have hlt' : (j : Int) < (n : Int) := by omega
      obtain ⟨p, hp⟩ : ∃ p, az[j]? = some p := ⟨_, List.getElem?_eq_getElem (by have := HN.out; omega)⟩
      have hd : az.drop j = p :: az.drop (j + 1) := by
        have hj' : j < az.length := by have := HN.out; omega
        rw [List.drop_eq_getElem_cons hj', (List.getElem?_eq_some_iff.1 hp).2]
      obtain ⟨h, o, rfl, hcells⟩ := HA.out (by omega)
      obtain ⟨c1, c2⟩ := hcells j p hp
      have d1 := HZ.out.oldCell c1
      have d2 := HZ.out.oldCell c2
      have hdd := HD.out
      rw [hd] at hdd
      obtain ⟨n1, n2⟩ := p
      simp only [declared] at hdd
      simp only at d1 d2
      have HZA := Lib.hid (HZ.out.alloc (.cells #[str n1, str n2] 45))
      clear hp hcells c1 c2 hd
      cases hdc : declares n1 with
      | none =>
        rw [hdc] at hdd
        have HD2 := Lib.hid hdd
        have HDC := Lib.hid hdc
        clear hdd hdc
        go_wp2_with fail
        refine (declares_any n1 _).mono ?_
        rw [HDC.out]
        rintro e w2 ⟨rfl, rfl⟩
        have HZ2 := Lib.hid HZA.out.drop
        go_wp2_with fail
        go_roundg (gk - 1)
        case measure => omega
        case rel => exact ⟨j + 1, mo', sc', r, rfl, by go_num, by omega, HSC, HZ2, HD2⟩
      | some p =>
        rw [hdc] at hdd
        simp only at hdd
        have HD2 := Lib.hid hdd
        have HDC := Lib.hid hdc
        clear hdd hdc
        go_wp2_with fail
        refine (declares_any n1 _).mono ?_
        rw [HDC.out]
        rintro e w2 ⟨rfl, hw2⟩
        rw [hw2] at HZA
        clear hw2
        have k0 := HZA.out.cell 0
        have k1 := HZA.out.cell 1
        have q1 : ((⟨p.toArray⟩ : ByteArray) == ⟨#[120, 109, 108, 110, 115]⟩) = (p == xmlnsB) := bytes_eqc p xmlnsB
        have q1' : (p == [120, 109, 108, 110, 115]) = (p == xmlnsB) := rfl
        have q4 : ((⟨p.toArray⟩ : ByteArray) == ⟨#[120, 109, 108]⟩) = (p == xmlB) := bytes_eqc p xmlB
        have q4' : (p == [120, 109, 108]) = (p == xmlB) := rfl
        have q5 : ((⟨n2.toArray⟩ : ByteArray) == ⟨#[104, 116, 116, 112, 58, 47, 47, 119, 119, 119, 46, 119, 51, 46, 111, 114, 103, 47, 88, 77, 76, 47, 49, 57, 57, 56, 47, 110, 97, 109, 101, 115, 112, 97, 99, 101]⟩) = (n2 == xmlUri) := bytes_eqc n2 xmlUri
        have q5' : (n2 == [104, 116, 116, 112, 58, 47, 47, 119, 119, 119, 46, 119, 51, 46, 111, 114, 103, 47, 88, 77, 76, 47, 49, 57, 57, 56, 47, 110, 97, 109, 101, 115, 112, 97, 99, 101]) = (n2 == xmlUri) := rfl
        have HB0 : Hid (declBad p n2 = ((p == xmlnsB) || (!p.isEmpty && n2.isEmpty) || ((p == xmlB) != (n2 == xmlUri)))) := rfl
        have HPX : Hid ((p == xmlB) = true → p = xmlB) := fun h => by simpa using h
        have HPN : Hid ((p == xmlB) = false → ¬ p = xmlB) := fun h => by simpa using h
        generalize (p == xmlnsB) = b1 at *
        generalize (p == xmlB) = b4 at *
        generalize (n2 == xmlUri) = b5 at *
        cases b1
        · cases he : List.isEmpty p
          · cases hv : List.isEmpty n2
            · skip
              cases b4
              · cases b5
                · have HB : Hid (declBad p n2 = false) := by show _ = _; rw [HB0.out, he, hv]; rfl
                  have hpx := HPN.out rfl
                  cases mo' with
                  | none =>
                    obtain rfl : sc' = [] := by
                      rcases HSC.out with ⟨_, h⟩ | ⟨m, h, _⟩
                      · exact h
                      · cases h
                    go_wp2_with fail
                    refine (clone_nil _).mono ?_
                    rintro e w3 ⟨rfl, rfl⟩
                    have k1b := (HZA.out.alloc (.map #[] 0)).f1.cell 1
                    obtain ⟨w6, hup, z6⟩ := run_set (Ents.mk (l := []) (es := #[]) (c := 0) rfl (HZA.out.alloc (.map #[] 0))) p n2
                    have k1 := z6.f1.cell 1
                    have k0 := z6.f1.cell 0
                    have HZ7 := Lib.hid z6
                    have HD3 : Hid (declared (setSc [] p n2) (az.drop (j + 1)) = declared sc az) := by show _ = _; rw [← HD2.out, if_neg (by rw [HB.out]; decide), if_neg hpx]; unfold declSet; rw [hv]; rfl
                    have HZ8 := Lib.hid ((MapsA.add (HZ7.out.re [0, 2, 1])).f1.drop)
                    clear hpx z6
                    go_wp2_with fail
                    go_roundg (gk - 1)
                    case measure => omega
                    case rel => exact ⟨j + 1, some _, _, r ++ [(_, _)], rfl, by go_num, by omega, Lib.hid (.inr ⟨_, rfl, by rw [← List.append_assoc]; exact List.mem_append_right _ (List.mem_singleton.2 rfl)⟩), (by rw [← List.append_assoc]; exact HZ8), HD3⟩
                  | some m =>
                    have hmem : (m, sc') ∈ ms ++ r := by
                      rcases HSC.out with ⟨h, _⟩ | ⟨m', h, hm⟩
                      · cases h
                      · cases h; exact hm
                    obtain ⟨es, ck, hes, hblk⟩ := ScIn.block hmem HZA.out.f1
                    go_wp2_with fail
                    refine (clone_any m es ck _ hblk).mono ?_
                    rintro e w3 ⟨rfl, rfl⟩
                    have k1b := (HZA.out.alloc (.map es ck)).f1.cell 1
                    obtain ⟨w6, hup, z6⟩ := run_set (Ents.mk (l := sc') (es := es) (c := ck) hes (HZA.out.alloc (.map es ck))) p n2
                    have k1 := z6.f1.cell 1
                    have k0 := z6.f1.cell 0
                    have HZ7 := Lib.hid z6
                    have HD3 : Hid (declared (setSc sc' p n2) (az.drop (j + 1)) = declared sc az) := by show _ = _; rw [← HD2.out, if_neg (by rw [HB.out]; decide), if_neg hpx]; unfold declSet; rw [hv]; rfl
                    have HZ8 := Lib.hid ((MapsA.add (HZ7.out.re [0, 2, 1])).f1.drop)
                    clear hpx z6
                    go_wp2_with fail
                    go_roundg (gk - 1)
                    case measure => omega
                    case rel => exact ⟨j + 1, some _, _, r ++ [(_, _)], rfl, by go_num, by omega, Lib.hid (.inr ⟨_, rfl, by rw [← List.append_assoc]; exact List.mem_append_right _ (List.mem_singleton.2 rfl)⟩), (by rw [← List.append_assoc]; exact HZ8), HD3⟩
                · have HB : Hid (declBad p n2 = true) := by show _ = _; rw [HB0.out, he, hv]; rfl
                  have HR : Hid (declared sc az = none) := by show _ = _; rw [← HD2.out, if_pos (by rw [HB.out])]
                  go_wp2_with fail
                  go_ret2
                  exact ⟨r, HZA.out.drop, by rw [HR.out]; rfl⟩
              · cases b5
                · have HB : Hid (declBad p n2 = true) := by show _ = _; rw [HB0.out, he, hv]; rfl
                  have HR : Hid (declared sc az = none) := by show _ = _; rw [← HD2.out, if_pos (by rw [HB.out])]
                  go_wp2_with fail
                  go_ret2
                  exact ⟨r, HZA.out.drop, by rw [HR.out]; rfl⟩
                · have HB : Hid (declBad p n2 = false) := by show _ = _; rw [HB0.out, he, hv]; rfl
                  have hpx := HPX.out rfl
                  have HD3 : Hid (declared sc' (az.drop (j + 1)) = declared sc az) := by show _ = _; rw [← HD2.out, if_neg (by rw [HB.out]; decide), if_pos hpx]
                  clear hpx
                  go_wp2_with fail
                  go_roundg (gk - 1)
                  case measure => omega
                  case rel => exact ⟨j + 1, mo', sc', r, rfl, by go_num, by omega, HSC, Lib.hid HZA.out.drop, HD3⟩
            · have HB : Hid (declBad p n2 = true) := by show _ = _; rw [HB0.out, he, hv]; rfl
              have HR : Hid (declared sc az = none) := by show _ = _; rw [← HD2.out, if_pos (by rw [HB.out])]
              go_wp2_with fail
              go_ret2
              exact ⟨r, HZA.out.drop, by rw [HR.out]; rfl⟩
          · skip
            cases b4
            · cases b5
              · have HB : Hid (declBad p n2 = false) := by show _ = _; rw [HB0.out, he]; rfl
                have hpx := HPN.out rfl
                cases mo' with
                | none =>
                  obtain rfl : sc' = [] := by
                    rcases HSC.out with ⟨_, h⟩ | ⟨m, h, _⟩
                    · exact h
                    · cases h
                  go_wp2_with fail
                  refine (clone_nil _).mono ?_
                  rintro e w3 ⟨rfl, rfl⟩
                  have k1b := (HZA.out.alloc (.map #[] 0)).f1.cell 1
                  obtain ⟨w6, hup, z6⟩ := run_set (Ents.mk (l := []) (es := #[]) (c := 0) rfl (HZA.out.alloc (.map #[] 0))) p n2
                  cases hv : List.isEmpty n2
                  · skip
                    have k1 := z6.f1.cell 1
                    have k0 := z6.f1.cell 0
                    have HZ7 := Lib.hid z6
                    have HD3 : Hid (declared (setSc [] p n2) (az.drop (j + 1)) = declared sc az) := by show _ = _; rw [← HD2.out, if_neg (by rw [HB.out]; decide), if_neg hpx]; unfold declSet; rw [hv]; rfl
                    have HZ8 := Lib.hid ((MapsA.add (HZ7.out.re [0, 2, 1])).f1.drop)
                    clear hpx z6
                    go_wp2_with fail
                    go_roundg (gk - 1)
                    case measure => omega
                    case rel => exact ⟨j + 1, some _, _, r ++ [(_, _)], rfl, by go_num, by omega, Lib.hid (.inr ⟨_, rfl, by rw [← List.append_assoc]; exact List.mem_append_right _ (List.mem_singleton.2 rfl)⟩), (by rw [← List.append_assoc]; exact HZ8), HD3⟩
                  · skip
                    have k1 := z6.f1.cell 1
                    have k0 := z6.f1.cell 0
                    obtain ⟨w7, hdl, z7⟩ := run_del z6 p 0
                    have HZ7 := Lib.hid z7
                    have HD3 : Hid (declared (delSc (setSc [] p n2) p) (az.drop (j + 1)) = declared sc az) := by show _ = _; rw [← HD2.out, if_neg (by rw [HB.out]; decide), if_neg hpx]; unfold declSet; rw [hv]; rfl
                    have HZ8 := Lib.hid ((MapsA.add (HZ7.out.re [0, 2, 1])).f1.drop)
                    clear hpx z6
                    go_wp2_with fail
                    go_roundg (gk - 1)
                    case measure => omega
                    case rel => exact ⟨j + 1, some _, _, r ++ [(_, _)], rfl, by go_num, by omega, Lib.hid (.inr ⟨_, rfl, by rw [← List.append_assoc]; exact List.mem_append_right _ (List.mem_singleton.2 rfl)⟩), (by rw [← List.append_assoc]; exact HZ8), HD3⟩
                | some m =>
                  have hmem : (m, sc') ∈ ms ++ r := by
                    rcases HSC.out with ⟨h, _⟩ | ⟨m', h, hm⟩
                    · cases h
                    · cases h; exact hm
                  obtain ⟨es, ck, hes, hblk⟩ := ScIn.block hmem HZA.out.f1
                  go_wp2_with fail
                  refine (clone_any m es ck _ hblk).mono ?_
                  rintro e w3 ⟨rfl, rfl⟩
                  have k1b := (HZA.out.alloc (.map es ck)).f1.cell 1
                  obtain ⟨w6, hup, z6⟩ := run_set (Ents.mk (l := sc') (es := es) (c := ck) hes (HZA.out.alloc (.map es ck))) p n2
                  cases hv : List.isEmpty n2
                  · skip
                    have k1 := z6.f1.cell 1
                    have k0 := z6.f1.cell 0
                    have HZ7 := Lib.hid z6
                    have HD3 : Hid (declared (setSc sc' p n2) (az.drop (j + 1)) = declared sc az) := by show _ = _; rw [← HD2.out, if_neg (by rw [HB.out]; decide), if_neg hpx]; unfold declSet; rw [hv]; rfl
                    have HZ8 := Lib.hid ((MapsA.add (HZ7.out.re [0, 2, 1])).f1.drop)
                    clear hpx z6
                    go_wp2_with fail
                    go_roundg (gk - 1)
                    case measure => omega
                    case rel => exact ⟨j + 1, some _, _, r ++ [(_, _)], rfl, by go_num, by omega, Lib.hid (.inr ⟨_, rfl, by rw [← List.append_assoc]; exact List.mem_append_right _ (List.mem_singleton.2 rfl)⟩), (by rw [← List.append_assoc]; exact HZ8), HD3⟩
                  · skip
                    have k1 := z6.f1.cell 1
                    have k0 := z6.f1.cell 0
                    obtain ⟨w7, hdl, z7⟩ := run_del z6 p 0
                    have HZ7 := Lib.hid z7
                    have HD3 : Hid (declared (delSc (setSc sc' p n2) p) (az.drop (j + 1)) = declared sc az) := by show _ = _; rw [← HD2.out, if_neg (by rw [HB.out]; decide), if_neg hpx]; unfold declSet; rw [hv]; rfl
                    have HZ8 := Lib.hid ((MapsA.add (HZ7.out.re [0, 2, 1])).f1.drop)
                    clear hpx z6
                    go_wp2_with fail
                    go_roundg (gk - 1)
                    case measure => omega
                    case rel => exact ⟨j + 1, some _, _, r ++ [(_, _)], rfl, by go_num, by omega, Lib.hid (.inr ⟨_, rfl, by rw [← List.append_assoc]; exact List.mem_append_right _ (List.mem_singleton.2 rfl)⟩), (by rw [← List.append_assoc]; exact HZ8), HD3⟩
              · have HB : Hid (declBad p n2 = true) := by show _ = _; rw [HB0.out, he]; rfl
                have HR : Hid (declared sc az = none) := by show _ = _; rw [← HD2.out, if_pos (by rw [HB.out])]
                go_wp2_with fail
                go_ret2
                exact ⟨r, HZA.out.drop, by rw [HR.out]; rfl⟩
            · cases b5
              · have HB : Hid (declBad p n2 = true) := by show _ = _; rw [HB0.out, he]; rfl
                have HR : Hid (declared sc az = none) := by show _ = _; rw [← HD2.out, if_pos (by rw [HB.out])]
                go_wp2_with fail
                go_ret2
                exact ⟨r, HZA.out.drop, by rw [HR.out]; rfl⟩
              · have HB : Hid (declBad p n2 = false) := by show _ = _; rw [HB0.out, he]; rfl
                have hpx := HPX.out rfl
                have HD3 : Hid (declared sc' (az.drop (j + 1)) = declared sc az) := by show _ = _; rw [← HD2.out, if_neg (by rw [HB.out]; decide), if_pos hpx]
                clear hpx
                go_wp2_with fail
                go_roundg (gk - 1)
                case measure => omega
                case rel => exact ⟨j + 1, mo', sc', r, rfl, by go_num, by omega, HSC, Lib.hid HZA.out.drop, HD3⟩
        · have HB : Hid (declBad p n2 = true) := by show _ = _; rw [HB0.out]; rfl
          have HR : Hid (declared sc az = none) := by show _ = _; rw [← HD2.out, if_pos (by rw [HB.out])]
          go_wp2_with fail
          go_ret2
          exact ⟨r, HZA.out.drop, by rw [HR.out]; rfl⟩
    · have hge : ¬ (j : Int) < (n : Int) := by omega
      have hd : az.drop j = [] := List.drop_eq_nil_of_le (by have := HN.out; omega)
      have hdd := HD.out
      rw [hd] at hdd
      have HD2 : Hid (declared sc az = some sc') := by show _ = _; rw [← hdd]; rfl
      clear hdd hd
      go_wp2_with fail
      go_ret2
      refine ⟨r, HZ.out, ?_⟩
      rw [HD2.out]
      exact ⟨mo', rfl, HSC.out⟩
end
end Go.Proofs.YtahfcgjlcdbnjaaGreatDoor
/- xdm's element: an element with its attributes. -/
namespace Go.Proofs.YtahfcgjlcdbnjaaGreatDoor
open Go.RowKit

/-- What element leaves. -/
def ElemPost (W : World) (L : List Asn) (tp len room : Nat) (r : Except Nat (List Nod)) (e : Ending) (w' : World) : Prop := match r with
  | .error n => e = .returned (.tuple #[.int .i64 0, .int .i64 n]) ∧ Hold W w' L
  | .ok ns' => e = .returned (.tuple #[.int .i64 len, .int .i64 0]) ∧ ∃ (v' : Value) (l' : List NodM) (ms' : List (Nat × Sc)), l'.map (·.1) = ns' ∧ ScsIn l' ms' ∧ DeepOk l' ∧ l'.length ≤ room ∧
      Hold W w' (Asn.pts tp (.cells #[v'] 75 (0, 0)) :: Nodes v' l' :: MapsA ms' :: L)

section
variable {W w : World} {L : List Asn}

theorem ScsIn.more {l : List NodM} {ms : List (Nat × Sc)} (h : ScsIn l ms) (r : List (Nat × Sc)) : ScsIn l (ms ++ r) := fun p hp => (h p hp).more r
theorem ScsIn.snoc {l : List NodM} {ms : List (Nat × Sc)} (h : ScsIn l ms) {n : Nod} {mo : Option Nat} (hn : ScIn mo n.sc ms) : ScsIn (l ++ [(n, mo)]) ms := fun p hp => by
  rcases List.mem_append.1 hp with hp | hp
  · exact h p hp
  · rw [List.mem_singleton] at hp; subst hp; exact hn

set_option maxHeartbeats 16000000 in
set_option maxRecDepth 100000 in
theorem element_any (g : Glob W) {tp : Nat} {v : Value} {l : List NodM} {ms : List (Nat × Sc)} (x : Hold W w (Asn.pts tp (.cells #[v] 75 (0, 0)) :: Nodes v l :: MapsA ms :: L))
    (k : Nat) (hk : k < l.length) (hdp : DeepOk l) (hsc : ScsIn l ms) (t : Tok) (hst : SmallTok t) (hl : l.length + 1 + t.attrs.length ≤ 1000000) (av : Value) (hav : AttrsAt W av t.attrs) :
    Calls Tryz.prog 37 #[.pointer (some ⟨tp, 0, none⟩), .int .i64 k, .agg #[.int .i64 t.kind, str t.name, av, str t.text]] w
      fun e w' => ElemPost W L tp l.length (l.length + 1 + t.attrs.length) (elemN (l.map (·.1)) k t) e w' := by
  obtain ⟨aa, ac, rfl, hat⟩ := hav
  have HAV : Hid (AttrsAt W (.slice aa t.attrs.length ac) t.attrs) := ⟨aa, ac, rfl, hat⟩
  obtain ⟨n, hn⟩ : ∃ n, n = t.attrs.length := ⟨_, rfl⟩
  rw [← hn] at hat hl HAV ⊢
  have HN := Lib.hid hn
  have HAT := Lib.hid hat
  have HST := Lib.hid hst
  have HSC := Lib.hid hsc
  have HDP := Lib.hid hdp
  have HG := Lib.hid g
  obtain ⟨nk, hnk⟩ : ∃ p, l[k]? = some p := ⟨_, List.getElem?_eq_getElem hk⟩
  obtain ⟨nd, mo⟩ := nk
  have hscn : ScIn mo nd.sc ms := hsc (nd, mo) (List.mem_of_getElem? hnk)
  have HSN := Lib.hid hscn
  obtain ⟨sc, hscd⟩ : ∃ sc, nd.sc = sc := ⟨_, rfl⟩
  have HE : Hid (elemN (l.map (·.1)) k t = match declared sc t.attrs with
      | none => .error 7
      | some sc => match uriOf sc (parted t.name).1 false with
        | none => .error 7
        | some u => match attrsN sc (l.map (·.1)).length (addN (l.map (·.1)) k 2 u (parted t.name).1 (parted t.name).2 [] sc) [] false t.attrs with
          | none => .error 7
          | some (ns', tw) => if tw then .error 8 else .ok ns') := by
    show _ = _
    unfold elemN
    rw [List.getElem?_map, hnk]
    simp only [Option.map_some, Option.getD_some, hscd]
    rfl
  have x1 := x.alloc (.cells #[.int .i64 t.kind, str t.name, .slice aa n ac, str t.text] 38)
  obtain ⟨gg, c, hsl, h1, h2, hcells⟩ := Nodes.read x1.f2 (by omega)
  subst hsl
  have ck := hcells k 8 nd mo (.map mo) hnk rfl
  have ct := x1.f1.cell 0
  have ca := x1.cell 2
  have hk' : (k : Int) < (l.length : Int) := by omega
  have HX := Lib.hid x1
  have HNK := Lib.hid hnk
  have HXM := Lib.hid (x1.re [3, 0, 1, 2])
  rw [hscd] at hscn
  have HSN := Lib.hid hscn
  cases hdc : declared sc t.attrs with
  | none =>
    have HR : Hid (elemN (l.map (·.1)) k t = .error 7) := by show _ = _; rw [HE.out, hdc]
    have HDC := Lib.hid hdc
    clear hn hat hst hsc hdp g hnk hscn hscd x x1 hcells hdc
    go_enter Tryz.func37, Tryz.ntmps37
    go_wp2_with fail
    go_region_held3 (fun w' => w'.cell? ⟨tp, 0, none⟩ = some (.slice (some ⟨gg, 0, none⟩) l.length c) ∧ w'.cell? ⟨gg, k * 9 + 8, none⟩ = some (.map mo) ∧ w'.cell? ⟨w.heap.size, 2, none⟩ = some (.slice aa n ac))
      (first | go_keep | exact k12)
      (first
        | (go_at_call 64
           refine (declared4_any HG.out HXM.out.drew mo sc HSN.out t.attrs (.slice aa n ac) HAV.out (by have := HN.out; omega) HST.out.attrs).mono ?_
           rw [HDC.out]
           rintro e w5 ⟨r, z, hp⟩
           obtain rfl : e = _ := hp
           have k12 : w5.cell? ⟨tp, 0, none⟩ = some (.slice (some ⟨gg, 0, none⟩) l.length c) ∧ w5.cell? ⟨gg, k * 9 + 8, none⟩ = some (.map mo) ∧ w5.cell? ⟨w.heap.size, 2, none⟩ = some (.slice aa n ac) := by
             obtain ⟨g2, c2, hs2, _, _, hc2⟩ := Nodes.read z.f3 (by omega)
             cases hs2
             exact ⟨z.f2.cell 0, hc2 k 8 nd mo _ HNK.out rfl, z.f1.cell 2⟩
           have Z := Lib.hid z
           clear z))
    all_goals
      go_wp2_with fail
      go_ret2
      rw [HR.out]
      exact ⟨rfl, Z.out.drop.drop.drop.drop⟩
  | some sc' =>
    have HDC := Lib.hid hdc
    obtain ⟨pr, hpr⟩ : ∃ a, (parted t.name).1 = a := ⟨_, rfl⟩
    obtain ⟨lo, hlo⟩ : ∃ a, (parted t.name).2 = a := ⟨_, rfl⟩
    have he := HE.out
    rw [hdc] at he
    simp only [hpr, hlo] at he
    cases huo : uriOf sc' pr false with
    | none =>
      rw [huo] at he
      have HR : Hid (elemN (l.map (·.1)) k t = .error 7) := by show _ = _; rw [he]
      have HV : Hid (namedV t.name (uriOf sc' (parted t.name).1 false) = .tuple #[.agg #[str [], str [], str []], .bool false]) := by show _ = _; rw [hpr, huo]; rfl
      clear hn hat hst hsc hdp g hnk hscn hscd x x1 hcells hdc he hpr hlo huo
      go_enter Tryz.func37, Tryz.ntmps37
      go_wp2_with fail
      go_region_held3 (fun w' => w'.cell? ⟨tp, 0, none⟩ = some (.slice (some ⟨gg, 0, none⟩) l.length c) ∧ w'.cell? ⟨gg, k * 9 + 8, none⟩ = some (.map mo) ∧ w'.cell? ⟨w.heap.size, 2, none⟩ = some (.slice aa n ac))
        (first | go_keep | exact k12)
        (first
          | (go_at_call 64
             refine (declared4_any HG.out HXM.out.drew mo sc HSN.out t.attrs (.slice aa n ac) HAV.out (by have := HN.out; omega) HST.out.attrs).mono ?_
             rw [HDC.out]
             rintro e w5 ⟨r, z, mo', rfl, hsc'⟩
             have k12 : w5.cell? ⟨tp, 0, none⟩ = some (.slice (some ⟨gg, 0, none⟩) l.length c) ∧ w5.cell? ⟨gg, k * 9 + 8, none⟩ = some (.map mo) ∧ w5.cell? ⟨w.heap.size, 2, none⟩ = some (.slice aa n ac) := by
               obtain ⟨g2, c2, hs2, _, _, hc2⟩ := Nodes.read z.f3 (by omega)
               cases hs2
               exact ⟨z.f2.cell 0, hc2 k 8 nd mo _ HNK.out rfl, z.f1.cell 2⟩
             have Z := Lib.hid z
             have HSC' := Lib.hid hsc'
             have k13 := z.f1.cell 1
             clear z hsc'))
      all_goals
        go_wp2_with fail
        refine (named_any HG.out Z.out mo' sc' HSC'.out t.name HST.out.name false).mono ?_
        rw [HV.out]
        rintro e w6 ⟨rfl, z6⟩
        have Z6 := Lib.hid z6
        clear z6
        go_wp2_with fail
        go_ret2
        rw [HR.out]
        exact ⟨rfl, (Z6.out.alloc _).drop.drop.drop.drop.drop⟩
    | some u =>
      rw [huo] at he
      simp only at he
      have HV : Hid (namedV t.name (uriOf sc' (parted t.name).1 false) = .tuple #[.agg #[str u, str pr, str lo], .bool true]) := by show _ = _; rw [hpr, huo]; unfold namedV; rw [hpr, hlo]
      have HE2 := Lib.hid he
      have hmm := @run_makeMap Tryz.prog
      clear hn hat hst hsc hdp g hnk hscn hscd x x1 hcells hdc he hpr hlo huo
      go_enter Tryz.func37, Tryz.ntmps37
      go_wp2_with fail
      go_region_held3 (fun w' => w'.cell? ⟨tp, 0, none⟩ = some (.slice (some ⟨gg, 0, none⟩) l.length c) ∧ w'.cell? ⟨gg, k * 9 + 8, none⟩ = some (.map mo) ∧ w'.cell? ⟨w.heap.size, 2, none⟩ = some (.slice aa n ac))
        (first | go_keep | exact k12)
        (first
          | (go_at_call 64
             refine (declared4_any HG.out HXM.out.drew mo sc HSN.out t.attrs (.slice aa n ac) HAV.out (by have := HN.out; omega) HST.out.attrs).mono ?_
             rw [HDC.out]
             rintro e w5 ⟨r, z, mo', rfl, hsc'⟩
             have k12 : w5.cell? ⟨tp, 0, none⟩ = some (.slice (some ⟨gg, 0, none⟩) l.length c) ∧ w5.cell? ⟨gg, k * 9 + 8, none⟩ = some (.map mo) ∧ w5.cell? ⟨w.heap.size, 2, none⟩ = some (.slice aa n ac) := by
               obtain ⟨g2, c2, hs2, _, _, hc2⟩ := Nodes.read z.f3 (by omega)
               cases hs2
               exact ⟨z.f2.cell 0, hc2 k 8 nd mo _ HNK.out rfl, z.f1.cell 2⟩
             have Z := Lib.hid z
             have HSC' := Lib.hid hsc'
             have k13 := z.f1.cell 1
             clear z hsc'))
      all_goals
        go_wp2_with fail
        refine (named_any HG.out Z.out mo' sc' HSC'.out t.name HST.out.name false).mono ?_
        rw [HV.out]
        rintro e w6 ⟨rfl, z6⟩
        have Z7 := Lib.hid (z6.alloc (.cells #[str u, str pr, str lo] 30))
        have m2 := Z7.out.f2.cell 2
        clear z6
        go_wp2_with fail
        refine (add4_any (Z7.out.re [3, 4, 0, 1, 2]) (by omega) HDP.out (k : Int) (.inr ⟨k, rfl, hk⟩) (by omega) 2 u pr lo [] sc' mo').mono ?_
        rintro e w8 ⟨rfl, v1, z8⟩
        obtain ⟨l1, hl1⟩ : ∃ l1, l1 = l ++ [(nodAt l k 2 u pr lo [] sc', mo')] := ⟨_, rfl⟩
        rw [← hl1] at z8
        have hl1n : l1.length = l.length + 1 := by rw [hl1]; simp
        have HS1 : Hid (ScsIn l1 (ms ++ r)) := by rw [hl1]; exact Lib.hid ((HSC.out.more r).snoc HSC'.out)
        have HD1 : Hid (DeepOk l1) := by rw [hl1]; exact Lib.hid (HDP.out.snoc k 2 u pr lo [] sc' mo')
        have HM1 : Hid (addN (l.map (·.1)) k 2 u pr lo [] sc' = l1.map (·.1)) := by show _ = _; rw [hl1]; exact addN_map l k 2 u pr lo [] sc' mo'
        have b2 := z8.re [4, 0, 1, 2, 3] |>.cell 2
        have ZL := Lib.hid (Seen2.mk (ks := []) (es := #[]) (c := 0) rfl ((z8.re [2, 4, 0, 1, 3]).drop.drop.alloc (.map #[] 0)))
        have b3 := ((z8.re [4, 0, 1, 2, 3]).alloc (.map #[] 0)).f1.cell 2
        clear z8 hl1
        go_wp2_with fail
        rename World => wo
        go_loopg [13, 56] n (fun gk v13 v56 wr => ∃ (j : Nat) (v' : Value) (l' : List NodM) (ks : List (Bytes × Bytes)) (tw : Bool), v13 = .bool tw ∧ v56 = .int .i64 j ∧ gk + j = n ∧ l'.length ≤ l.length + 1 + j ∧ l.length + 1 ≤ l'.length ∧ Hid (ScsIn l' (ms ++ r)) ∧ Hid (DeepOk l') ∧
          Hid (Hold W wr (Seen2 wo.heap.size ks :: Asn.pts tp (.cells #[v'] 75 (0, 0)) :: Nodes v' l' :: MapsA (ms ++ r) :: L)) ∧
          Hid (attrsN sc' l.length (l'.map (·.1)) ks tw (t.attrs.drop j) = attrsN sc' l.length (l1.map (·.1)) [] false t.attrs))
        case atStart => exact ⟨0, v1, l1, [], false, rfl, rfl, by omega, by omega, by omega, HS1, HD1, ZL, rfl⟩
        case round =>
          obtain ⟨j, v', l', ks, tw, rfl, rfl, hig, hl2, hl3, HS2, HD2, HZ, HO⟩ := hrel
          by_cases hlt : j < n
          · have hlt' : (j : Int) < (n : Int) := by omega
            obtain ⟨p, hp⟩ : ∃ p, t.attrs[j]? = some p := ⟨_, List.getElem?_eq_getElem (by have := HN.out; omega)⟩
            have hd : t.attrs.drop j = p :: t.attrs.drop (j + 1) := by
              have hj' : j < t.attrs.length := by have := HN.out; omega
              rw [List.drop_eq_getElem_cons hj', (List.getElem?_eq_some_iff.1 hp).2]
            obtain ⟨h, o, rfl, hcells⟩ := HAT.out (by omega)
            obtain ⟨c1, c2⟩ := hcells j p hp
            obtain ⟨hp1, hp2⟩ := HST.out.attrs p (List.mem_of_getElem? hp)
            have d1 := HZ.out.oldCell c1
            have d2 := HZ.out.oldCell c2
            have ho := HO.out
            rw [hd] at ho
            obtain ⟨q, vl⟩ := p
            simp only [attrsN] at ho
            simp only at d1 d2 hp1 hp2
            have HZA := Lib.hid (HZ.out.alloc (.cells #[str q, str vl] 45))
            clear hp hcells c1 c2 hd
            cases hdc : declares q with
            | some dp =>
              rw [hdc] at ho
              have HO2 := Lib.hid ho
              have HDC2 := Lib.hid hdc
              clear ho hdc
              go_wp2_with fail
              refine (declares_any q _).mono ?_
              rw [HDC2.out]
              rintro e w9 ⟨rfl, rfl⟩
              go_wp2_with fail
              go_roundg (gk - 1)
              case measure => omega
              case rel => exact ⟨j + 1, v', l', ks, tw, rfl, by go_num, by omega, by omega, by omega, HS2, HD2, Lib.hid HZA.out.drop, HO2⟩
            | none =>
              rw [hdc] at ho
              simp only at ho
              obtain ⟨p2, hp2'⟩ : ∃ a, (parted q).1 = a := ⟨_, rfl⟩
              obtain ⟨lo2, hlo2⟩ : ∃ a, (parted q).2 = a := ⟨_, rfl⟩
              rw [hp2', hlo2] at ho
              have HDC2 := Lib.hid hdc
              cases huo : uriOf sc' p2 true with
              | none =>
                rw [huo] at ho
                have HR : Hid (elemN (l.map (·.1)) k t = .error 7) := by show _ = _; rw [HE2.out, List.length_map, HM1.out, ← ho]
                have HV2 : Hid (namedV q (uriOf sc' (parted q).1 true) = .tuple #[.agg #[str [], str [], str []], .bool false]) := by show _ = _; rw [hp2', huo]; rfl
                clear ho hdc huo hp2' hlo2
                go_wp2_with fail
                refine (declares_any q _).mono ?_
                rw [HDC2.out]
                rintro e w9 ⟨rfl, hw9⟩
                rw [hw9] at HZA
                clear hw9
                have e0 := HZA.out.cell 0
                have e1 := HZA.out.cell 1
                go_wp2_with fail
                refine (named_any HG.out (HZA.out.re [4, 0, 1, 2, 3]) mo' sc' HSC'.out q hp1 true).mono ?_
                rw [HV2.out]
                rintro e w10 ⟨rfl, z6⟩
                have Z10 := Lib.hid z6
                clear z6
                go_wp2_with fail
                go_ret2
                rw [HR.out]
                exact ⟨rfl, (Z10.out.alloc _).drop.drop.drop.drop.drop.drop⟩
              | some u2 =>
                rw [huo] at ho
                simp only at ho
                have HO2 := Lib.hid ho
                have HV2 : Hid (namedV q (uriOf sc' (parted q).1 true) = .tuple #[.agg #[str u2, str p2, str lo2], .bool true]) := by show _ = _; rw [hp2', huo]; unfold namedV; rw [hp2', hlo2]
                clear ho hdc huo hp2' hlo2
                go_wp2_with fail
                refine (declares_any q _).mono ?_
                rw [HDC2.out]
                rintro e w9 ⟨rfl, hw9⟩
                rw [hw9] at HZA
                clear hw9
                have e0 := HZA.out.cell 0
                have e1 := HZA.out.cell 1
                go_wp2_with fail
                refine (named_any HG.out (HZA.out.re [4, 0, 1, 2, 3]) mo' sc' HSC'.out q hp1 true).mono ?_
                rw [HV2.out]
                rintro e w10 ⟨rfl, z6⟩
                have Z11 := Lib.hid ((z6.alloc (.cells #[str u2, str p2, str lo2] 30)).allocAt (o := .cells #[str u2, str lo2] 124) (b := w10.heap.size + 1) rfl (by simp))
                have ZS := Lib.hid (Z11.out.re [4, 0, 1, 2, 3, 5, 6])
                have hlk := run_lookup2 ZS.out (u2, lo2)
                obtain ⟨w12, hup, z12⟩ := run_update2 ZS.out (u2, lo2)
                have y0 := z12.f2.cell 0
                have y1 := z12.f2.cell 1
                have y2 := z12.f2.cell 2
                have y3 := z12.f4.cell 1
                have Z12 := Lib.hid z12
                clear z6 z12
                have HL2 : Hid (attrsN sc' l.length ((l' ++ [((nodAt l' l.length 3 u2 p2 lo2 vl [], none) : NodM)]).map (·.1)) (if ks.contains (u2, lo2) then ks else ks ++ [(u2, lo2)]) (tw || ks.contains (u2, lo2)) (t.attrs.drop (j + 1)) = attrsN sc' l.length (l1.map (·.1)) [] false t.attrs) := by
                  show _ = _
                  rw [← addN_map]
                  exact HO2.out
                have HS3 : Hid (ScsIn (l' ++ [(nodAt l' l.length 3 u2 p2 lo2 vl [], none)]) (ms ++ r)) := HS2.out.snoc (.inl ⟨rfl, rfl⟩)
                have HD3 : Hid (DeepOk (l' ++ [(nodAt l' l.length 3 u2 p2 lo2 vl [], none)])) := HD2.out.snoc l.length 3 u2 p2 lo2 vl [] none
                have hpl : l.length < l'.length := by omega
                generalize ks.contains (u2, lo2) = seen at *
                cases tw
                all_goals
                  go_wp2_with fail
                  refine (add4_any (Z12.out.re [5, 6, 0, 1, 2, 3, 4]) (by omega) HD2.out (l.length : Int) (.inr ⟨l.length, rfl, hpl⟩) (by omega) 3 u2 p2 lo2 vl [] none).mono ?_
                  rintro e w13 ⟨rfl, v2, z13⟩
                  have Z13 := Lib.hid ((z13.re [3, 4, 6, 2, 0, 1, 5]).drop.drop.drop)
                  clear z13
                  go_wp2_with fail
                  go_roundg (gk - 1)
                  case measure => omega
                  case rel => exact ⟨j + 1, v2, _, _, _, (by first | rfl | simp), by go_num, by omega, by simp; omega, by simp; omega, HS3, HD3, Z13, HL2⟩
          · have hge : ¬ (j : Int) < (n : Int) := by omega
            have hd : t.attrs.drop j = [] := List.drop_eq_nil_of_le (by have := HN.out; omega)
            have ho := HO.out
            rw [hd] at ho
            cases tw
            · have HR : Hid (elemN (l.map (·.1)) k t = .ok (l'.map (·.1))) := by show _ = _; rw [HE2.out, List.length_map, HM1.out, ← ho]; rfl
              clear ho hd
              go_wp2_with fail
              go_ret2
              rw [HR.out]
              exact ⟨rfl, v', l', ms ++ r, rfl, HS2.out, HD2.out, by omega, HZ.out.drop⟩
            · have HR : Hid (elemN (l.map (·.1)) k t = .error 8) := by show _ = _; rw [HE2.out, List.length_map, HM1.out, ← ho]; rfl
              clear ho hd
              go_wp2_with fail
              go_ret2
              rw [HR.out]
              exact ⟨rfl, HZ.out.drop.drop.drop.drop⟩
end
end Go.Proofs.YtahfcgjlcdbnjaaGreatDoor
