/- xdm's whole: Write's error, but for the text's length. -/
import Derived.Test.YtahfcgjlcdbnjaaGreatDoorMWrt
import Derived.Test.YtahfcgjlcdbnjaaGreatDoorMEl
import Derived.Test.YtahfcgjlcdbnjaaGreatDoorMBp
namespace Go.Proofs.YtahfcgjlcdbnjaaGreatDoor
open Go.RowKit

theorem writeR_err (l : List Tok) : (writeR l).2 = if okL isText [] false false l then (if deepN 0 l && !l.any wide && decide (l.length ≤ 4096) then (if (write l).length ≤ 32768 then 0 else 6) else 6) else 5 := by
  unfold writeR wholeN
  by_cases h : okL isText [] false false l = true
  · rw [if_pos h, if_pos h]
    by_cases h2 : (deepN 0 l && !l.any wide && decide (l.length ≤ 4096)) = true
    · rw [if_pos h2, if_pos h2, if_pos rfl]
      split <;> rfl
    · rw [if_neg h2, if_neg h2, if_neg (by decide)]
  · rw [if_neg h, if_neg h, if_neg (by decide)]

section
variable {W w w' : World} {L : List Asn}

set_option maxHeartbeats 8000000 in
set_option maxRecDepth 100000 in
theorem whole4_any (g : Glob w) (l : List Tok) (v : Value) (hv : TokRow w v l) (hl : l.length ≤ 1048576) (hs : ∀ t ∈ l, SmallTok t) :
    Calls Tryz.prog 35 #[v] w fun e w' => e = .returned (.int .i64 (wholeN l)) ∧ Below w.heap.size w w' := by
  have HV := Lib.hid hv
  obtain ⟨aa, ac, rfl, hrow⟩ := hv
  obtain ⟨n, hn⟩ : ∃ n, n = l.length := ⟨_, rfl⟩
  rw [← hn] at hrow hl HV ⊢
  have HN := Lib.hid hn
  have HA := Lib.hid hrow
  have HS := Lib.hid hs
  have HG := Lib.hid g
  clear hn hrow hs g
  go_enter Tryz.func35, Tryz.ntmps35
  go_wp2_with fail
  refine (write_any HG.out l (.slice aa n ac) HV.out (by have := HN.out; omega) HS.out).mono ?_
  rintro e w1 ⟨rfl, hb⟩
  have HX := Lib.hid ((Hold.start w).below hb)
  clear hb
  obtain ⟨D, hD⟩ : ∃ D, (writeR l).1 = D := ⟨_, rfl⟩
  obtain ⟨N, hN⟩ : ∃ N, (writeR l).2 = N := ⟨_, rfl⟩
  rw [hD, hN]
  rw [writeR_err] at hN
  by_cases hok : okL isText [] false false l = true
  · rw [if_pos hok] at hN
    have HR : Hid (wholeN l = if deepN 0 l && !l.any wide && decide (n ≤ 4096) then 0 else 6) := by
      show _ = _
      unfold wholeN
      rw [if_pos hok, HN.out]
    have HOK := Lib.hid hok
    by_cases hn4 : n ≤ 4096
    · have hn4' : ¬ (4096 : Int) < (n : Int) := by omega
      by_cases h6 : N = 6
      · have hr0 : ((N : Int) != 6) = false := by rw [h6]; rfl
        clear hN hD hok h6
        go_wp2_with fail
        rename World => wo
        go_loopg [5, 23] n (fun gk v5 v23 wr => ∃ (j d : Nat) (opn : List Bytes) (en pt : Bool), v5 = .int .i64 d ∧ v23 = .int .i64 j ∧ gk + j = n ∧ d ≤ 32 ∧ opn.length = d ∧ Hid (Hold w wr []) ∧ Hid (okL isText opn en pt (l.drop j) = true) ∧
          Hid (deepN d (l.drop j) = deepN 0 l) ∧ Hid ((l.drop j).any wide = l.any wide))
        case atStart => exact ⟨0, 0, [], false, false, rfl, rfl, by omega, by omega, rfl, HX, HOK, rfl, rfl⟩
        case round =>
          obtain ⟨j, d, opn2, en, pt, rfl, rfl, hig, hd32, hod, HZ1, HO, HD, HW⟩ := hrel
          by_cases hlt : j < n
          · have hlt' : (j : Int) < (n : Int) := by omega
            obtain ⟨t, ht⟩ : ∃ t, l[j]? = some t := ⟨_, List.getElem?_eq_getElem (by have := HN.out; omega)⟩
            have hd : l.drop j = t :: l.drop (j + 1) := by
              have hj' : j < l.length := by have := HN.out; omega
              rw [List.drop_eq_getElem_cons hj', (List.getElem?_eq_some_iff.1 ht).2]
            have ho := HO.out
            have hdd := HD.out
            have hww := HW.out
            rw [hd] at ho hdd hww
            simp only [okL, Bool.and_eq_true] at ho
            simp only [deepN] at hdd
            rw [List.any_cons] at hww
            have ho := ho.2
            obtain ⟨h, o, rfl, hcells⟩ := HA.out (by omega)
            obtain ⟨av, hta⟩ := hcells j t ht
            have hta := hta.keep HZ1.out
            obtain ⟨ta, tc, hav, _⟩ := hta.at_
            subst hav
            have c0 := hta.kind
            have c1 := hta.name
            have c2 := hta.attrs
            have c3 := hta.text
            have HD2 := Lib.hid hdd
            have HW2 := Lib.hid hww
            have HO3 := Lib.hid ho
            have HZA := Lib.hid (HZ1.out.alloc (.cells #[.int .i64 t.kind, str t.name, .slice ta t.attrs.length tc, str t.text] 38))
            clear hta hcells hd ho hdd hww ht
            by_cases hwd : 64 < t.attrs.length
            · have HR6 : Hid (wholeN l = 6) := by
                show _ = _
                rw [HR.out, ← HW2.out, show wide t = true from by unfold wide; simpa using hwd]; simp
              have hwd' : (64 : Int) < (t.attrs.length : Int) := by omega
              by_cases hk2 : t.kind = 2
              · have hza := HZA.out
                rw [hk2] at hza
                have HZF := Lib.hid hza.drop
                clear hza
                by_cases hd3 : d < 32
                · have hd3' : ¬ (32 : Int) < (d : Int) + 1 := by omega
                  go_wp2_with fail
                  go_ret
                  exact ⟨by rw [HR6.out]; rfl, HZF.out.old⟩
                · have hd3' : (32 : Int) < (d : Int) + 1 := by omega
                  go_wp2_with fail
                  go_ret
                  exact ⟨by rw [HR6.out]; rfl, HZF.out.old⟩
              · by_cases hk7 : t.kind = 7
                · have hza := HZA.out
                  rw [hk7] at hza
                  have HZF := Lib.hid hza.drop
                  clear hza
                  have hd3' : ¬ (32 : Int) < (d : Int) - 1 := by omega
                  go_wp2_with fail
                  go_ret
                  exact ⟨by rw [HR6.out]; rfl, HZF.out.old⟩
                · have HZF := Lib.hid HZA.out.drop
                  have hd3' : ¬ (32 : Int) < (d : Int) := by omega
                  go_wp2_with fail
                  go_ret
                  exact ⟨by rw [HR6.out]; rfl, HZF.out.old⟩
            · have hwd' : ¬ (64 : Int) < (t.attrs.length : Int) := by omega
              have HW3 : Hid ((l.drop (j + 1)).any wide = l.any wide) := by
                show _ = _
                rw [← HW2.out, show wide t = false from by unfold wide; simpa using hwd]; simp
              by_cases hk2 : t.kind = 2
              · have hza := HZA.out
                rw [hk2] at hza
                have HZF := Lib.hid hza.drop
                have hdd := HD2.out
                have ho := HO3.out
                rw [if_pos hk2] at hdd ho
                simp only [Bool.and_eq_true] at ho
                have HO4 := Lib.hid ho.2
                have HD4 := Lib.hid hdd
                clear hdd ho hza
                by_cases hd3 : d < 32
                · have hd3' : ¬ (32 : Int) < (d : Int) + 1 := by omega
                  have HD5 : Hid (deepN (d + 1) (l.drop (j + 1)) = deepN 0 l) := by
                    show _ = _
                    rw [← HD4.out]; simp [hd3]
                  go_wp2_with fail
                  go_roundg (gk - 1)
                  case measure => omega
                  case rel => exact ⟨j + 1, d + 1, opn2 ++ [t.name], _, _, by go_num, by go_num, by omega, by omega, by simp; omega, HZF, HO4, HD5, HW3⟩
                · have hd3' : (32 : Int) < (d : Int) + 1 := by omega
                  have HR6 : Hid (wholeN l = 6) := by
                    show _ = _
                    rw [HR.out, ← HD4.out]; simp [hd3]
                  go_wp2_with fail
                  go_ret
                  exact ⟨by rw [HR6.out]; rfl, HZF.out.old⟩
              · by_cases hk7 : t.kind = 7
                · have hza := HZA.out
                  rw [hk7] at hza
                  have HZF := Lib.hid hza.drop
                  have hdd := HD2.out
                  have ho := HO3.out
                  rw [if_neg hk2, if_pos hk7] at hdd ho
                  simp only [Bool.and_eq_true] at ho
                  have hd1 : 1 ≤ d := by
                    rw [← hod]
                    cases opn2 with
                    | nil => have := ho.1; cases this
                    | cons => simp
                  have HO4 := Lib.hid ho.2
                  have HD4 := Lib.hid hdd
                  have hd3' : ¬ (32 : Int) < (d : Int) - 1 := by omega
                  clear hdd ho hza
                  go_wp2_with fail
                  go_roundg (gk - 1)
                  case measure => omega
                  case rel => exact ⟨j + 1, d - 1, opn2.take (opn2.length - 1), _, _, by go_num, by go_num, by omega, by omega, by simp; omega, HZF, HO4, HD4, HW3⟩
                · have HZF := Lib.hid HZA.out.drop
                  have hdd := HD2.out
                  have ho := HO3.out
                  rw [if_neg hk2, if_neg hk7] at hdd ho
                  have HO4 : ∃ pt', Hid (okL isText opn2 en pt' (l.drop (j + 1)) = true) := by
                    by_cases hk4 : t.kind = 4
                    · rw [if_pos hk4] at ho
                      simp only [Bool.and_eq_true] at ho
                      exact ⟨_, ho.2⟩
                    · rw [if_neg hk4] at ho
                      exact ⟨_, ho⟩
                  obtain ⟨pt', HO4⟩ := HO4
                  have HD4 := Lib.hid hdd
                  have hd3' : ¬ (32 : Int) < (d : Int) := by omega
                  clear hdd ho
                  go_wp2_with fail
                  go_roundg (gk - 1)
                  case measure => omega
                  case rel => exact ⟨j + 1, d, opn2, _, _, rfl, by go_num, by omega, by omega, hod, HZF, HO4, HD4, HW3⟩
          · have hge : ¬ (j : Int) < (n : Int) := by omega
            have hd : l.drop j = [] := List.drop_eq_nil_of_le (by have := HN.out; omega)
            have hdd := HD.out
            have hww := HW.out
            rw [hd] at hdd hww
            have HR2 : Hid (wholeN l = 0) := by
              show _ = _
              rw [HR.out, ← hdd, ← hww]; simp [deepN, hn4]
            clear hdd hww hd
            go_wp2_with fail
            go_ret
            exact ⟨by rw [HR2.out]; rfl, HZ1.out.old⟩
      · have hN0 : N = 0 ∧ wholeN l = 0 := by
          by_cases hc : (deepN 0 l && !l.any wide && decide (l.length ≤ 4096)) = true
          · rw [if_pos hc] at hN
            refine ⟨?_, ?_⟩
            · split at hN <;> omega
            · rw [HR.out, HN.out, if_pos hc]
          · rw [if_neg hc] at hN; omega
        obtain ⟨rfl, hw0⟩ := hN0
        have HW0 := Lib.hid hw0
        clear hN hw0 hok h6
        go_wp2_with fail
        go_ret
        exact ⟨by rw [HW0.out]; rfl, HX.out.old⟩
    · have hn4' : (4096 : Int) < (n : Int) := by omega
      have hf : (deepN 0 l && !l.any wide && decide (l.length ≤ 4096)) = false := by rw [← HN.out]; simp [hn4]
      rw [hf] at hN
      have hN6 : N = 6 := hN.symm
      subst hN6
      have HW6 : Hid (wholeN l = 6) := by show _ = _; rw [HR.out]; simp [hn4]
      clear hN hok hf
      go_wp2_with fail
      go_ret
      exact ⟨by rw [HW6.out]; rfl, HX.out.old⟩
  · rw [if_neg hok] at hN
    subst hN
    have HW5 : Hid (wholeN l = 5) := by show _ = _; unfold wholeN; rw [if_neg hok]
    clear hok
    go_wp2_with fail
    go_ret
    exact ⟨by rw [HW5.out]; rfl, HX.out.old⟩
end
end Go.Proofs.YtahfcgjlcdbnjaaGreatDoor
/- xdm's Build: the tree of tokens. -/
namespace Go.Proofs.YtahfcgjlcdbnjaaGreatDoor
open Go.RowKit

def BuildPost (w : World) (r : Except Nat (List Nod)) (e : Ending) (w' : World) : Prop := match r with
  | .error n => n ≠ 0 ∧ e = .returned (.tuple #[.pointer none, .int .i64 n]) ∧ Below w.heap.size w w'
  | .ok ns => ∃ tp, e = .returned (.tuple #[.pointer (some ⟨tp, 0, none⟩), .int .i64 0]) ∧ Hold w w' [Tree tp ns]

theorem elemN_err {ns : List Nod} {k : Nat} {t : Tok} {m : Nat} (h : elemN ns k t = .error m) : m ≠ 0 := by
  unfold elemN at h
  split at h
  · cases h; decide
  · split at h
    · cases h; decide
    · split at h
      · cases h; decide
      · split at h
        · cases h; decide
        · cases h

theorem tokN_cons (ns : List Nod) (a : Int) (t : Tok) (l : List Tok) : tokN ns a (t :: l) =
    (if t.kind = 2 then match elemN ns a.toNat t with
      | .error e => .error e
      | .ok ns' => tokN ns' ns.length l
    else if t.kind = 7 then tokN ns (match ns[a.toNat]? with | some n => n.parent | none => 0) l
    else tokN (addN ns a t.kind [] [] t.name t.text []) a l) := rfl

section
variable {W w w' : World} {L : List Asn}

set_option maxHeartbeats 16000000 in
set_option maxRecDepth 100000 in
theorem build_any (g : Glob w) (l : List Tok) (v : Value) (hv : TokRow w v l) (hl : l.length ≤ 1048576) (hs : ∀ t ∈ l, SmallTok t) :
    Calls Tryz.prog 15 #[v] w fun e w' => BuildPost w (buildM l) e w' := by
  have HV := Lib.hid hv
  obtain ⟨aa, ac, rfl, hrow⟩ := hv
  obtain ⟨n, hn⟩ : ∃ n, n = l.length := ⟨_, rfl⟩
  rw [← hn] at hrow hl HV ⊢
  have HN := Lib.hid hn
  have HA := Lib.hid hrow
  have HS := Lib.hid hs
  have HG := Lib.hid g
  clear hn hrow hs g
  go_enter Tryz.func15, Tryz.ntmps15
  go_wp2_with fail
  refine (whole4_any HG.out l (.slice aa n ac) HV.out (by have := HN.out; omega) HS.out).mono ?_
  rintro e w1 ⟨rfl, hb⟩
  have HX := Lib.hid ((Hold.start w).below hb)
  clear hb
  obtain ⟨r, hr⟩ : ∃ r, r = wholeN l := ⟨_, rfl⟩
  rw [← hr]
  by_cases h0 : r = 0
  · have HW0 : Hid (wholeN l = 0) := by show _ = _; rw [← hr, h0]
    subst h0
    clear hr
    have hw := HW0.out
    unfold wholeN at hw
    have hok : okL isText [] false false l = true := by
      by_cases h : okL isText [] false false l = true
      · exact h
      · rw [if_neg h] at hw; cases hw
    rw [if_pos hok] at hw
    have hall : deepN 0 l = true ∧ l.any wide = false ∧ l.length ≤ 4096 := by
      by_cases h : (deepN 0 l && !l.any wide && decide (l.length ≤ 4096)) = true
      · simp only [Bool.and_eq_true, Bool.not_eq_true', decide_eq_true_eq] at h
        exact ⟨h.1.1, h.1.2, h.2⟩
      · rw [if_neg h] at hw; cases hw
    have HOK := Lib.hid hok
    have HWD : Hid (∀ t ∈ l, t.attrs.length ≤ 64) := by
      intro t ht
      have := List.any_eq_false.1 hall.2.1 t ht
      unfold wide at this
      simpa using this
    have hn4 : n ≤ 4096 := by have := HN.out; omega
    have HBM : Hid (buildM l = match tokN [rootN] 0 l with | .error e => .error e | .ok ns => .ok (endsN ns.length ns)) := by
      show _ = _
      unfold buildM treeN
      rw [if_pos HW0.out]
      cases tokN [rootN] 0 l <;> rfl
    clear hw hok hall
    have x1 := HX.out.alloc (.cells #[.slice none 0 0] 75)
    have HX1 : Hid (Hold w (w1.alloc (.cells #[.slice none 0 0] 75)) (Asn.pts w1.heap.size (.cells #[.slice none 0 0] 75 (0, 0)) :: Nodes (.slice none 0 0) [] :: [MapsA []])) := by
      have z : Hold w (w1.alloc (.cells #[.slice none 0 0] 75)) (Nodes (.slice none 0 0) [] :: MapsA [] :: Asn.pts w1.heap.size (.cells #[.slice none 0 0] 75 (0, 0)) :: []) := Row.nil (MapsA.nil x1)
      exact z.re [2, 0, 1]
    clear x1
    go_wp2_with fail
    refine (add4_any HX1.out (by simp) (fun p hp => by cases hp) (-1) (.inl (by decide)) (by decide) 1 [] [] [] [] [] none).mono ?_
    rintro e w2 ⟨rfl, v1, z⟩
    have Z0 := Lib.hid z
    clear z
    have HD0 : Hid (DeepOk [((nodAt [] (-1) 1 [] [] [] [] [], none) : NodM)]) := Lib.hid (DeepOk.snoc (l := []) (fun p hp => by cases hp) (-1) 1 [] [] [] [] [] none)
    have HM0 : Hid (([((nodAt [] (-1) 1 [] [] [] [] [], none) : NodM)]).map (·.1) = [rootN]) := rfl
    have HSC0 : Hid (ScsIn [((nodAt [] (-1) 1 [] [] [] [] [], none) : NodM)] []) := fun p hp => by
      rw [List.mem_singleton] at hp; subst hp; exact .inl ⟨rfl, rfl⟩
    go_wp2_with fail
    rename World => wo
    go_loopg [6, 23] n (fun gk v6 v23 wr => ∃ (j at_ : Nat) (v' : Value) (l' : List NodM) (ms' : List (Nat × Sc)) (opn : List Bytes) (en pt : Bool) (q : Nod), v6 = .int .i64 at_ ∧ v23 = .int .i64 j ∧ gk + j = n ∧ l'.length ≤ 1 + j * 65 ∧
      Hid (Good (l'.map (·.1))) ∧ Hid (DeepOk l') ∧ Hid (ScsIn l' ms') ∧ Hid ((l'.map (·.1))[at_]? = some q ∧ q.deep = opn.length) ∧ Hid (okL isText opn en pt (l.drop j) = true) ∧
      Hid (Hold w wr (Asn.pts w1.heap.size (.cells #[v'] 75 (0, 0)) :: Nodes v' l' :: [MapsA ms'])) ∧ Hid (tokN (l'.map (·.1)) at_ (l.drop j) = tokN [rootN] 0 l))
    case atStart => exact ⟨0, 0, v1, [(nodAt [] (-1) 1 [] [] [] [] [], none)], [], [], false, false, rootN, rfl, rfl, by omega, by simp, by rw [HM0.out]; exact Lib.hid Good.root, HD0, HSC0, Lib.hid ⟨rfl, rfl⟩, HOK, Z0, rfl⟩
    case round =>
      obtain ⟨j, at_, v', l', ms', opn, en, pt, q, rfl, rfl, hig, hlen, HGD, HDP, HSC, HQ, HO, HZ, HT⟩ := hrel
      by_cases hlt : j < n
      · have hlt' : (j : Int) < (n : Int) := by omega
        obtain ⟨t, ht⟩ : ∃ t, l[j]? = some t := ⟨_, List.getElem?_eq_getElem (by have := HN.out; omega)⟩
        have hmem : t ∈ l := List.mem_of_getElem? ht
        have hd : l.drop j = t :: l.drop (j + 1) := by
          have hj' : j < l.length := by have := HN.out; omega
          rw [List.drop_eq_getElem_cons hj', (List.getElem?_eq_some_iff.1 ht).2]
        have HST := Lib.hid (HS.out t hmem)
        have hwd := HWD.out t hmem
        have ho := HO.out
        have htt := HT.out
        rw [hd] at ho htt
        simp only [okL, Bool.and_eq_true] at ho
        have ho := ho.2
        have HO2 := Lib.hid ho
        have HT2 := Lib.hid htt
        obtain ⟨h, o, rfl, hcells⟩ := HA.out (by omega)
        obtain ⟨av, hta⟩ := hcells j t ht
        obtain ⟨ta, tc, hav, hat⟩ := hta.at_
        subst hav
        have HAT : Hid (AttrsAt w (.slice ta t.attrs.length tc) t.attrs) := ⟨ta, tc, rfl, hat⟩
        have hta := hta.keep HZ.out
        have c0 := hta.kind
        have c1 := hta.name
        have c2 := hta.attrs
        have c3 := hta.text
        have HZA := Lib.hid (HZ.out.alloc (.cells #[.int .i64 t.kind, str t.name, .slice ta t.attrs.length tc, str t.text] 38))
        have hatl : at_ < l'.length := by
          have := (List.getElem?_eq_some_iff.1 HQ.out.1).1
          simpa using this
        clear hta hcells hd ho htt ht hmem hat
        by_cases hk2 : t.kind = 2
        · have hel := element_any HG.out (HZA.out.re [1, 2, 3, 0]) at_ hatl HDP.out HSC.out t HST.out (by omega) _ HAT.out
          have hza := HZA.out
          have ho := HO2.out
          have htt := HT2.out
          rw [if_pos hk2] at ho
          rw [tokN_cons, if_pos hk2, Int.toNat_natCast] at htt
          simp only [Bool.and_eq_true] at ho
          rw [hk2] at hel
          have HEL := Lib.hid hel
          have HO3 := Lib.hid ho.2
          clear hel hza ho
          cases hem : elemN (l'.map (·.1)) at_ t with
          | error m =>
            rw [hem] at htt
            have HR : Hid (buildM l = .error m) := by show _ = _; rw [HBM.out, ← htt]
            have HM0' := Lib.hid (elemN_err hem)
            have hm0 : ((m : Int) != 0) = true := by have := elemN_err hem; simpa using this
            have HEM := Lib.hid hem
            clear htt hem
            go_wp2_with fail
            refine HEL.out.mono ?_
            rw [HEM.out]
            rintro e w5 ⟨rfl, z⟩
            have HF := Lib.hid z.old
            clear z
            go_wp2_with fail
            go_ret2
            rw [HR.out]
            exact ⟨HM0'.out, rfl, HF.out⟩
          | ok ns' =>
            rw [hem] at htt
            simp only [List.length_map] at htt
            have HT3 := Lib.hid htt
            obtain ⟨g1, g2, e', g3, g4⟩ := elemN_good HGD.out HQ.out.1 hem
            have HG1 := Lib.hid g1
            have HQ2 : Hid (ns'[l'.length]? = some e' ∧ e'.deep = (opn ++ [t.name]).length) := by
              refine ⟨by simpa using g3, ?_⟩
              rw [g4, HQ.out.2]; simp
            have HEM := Lib.hid hem
            clear htt hem g1 g2 g3 g4
            go_wp2_with fail
            refine HEL.out.mono ?_
            rw [HEM.out]
            rintro e w5 ⟨rfl, v2, l2, ms2, hm2, hsc2, hdp2, hlen2, z⟩
            have HF := Lib.hid ((z.re [3, 0, 1, 2]).drop)
            have HM2 := Lib.hid hm2
            have HSC2 := Lib.hid hsc2
            have HDP2 := Lib.hid hdp2
            clear z hm2 hsc2 hdp2
            go_wp2_with fail
            go_roundg (gk - 1)
            case measure => omega
            case rel => exact ⟨j + 1, l'.length, v2, l2, ms2, opn ++ [t.name], _, _, e', rfl, by go_num, by omega, by omega, by rw [HM2.out]; exact HG1, HDP2, HSC2, by rw [HM2.out]; exact HQ2, HO3, HF, by rw [HM2.out]; exact HT3⟩
        · by_cases hk7 : t.kind = 7
          · have hza := HZA.out
            have ho := HO2.out
            have htt := HT2.out
            rw [if_neg hk2, if_pos hk7] at ho
            rw [tokN_cons, if_neg hk2, if_pos hk7, Int.toNat_natCast, HQ.out.1] at htt
            simp only [Bool.and_eq_true] at ho
            simp only at htt
            have HO3 := Lib.hid ho.2
            have hop : 1 ≤ opn.length := by
              cases opn with
              | nil => have := ho.1; cases this
              | cons => simp
            obtain ⟨_, _, hpu, hpq⟩ := HGD.out at_ q HQ.out.1
            obtain ⟨k2, q2, hk2', hq2, hd2⟩ : ∃ (k2 : Nat) (q2 : Nod), q.parent = k2 ∧ (l'.map (·.1))[k2]? = some q2 ∧ q2.deep = (opn.take (opn.length - 1)).length := by
              rcases hpq with ⟨_, h⟩ | ⟨h1, q2, h2, h3⟩
              · have := HQ.out.2; omega
              · refine ⟨q.parent.toNat, q2, by omega, h2, ?_⟩
                have := HQ.out.2
                simp; omega
            obtain ⟨p, hp⟩ : ∃ p, l'[at_]? = some p := ⟨_, List.getElem?_eq_getElem hatl⟩
            obtain ⟨nd, mo⟩ := p
            have hndq : nd = q := by
              have := HQ.out.1
              rw [List.getElem?_map, hp] at this
              exact Option.some.inj this
            subst hndq
            rw [hk7] at hza
            obtain ⟨gg, c, hsl, h1, h2, hcl⟩ := Nodes.read (hza.re [2, 0, 1, 3]) (by omega)
            subst hsl
            have cp := hcl at_ 6 nd mo (.int .i64 nd.parent) hp rfl
            have ct := (hza.re [1, 0, 2, 3]).cell 0
            rw [hk2'] at cp htt
            have hatl' : (at_ : Int) < (l'.length : Int) := by omega
            have HT3 := Lib.hid htt
            have HQ2 : Hid ((l'.map (·.1))[k2]? = some q2 ∧ q2.deep = (opn.take (opn.length - 1)).length) := ⟨hq2, hd2⟩
            have HF := Lib.hid hza.drop
            clear hza ho htt hpu hpq hk2' hq2 hd2 hp hcl
            go_wp2_with fail
            go_roundg (gk - 1)
            case measure => omega
            case rel => exact ⟨j + 1, k2, _, l', ms', opn.take (opn.length - 1), _, _, q2, rfl, by go_num, by omega, by omega, HGD, HDP, HSC, HQ2, HO3, HF, HT3⟩
          · have ho := HO2.out
            have htt := HT2.out
            rw [if_neg hk2, if_neg hk7] at ho
            rw [tokN_cons, if_neg hk2, if_neg hk7] at htt
            have HO3 : ∃ pt', Hid (okL isText opn en pt' (l.drop (j + 1)) = true) := by
              by_cases hk4 : t.kind = 4
              · rw [if_pos hk4] at ho
                simp only [Bool.and_eq_true] at ho
                exact ⟨_, ho.2⟩
              · rw [if_neg hk4] at ho
                exact ⟨_, ho⟩
            obtain ⟨pt', HO3⟩ := HO3
            rw [addN_map l' at_ t.kind [] [] t.name t.text [] none] at htt
            have HT3 := Lib.hid htt
            have HG1 : Hid (Good ((l' ++ [((nodAt l' at_ t.kind [] [] t.name t.text [], none) : NodM)]).map (·.1))) := by
              show Good _
              rw [← addN_map]
              exact HGD.out.add HQ.out.1 _ _ _ _ _ _
            have HQ2 : Hid (((l' ++ [((nodAt l' at_ t.kind [] [] t.name t.text [], none) : NodM)]).map (·.1))[at_]? = some q ∧ q.deep = opn.length) := by
              refine ⟨?_, HQ.out.2⟩
              rw [List.map_append, List.getElem?_append_left (by simpa using hatl)]
              exact HQ.out.1
            have HS1 : Hid (ScsIn (l' ++ [((nodAt l' at_ t.kind [] [] t.name t.text [], none) : NodM)]) ms') := HSC.out.snoc (.inl ⟨rfl, rfl⟩)
            have HD1 : Hid (DeepOk (l' ++ [((nodAt l' at_ t.kind [] [] t.name t.text [], none) : NodM)])) := HDP.out.snoc at_ t.kind [] [] t.name t.text [] none
            clear ho htt
            go_wp2_with fail
            refine (add4_any (HZA.out.re [1, 2, 3, 0]) (by omega) HDP.out (at_ : Int) (.inr ⟨at_, rfl, hatl⟩) (by omega) t.kind [] [] t.name t.text [] none).mono ?_
            rintro e w5 ⟨rfl, v2, z⟩
            have HF := Lib.hid ((z.re [3, 0, 1, 2]).drop)
            clear z
            go_wp2_with fail
            go_roundg (gk - 1)
            case measure => omega
            case rel => exact ⟨j + 1, at_, v2, _, ms', opn, en, pt', q, rfl, by go_num, by omega, by simp; omega, HG1, HD1, HS1, HQ2, HO3, HF, HT3⟩
      · have hge : ¬ (j : Int) < (n : Int) := by omega
        have hd : l.drop j = [] := List.drop_eq_nil_of_le (by have := HN.out; omega)
        have ht := HT.out
        rw [hd] at ht
        have HT2 : Hid (tokN [rootN] 0 l = .ok (l'.map (·.1))) := by show _ = _; rw [← ht]; unfold tokN; rfl
        have hup := Good.up HGD.out
        have hpos : 0 < l'.length := by
          have := (List.getElem?_eq_some_iff.1 HQ.out.1).1
          simp at this; omega
        have HUP := Lib.hid hup
        clear ht hd hup
        go_wp2_with fail
        refine (ends_any HZ.out (by omega) hpos HUP.out.1 HUP.out.2).mono ?_
        rintro e w5 ⟨rfl, l2, hm, hsame, z⟩
        have HR : Hid (buildM l = .ok (l2.map (·.1))) := by show _ = _; rw [HBM.out, HT2.out, hm]; simp
        have HF := Lib.hid (Tree.mk (hsame.scs HSC.out) z)
        clear hm hsame z
        go_wp2_with fail
        go_ret2
        rw [HR.out]
        exact ⟨_, rfl, HF.out⟩
  · have HR : Hid (buildM l = .error r) := by show _ = _; unfold buildM; rw [← hr, if_neg h0]
    have hr0 : ((r : Int) != 0) = true := by simpa using h0
    have HR0 := Lib.hid h0
    clear hr h0
    go_wp2_with fail
    go_ret2
    rw [HR.out]
    exact ⟨HR0.out, rfl, HX.out.old⟩
end
end Go.Proofs.YtahfcgjlcdbnjaaGreatDoor
