/- Scan: a text's tokens. -/
import Derived.Test.YtahfcgjlcdbnjaaGreatDoorMAll
import Derived.Carry
namespace Go.Proofs.YtahfcgjlcdbnjaaGreatDoor
open Go.RowKit

section
variable {W w : World} {L : List Asn}

/-- How Scan ends that answers r. -/
def ScanPost (W : World) (L : List Asn) : Except (Int × Int) (List Tok) → Ending → World → Prop
  | .ok l, e, w' => ∃ v, e = .returned (.tuple #[v, .int .i64 0, .int .i64 0]) ∧ Hold W w' (Toks v l :: L)
  | .error (en, p), e, w' => e = .returned (.tuple #[.slice none 0 0, .int .i64 en, .int .i64 p]) ∧ Hold W w' L

theorem Inv.start {s : ByteArray} (h : s.size ≤ 32768) : Inv s St.start :=
  ⟨⟨h, Nat.zero_le _, Nat.zero_le _, Nat.zero_le _, Nat.zero_le _, Nat.zero_le _, Nat.zero_le _⟩, (fun p hp => by cases hp), Nat.zero_le _⟩

set_option maxHeartbeats 4000000 in
set_option maxRecDepth 100000 in
theorem scan_any (g : Glob W) (l : Bytes) (hl : l.length ≤ 9223372036854775807) (x : Hold W w L) (hnw : scan l ≠ .error wild) :
    Calls Tryz.prog 32 #[str l] w (ScanPost W L (scan l)) := by
  have HX := Lib.hid x
  have HG := Lib.hid g
  have HNW := Lib.hid hnw
  have hmm := @run_makeMap Tryz.prog
  by_cases hlim : 32768 < l.length
  · have hs : scan l = .error (6, 0) := by unfold scan; rw [if_pos hlim]
    have HS := Lib.hid hs
    have hlim' : (32768 : Int) < (l.length : Int) := by omega
    clear x g hnw hs hlim hmm
    go_enter Tryz.func32, Tryz.ntmps32
    go_wp2_with fail
    go_ret3
    rw [HS.out]
    exact ⟨rfl, HX.out⟩
  · have hs : scan l = (match badAt l.length l 0 with
      | some p => .error (4, (p : Int))
      | none => match whole ⟨l.toArray⟩ St.start with
        | .error x => .error x
        | .ok (_, σ) => .ok σ.toks) := by unfold scan; rw [if_neg hlim]; rfl
    obtain ⟨tot, htot⟩ : ∃ r, badAt l.length l 0 = r := ⟨_, rfl⟩
    have HTT := Lib.hid htot
    rw [htot] at hs
    have HS := Lib.hid hs
    have hlim' : ¬ (32768 : Int) < (l.length : Int) := by omega
    clear x g hnw hs htot
    go_enter Tryz.func32, Tryz.ntmps32
    go_wp2_with fail
    go_loopg [] l.length (fun gk wr => ∃ p : Nat, Hold W wr (Asn.pts w.heap.size (.stringIter ⟨l.toArray⟩ p) :: L) ∧ l.length ≤ gk + p ∧ p ≤ l.length ∧ Hid (badAt gk (l.drop p) p = tot))
    case atStart => exact ⟨0, HX.out.allocAt rfl rfl, by omega, by omega, HTT⟩
    case round =>
      obtain ⟨p, z, hk, hpl, HB⟩ := hrel
      have HZ := Lib.hid z
      by_cases hp : p < l.length
      · obtain ⟨n, rfl⟩ : ∃ n, gk = n + 1 := ⟨gk - 1, by omega⟩
        obtain ⟨w2, hnx, z2⟩ := run_next z (by simpa [ByteArray.size] using hp)
        rw [decode_list] at hnx z2
        have hne : l.drop p ≠ [] := by simp; omega
        have hle := Lib.decodeL_le _ hne
        rw [List.length_drop] at hle
        have hw1 := Lib.decodeL_width (l.drop p)
        have hru := Lib.decodeL_rune (l.drop p)
        have hbv : badAt (n + 1) (l.drop p) p = tot := HB.out
        simp only [badAt] at hbv
        rw [if_neg hne, List.drop_drop] at hbv
        have hdec : dec (l.drop p) = Lib.decodeL (l.drop p) := by unfold dec; rw [if_neg hne]
        have HDC := Lib.hid hdec
        generalize Lib.decodeL (l.drop p) = d at *
        obtain ⟨r, wd⟩ := d
        have HBV := Lib.hid hbv
        have HZ2 := Lib.hid z2
        have hex : (⟨l.toArray⟩ : ByteArray).extract p l.length = ⟨(l.drop p).toArray⟩ := extract_tail l p
        have HEX := Lib.hid hex
        have hru : r ≤ 1114111 := hru
        have hle : wd ≤ l.length - p := hle
        have hw1 : 1 ≤ wd := hw1
        clear z z2 hne hbv hdec hex
        go_wp2_with fail
        rw [HEX.out]
        refine (decode_any (HG.out.carry HZ2.out) (Hold.start w2) (l.drop p)).mono ?_
        rw [HDC.out]
        rintro e w3 ⟨rfl, hb⟩
        have HZ3 := Lib.hid (HZ2.out.below hb)
        clear hb
        go_wp2_with fail
        refine (isChar_any r w3 (by omega)).mono ?_
        rintro e w4 ⟨rfl, hb⟩
        have HZ4 := Lib.hid (HZ3.out.below hb)
        clear hb
        cases hic : isChar (r : Int)
        · have hbv := HBV.out
          have hic' : isChar ((r, wd).1 : Int) = false := hic
          rw [if_pos (by simp [hic'])] at hbv
          have HBS := Lib.hid hbv
          clear hbv hic hic'
          go_wp2_with fail
          go_ret3
          rw [HS.out, ← HBS.out]
          exact ⟨rfl, HZ4.out.drop⟩
        · have HIC := Lib.hid hic
          have hcont : ∀ (h : (r == 65533 && wd == 1) = false), badAt n (l.drop (p + wd)) (p + wd) = tot := fun h => by
            have hbv := HBV.out
            have hic' : isChar ((r, wd).1 : Int) = true := hic
            rw [if_neg (by simp only [hic', Bool.not_true, Bool.false_or]; rw [h]; simp)] at hbv
            exact hbv
          have HCO := Lib.hid hcont
          clear hcont hic
          by_cases h65 : r = 65533
          · have h65' : ((r : Int) == 65533) = true := by rw [h65]; rfl
            by_cases hw : wd = 1
            · have hw' : ((wd : Int) == 1) = true := by rw [hw]; rfl
              have hbv := HBV.out
              rw [if_pos (by simp [h65, hw])] at hbv
              have HBS := Lib.hid hbv
              clear hbv h65 hw
              go_wp2_with fail
              go_ret3
              rw [HS.out, ← HBS.out]
              exact ⟨rfl, HZ4.out.drop⟩
            · have hw' : ((wd : Int) == 1) = false := by rw [beq_eq_false_iff_ne]; omega
              have HN : Hid (badAt n (l.drop (p + wd)) (p + wd) = tot) := HCO.out (by simp [hw])
              clear h65 hw
              go_wp2_with fail
              go_roundg n
              case measure => omega
              case rel => exact ⟨p + wd, HZ4.out, by omega, by omega, HN⟩
          · have h65' : ((r : Int) == 65533) = false := by rw [beq_eq_false_iff_ne]; omega
            have HN : Hid (badAt n (l.drop (p + wd)) (p + wd) = tot) := HCO.out (by simp [h65])
            clear h65
            go_wp2_with fail
            go_roundg n
            case measure => omega
            case rel => exact ⟨p + wd, HZ4.out, by omega, by omega, HN⟩
      · have hov := run_over z (by simpa [ByteArray.size] using hp)
        have hbn : tot = none := by
          have hd : l.drop p = [] := by simp; omega
          rw [← HB.out, hd]
          cases gk <;> rfl
        have hs := HS.out
        rw [hbn] at hs
        have HS2 := Lib.hid hs
        clear z hs hbn
        go_wp2_with fail
        have y := (HZ.out.drop.alloc (.map #[] 0)).allocAt (o := .cells (scnCells ⟨l.toArray⟩ St.start (.slice none 0 0) (.slice none 0 0) (.pointer none) (.slice none 0 0) wr.heap.size) 116) (b := wr.heap.size + 1) rfl (by simp)
        have y := Ents.mk (l := []) (es := #[]) (c := 0) rfl y.f1
        have y := Row.nil (e := 5) (size := 1) y
        have y := Row.nil (e := 9) (size := 1) y
        have y := Toks.mk (v := .slice none 0 0) (l := []) (avs := []) rfl (Row.nil (e := 38) (size := 4) y.emp')
        have y := Scn.mk (σ := St.start) (s := ⟨l.toArray⟩) (.inl rfl) (y.re [4, 0, 1, 2, 3])
        have hne : whole ⟨l.toArray⟩ St.start ≠ .error wild := by
          intro hc
          exact HNW.out (by rw [HS2.out, hc])
        refine (all_any HG.out y (Inv.start (by simp [ByteArray.size]; omega)) hne).mono ?_
        intro e w5 hpost
        cases hq : whole ⟨l.toArray⟩ St.start with
        | error er =>
          obtain ⟨en, ep⟩ := er
          rw [hq] at hpost
          obtain ⟨rfl, z⟩ := hpost
          have HQ := Lib.hid hq
          have HZ5 := Lib.hid z
          clear hq z y hne
          go_wp2_with fail
          go_ret3
          rw [HS2.out, HQ.out]
          exact ⟨rfl, HZ5.out⟩
        | ok r =>
          obtain ⟨_, σz⟩ := r
          rw [hq] at hpost
          obtain ⟨v, rfl, z⟩ := hpost
          have HQ := Lib.hid hq
          have HZ5 := Lib.hid z
          clear hq z y hne
          go_wp2_with fail
          go_ret3
          rw [HS2.out, HQ.out]
          exact ⟨v, rfl, HZ5.out⟩
end
end Go.Proofs.YtahfcgjlcdbnjaaGreatDoor
/- The reading of tokens. -/
namespace Go.Proofs.YtahfcgjlcdbnjaaGreatDoor
open Go.RowKit

section
variable {W w : World} {L : List Asn}

/-- One of many pieces. -/
theorem Hold.pick {A : Asn} : ∀ {As : List Asn}, A ∈ As → Hold W w (Asn.all As :: L) → ∃ L', Hold W w (A :: L') := by
  intro As hA x
  obtain ⟨pre, post, rfl⟩ := List.append_of_mem hA
  have y := x.spill
  rw [List.append_assoc] at y
  exact ⟨pre ++ (post ++ L), y.perm (by simp)⟩

theorem Row.read {e : TypeId} {size n : Nat} {v : Value} {xs : List Value} (x : Hold W w (Row e size v n xs :: L)) (hn : 0 < n) :
    ∃ g c, v = .slice (some ⟨g, 0, none⟩) n c ∧ n ≤ c ∧ c ≤ maxLen ∧ ∀ k u, xs[k]? = some u → w.cell? ⟨g, k, none⟩ = some u := by
  obtain ⟨hl, h⟩ := Row.cases x
  rcases h with ⟨_, h0, _⟩ | ⟨g, cap, cur, rfl, h4, h5, h6, h7, y⟩
  · omega
  · refine ⟨g, cap, rfl, h4, h5, fun k u hu => ?_⟩
    rw [y.cell]
    rw [← h7, List.getElem?_take] at hu
    split at hu
    · simpa using hu
    · cases hu

theorem flatMap_at {α β : Type} (f : α → List β) (m : Nat) (hf : ∀ a, (f a).length = m) : ∀ (l : List α) (i j : Nat), j < m → (l.flatMap f)[i * m + j]? = (l[i]?).bind fun a => (f a)[j]?
  | [], i, j, _ => by simp
  | a :: l, 0, j, h => by
    rw [List.flatMap_cons, List.getElem?_append_left (by rw [hf]; omega)]
    simp
  | a :: l, i + 1, j, h => by
    rw [List.flatMap_cons, List.getElem?_append_right (by rw [hf, Nat.add_mul]; omega)]
    have := flatMap_at f m hf l i j h
    rw [hf, show (i + 1) * m + j - m = i * m + j by rw [Nat.add_mul]; omega, this]
    simp

theorem Toks.read {v : Value} {l : List Tok} (x : Hold W w (Toks v l :: L)) (hn : 0 < l.length) :
    ∃ g c, ∃ avs : List Value, v = .slice (some ⟨g, 0, none⟩) l.length c ∧ l.length ≤ c ∧ c ≤ maxLen ∧ avs.length = l.length ∧
      (∀ i t a, l[i]? = some t → avs[i]? = some a → w.cell? ⟨g, i * 4, none⟩ = some (.int .i64 t.kind) ∧ w.cell? ⟨g, i * 4 + 1, none⟩ = some (str t.name) ∧
        w.cell? ⟨g, i * 4 + 2, none⟩ = some a ∧ w.cell? ⟨g, i * 4 + 3, none⟩ = some (str t.text)) ∧
      (∀ (i : Nat) (t : Tok) (a : Value), l[i]? = some t → avs[i]? = some a → 0 < t.attrs.length → ∃ h d, a = Value.slice (some ⟨h, 0, none⟩) t.attrs.length d ∧ t.attrs.length ≤ d ∧ d ≤ maxLen ∧
        ∀ (j : Nat) (p : Bytes × Bytes), t.attrs[j]? = some p → w.cell? ⟨h, j * 2, none⟩ = some (str p.1) ∧ w.cell? ⟨h, j * 2 + 1, none⟩ = some (str p.2)) := by
  obtain ⟨avs, hav, y⟩ := Toks.out x
  obtain ⟨g, c, hv, hc1, hc2, hcell⟩ := Row.read y hn
  have hz : ∀ (i : Nat) (t : Tok) (a : Value), l[i]? = some t → avs[i]? = some a → (l.zip avs)[i]? = some (t, a) := by
    intro i t a h1 h2
    rw [List.getElem?_zip_eq_some]
    exact ⟨h1, h2⟩
  refine ⟨g, c, avs, hv, hc1, hc2, hav, ?_, ?_⟩
  · intro i t a h1 h2
    have hfm := fun j (hj : j < 4) => flatMap_at (fun p : Tok × Value => tokCells p.1 p.2) 4 (fun _ => rfl) (l.zip avs) i j hj
    have hz := hz i t a h1 h2
    refine ⟨hcell (i * 4) _ ?_, hcell (i * 4 + 1) _ ?_, hcell (i * 4 + 2) _ ?_, hcell (i * 4 + 3) _ ?_⟩
    · have := hfm 0 (by decide); rw [hz] at this; simpa [tokCells] using this
    · have := hfm 1 (by decide); rw [hz] at this; simpa [tokCells] using this
    · have := hfm 2 (by decide); rw [hz] at this; simpa [tokCells] using this
    · have := hfm 3 (by decide); rw [hz] at this; simpa [tokCells] using this
  · intro i t a h1 h2 hp
    have hz := hz i t a h1 h2
    have hmem : Attrs a t.attrs ∈ (l.zip avs).map fun p => Attrs p.2 p.1.attrs := List.mem_map.2 ⟨(t, a), List.mem_of_getElem? hz, rfl⟩
    obtain ⟨L', z⟩ := Hold.pick hmem y.f1
    obtain ⟨h, d, ha, hd1, hd2, hcl⟩ := Row.read z hp
    refine ⟨h, d, ha, hd1, hd2, fun j p hj => ⟨hcl (j * 2) _ ?_, hcl (j * 2 + 1) _ ?_⟩⟩
    · have := flatMap_at pairCells 2 (fun _ => rfl) t.attrs j 0 (by decide); rw [hj] at this; simpa [pairCells] using this
    · have := flatMap_at pairCells 2 (fun _ => rfl) t.attrs j 1 (by decide); rw [hj] at this; simpa [pairCells] using this
end
end Go.Proofs.YtahfcgjlcdbnjaaGreatDoor
