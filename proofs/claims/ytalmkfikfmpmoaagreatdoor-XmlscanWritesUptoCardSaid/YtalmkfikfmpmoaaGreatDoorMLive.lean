/- live: what must be whatever is asked; the reading of tokens. -/
import Derived.Test.YtalmkfikfmpmoaaGreatDoorMScan
namespace Go.Proofs.YtalmkfikfmpmoaaGreatDoor
open Go.RowKit

section
variable {W w : World} {L : List Asn}

/-- One of many pieces. -/
theorem Hold.pick {A : Asn} : ∀ {As : List Asn}, A ∈ As → Hold W w (Asn.all As :: L) → ∃ L', Hold W w (A :: L') := by
  intro As hA x
  obtain ⟨pre, post, rfl⟩ := List.append_of_mem hA
  have y := x.spill
  rw [List.append_assoc] at y
  exact ⟨pre ++ (post ++ L), y.perm (by simp)⟩

theorem Row.read {e : TypeId} {size n : Nat} {v : Value} {xs : List Value} (x : Hold W w (Row e size v n xs :: L)) (hn : 0 < n) :
    ∃ g c, v = .slice (some ⟨g, 0, none⟩) n c ∧ n ≤ c ∧ c ≤ maxLen ∧ ∀ k u, xs[k]? = some u → w.cell? ⟨g, k, none⟩ = some u := by
  obtain ⟨hl, h⟩ := Row.cases x
  rcases h with ⟨_, h0, _⟩ | ⟨g, cap, cur, rfl, h4, h5, h6, h7, y⟩
  · omega
  · refine ⟨g, cap, rfl, h4, h5, fun k u hu => ?_⟩
    rw [y.cell]
    rw [← h7, List.getElem?_take] at hu
    split at hu
    · simpa using hu
    · cases hu

theorem flatMap_at {α β : Type} (f : α → List β) (m : Nat) (hf : ∀ a, (f a).length = m) : ∀ (l : List α) (i j : Nat), j < m → (l.flatMap f)[i * m + j]? = (l[i]?).bind fun a => (f a)[j]?
  | [], i, j, _ => by simp
  | a :: l, 0, j, h => by
    rw [List.flatMap_cons, List.getElem?_append_left (by rw [hf]; omega)]
    simp
  | a :: l, i + 1, j, h => by
    rw [List.flatMap_cons, List.getElem?_append_right (by rw [hf, Nat.add_mul]; omega)]
    have := flatMap_at f m hf l i j h
    rw [hf, show (i + 1) * m + j - m = i * m + j by rw [Nat.add_mul]; omega, this]
    simp

theorem Toks.read {v : Value} {l : List Tok} (x : Hold W w (Toks v l :: L)) (hn : 0 < l.length) :
    ∃ g c, ∃ avs : List Value, v = .slice (some ⟨g, 0, none⟩) l.length c ∧ l.length ≤ c ∧ c ≤ maxLen ∧ avs.length = l.length ∧
      (∀ i t a, l[i]? = some t → avs[i]? = some a → w.cell? ⟨g, i * 4, none⟩ = some (.int .i64 t.kind) ∧ w.cell? ⟨g, i * 4 + 1, none⟩ = some (str t.name) ∧
        w.cell? ⟨g, i * 4 + 2, none⟩ = some a ∧ w.cell? ⟨g, i * 4 + 3, none⟩ = some (str t.text)) ∧
      (∀ (i : Nat) (t : Tok) (a : Value), l[i]? = some t → avs[i]? = some a → 0 < t.attrs.length → ∃ h d, a = Value.slice (some ⟨h, 0, none⟩) t.attrs.length d ∧ t.attrs.length ≤ d ∧ d ≤ maxLen ∧
        ∀ (j : Nat) (p : Bytes × Bytes), t.attrs[j]? = some p → w.cell? ⟨h, j * 2, none⟩ = some (str p.1) ∧ w.cell? ⟨h, j * 2 + 1, none⟩ = some (str p.2)) := by
  obtain ⟨avs, hav, y⟩ := Toks.out x
  obtain ⟨g, c, hv, hc1, hc2, hcell⟩ := Row.read y hn
  have hz : ∀ (i : Nat) (t : Tok) (a : Value), l[i]? = some t → avs[i]? = some a → (l.zip avs)[i]? = some (t, a) := by
    intro i t a h1 h2
    rw [List.getElem?_zip_eq_some]
    exact ⟨h1, h2⟩
  refine ⟨g, c, avs, hv, hc1, hc2, hav, ?_, ?_⟩
  · intro i t a h1 h2
    have hfm := fun j (hj : j < 4) => flatMap_at (fun p : Tok × Value => tokCells p.1 p.2) 4 (fun _ => rfl) (l.zip avs) i j hj
    have hz := hz i t a h1 h2
    refine ⟨hcell (i * 4) _ ?_, hcell (i * 4 + 1) _ ?_, hcell (i * 4 + 2) _ ?_, hcell (i * 4 + 3) _ ?_⟩
    · have := hfm 0 (by decide); rw [hz] at this; simpa [tokCells] using this
    · have := hfm 1 (by decide); rw [hz] at this; simpa [tokCells] using this
    · have := hfm 2 (by decide); rw [hz] at this; simpa [tokCells] using this
    · have := hfm 3 (by decide); rw [hz] at this; simpa [tokCells] using this
  · intro i t a h1 h2 hp
    have hz := hz i t a h1 h2
    have hmem : Attrs a t.attrs ∈ (l.zip avs).map fun p => Attrs p.2 p.1.attrs := List.mem_map.2 ⟨(t, a), List.mem_of_getElem? hz, rfl⟩
    obtain ⟨L', z⟩ := Hold.pick hmem y.f1
    obtain ⟨h, d, ha, hd1, hd2, hcl⟩ := Row.read z hp
    refine ⟨h, d, ha, hd1, hd2, fun j p hj => ⟨hcl (j * 2) _ ?_, hcl (j * 2 + 1) _ ?_⟩⟩
    · have := flatMap_at pairCells 2 (fun _ => rfl) t.attrs j 0 (by decide); rw [hj] at this; simpa [pairCells] using this
    · have := flatMap_at pairCells 2 (fun _ => rfl) t.attrs j 1 (by decide); rw [hj] at this; simpa [pairCells] using this

def liveDoc : Bytes := [60, 97, 32, 98, 61, 39, 49, 39, 62, 120, 38, 108, 116, 59, 60, 33, 45, 45, 99, 45, 45, 62, 60, 47, 97, 62]
def liveToks : List Tok := [⟨2, [97], [([98], [49])], []⟩, ⟨4, [], [], [120, 60]⟩, ⟨5, [], [], [99]⟩, ⟨7, [97], [], []⟩]
set_option maxRecDepth 100000 in
theorem scan_live : scan liveDoc = .ok liveToks := by kernel_rfl

set_option maxHeartbeats 2000000 in
set_option maxRecDepth 100000 in
theorem live_any (g : Glob W) (x : Hold W w L) :
    Calls Tryz.prog 11 #[] w fun e w' => e = .returned (.bool true) ∧ Hold W w' L := by
  have HX := Lib.hid x
  have HG := Lib.hid g
  clear x g
  go_enter Tryz.func11, Tryz.ntmps11
  go_wp2_with fail
  refine (scan_any HG.out liveDoc (by decide) HX.out (by rw [scan_live]; simp)).mono ?_
  rw [scan_live]
  rintro e w1 ⟨v, rfl, z⟩
  obtain ⟨gb, c, avs, rfl, hc1, hc2, hal, hcell, hatt⟩ := Toks.read z (by decide)
  match avs, hal with
  | [a0, a1, a2, a3], _ =>
    obtain ⟨c00, c01, c02, c03⟩ := hcell 0 _ a0 rfl rfl
    obtain ⟨c10, c11, c12, c13⟩ := hcell 1 _ a1 rfl rfl
    obtain ⟨c20, c21, c22, c23⟩ := hcell 2 _ a2 rfl rfl
    obtain ⟨c30, c31, c32, c33⟩ := hcell 3 _ a3 rfl rfl
    obtain ⟨ha, da, rfl, hd1, hd2, hat⟩ := hatt 0 _ a0 rfl rfl (by decide)
    obtain ⟨d0, d1⟩ := hat 0 _ rfl
    simp only [Nat.zero_mul, Nat.one_mul, Nat.zero_add, Nat.reduceMul, Nat.reduceAdd] at c00 c01 c02 c03 c10 c13 c20 c30 d0 d1
    have HZ := Lib.hid z
    clear z hcell hatt hat c11 c12 c21 c22 c23 c31 c32 c33 c01 c03
    go_wp2_with fail
    go_ret
    exact ⟨rfl, HZ.out.drop⟩
end
end Go.Proofs.YtalmkfikfmpmoaaGreatDoor

