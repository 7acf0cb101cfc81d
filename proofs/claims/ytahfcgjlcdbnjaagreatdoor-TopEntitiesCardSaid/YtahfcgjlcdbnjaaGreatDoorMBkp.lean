/- What Write answers, case by case; scanned tokens as a row. -/
import Derived.Test.YtahfcgjlcdbnjaaGreatDoorMWid
import Derived.Test.YtahfcgjlcdbnjaaGreatDoorMWrt
namespace Go.Proofs.YtahfcgjlcdbnjaaGreatDoor
open Go.RowKit

section
variable {W w : World} {L : List Asn}

theorem TokRow.of {v : Value} {l : List Tok} (x : Hold W w (Toks v l :: L)) : TokRow w v l := by
  obtain ⟨avs, hav, y⟩ := Toks.out x
  obtain ⟨a, c, hsl⟩ := Row.slice y
  refine ⟨a, c, hsl, fun hn => ?_⟩
  obtain ⟨g, c2, hv, hc1, hc2, hcell⟩ := Row.read y hn
  rw [hsl] at hv
  cases hv
  refine ⟨g, 0, rfl, fun i t h1 => ?_⟩
  have hil : i < l.length := (List.getElem?_eq_some_iff.1 h1).1
  obtain ⟨a, h2⟩ : ∃ a, avs[i]? = some a := ⟨_, List.getElem?_eq_getElem (by omega)⟩
  have hz : (l.zip avs)[i]? = some (t, a) := by rw [List.getElem?_zip_eq_some]; exact ⟨h1, h2⟩
  have hfm := fun j (hj : j < 4) => flatMap_at (fun p : Tok × Value => tokCells p.1 p.2) 4 (fun _ => rfl) (l.zip avs) i j hj
  have hmem : Attrs a t.attrs ∈ (l.zip avs).map fun p => Attrs p.2 p.1.attrs := List.mem_map.2 ⟨(t, a), List.mem_of_getElem? hz, rfl⟩
  obtain ⟨L', z⟩ := Hold.pick hmem y.f1
  refine ⟨a, ?_, ?_, ?_, ?_, ?_⟩
  · rw [Nat.zero_add]; refine hcell (i * 4) _ ?_; have := hfm 0 (by decide); rw [hz] at this; simpa [tokCells] using this
  · rw [Nat.zero_add]; refine hcell (i * 4 + 1) _ ?_; have := hfm 1 (by decide); rw [hz] at this; simpa [tokCells] using this
  · rw [Nat.zero_add]; refine hcell (i * 4 + 2) _ ?_; have := hfm 2 (by decide); rw [hz] at this; simpa [tokCells] using this
  · rw [Nat.zero_add]; refine hcell (i * 4 + 3) _ ?_; have := hfm 3 (by decide); rw [hz] at this; simpa [tokCells] using this
  · obtain ⟨ea, ec, he⟩ := Row.slice z
    refine ⟨ea, ec, he, fun hp => ?_⟩
    obtain ⟨h, d, ha, hd1, hd2, hcl⟩ := Row.read z hp
    rw [he] at ha
    cases ha
    refine ⟨h, 0, rfl, fun j p hj => ?_⟩
    rw [Nat.zero_add]
    refine ⟨hcl (j * 2) _ ?_, hcl (j * 2 + 1) _ ?_⟩
    · have := flatMap_at pairCells 2 (fun _ => rfl) t.attrs j 0 (by decide); rw [hj] at this; simpa [pairCells] using this
    · have := flatMap_at pairCells 2 (fun _ => rfl) t.attrs j 1 (by decide); rw [hj] at this; simpa [pairCells] using this

theorem right_attrs {t : Tok} (h : right isText t = true) : t.kind = 2 ∨ t.attrs = [] := by
  unfold right at h
  simp only [Bool.and_eq_true, Bool.or_eq_true, beq_iff_eq, List.isEmpty_iff] at h
  exact h.1.2

theorem writeR_cases (l : List Tok) : (writeR l = (write l, 0) ∧ (write l).length ≤ 32768 ∧ okL isText [] false false l = true ∧ deepOk 0 l = true ∧ l.length ≤ 4096) ∨ ∃ en : Nat, en ≠ 0 ∧ writeR l = ([], en) := by
  unfold writeR
  by_cases h0 : wholeN l = 0
  · rw [if_pos h0]
    by_cases h1 : (write l).length ≤ 32768
    · rw [if_pos h1]
      have hok := wholeN_right h0
      unfold wholeN at h0
      rw [if_pos hok] at h0
      split at h0
      · rename_i h2
        simp only [Bool.and_eq_true, decide_eq_true_eq] at h2
        refine .inl ⟨rfl, h1, hok, ?_, h2.2⟩
        rw [deepOk_parts l 0 fun t ht => right_attrs (okL_right l hok t ht), h2.1.1]
        simpa using h2.1.2
      · cases h0
    · rw [if_neg h1]; exact .inr ⟨6, by decide, rfl⟩
  · rw [if_neg h0]; exact .inr ⟨_, h0, rfl⟩
end
end Go.Proofs.YtahfcgjlcdbnjaaGreatDoor

