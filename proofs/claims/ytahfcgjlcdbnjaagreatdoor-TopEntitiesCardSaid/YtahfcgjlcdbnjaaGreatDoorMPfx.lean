/- A document of one empty element, its prefix declared in it: scanned. -/
import Derived.Test.YtahfcgjlcdbnjaaGreatDoorMWr3
import Derived.Test.YtahfcgjlcdbnjaaGreatDoorMSpt
namespace Go.Proofs.YtahfcgjlcdbnjaaGreatDoor
open Go.RowKit

section
variable {tx : Bytes → Bool} {D : Bytes} {σ : St}

theorem stop_47 : stops 47 = true := by decide

theorem tagL_wr2 (p : Int) (r : Bytes) : ∀ (az : List (Bytes × Bytes)) (n : Nat) (σ : St) (done : List (Bytes × Bytes)), D.drop σ.pos = az.flatMap attrB ++ 47 :: 62 :: r → attrsOk tx (done.map (·.1)) az = true → az.length < n →
    tagL ⟨D.toArray⟩ p n σ done = .ok (done ++ az, σ.to (σ.pos + (az.flatMap attrB).length))
  | [], n + 1, σ, done, hd, _, _ => by
    have hd : D.drop σ.pos = 47 :: 62 :: r := hd
    unfold tagL
    rw [blanks_no hd (by decide)]
    simp only
    rw [if_pos (by rw [size_ev]; exact drop_lt hd), has_yes (t := [47, 62]) hd, Bool.or_true]
    simp [St.to]
  | (q, v) :: az, n + 1, σ, done, hd, ha, hn => by
    have hd : D.drop σ.pos = 32 :: (q ++ 61 :: 34 :: (quo v ++ 34 :: (az.flatMap attrB ++ 47 :: 62 :: r))) := by rw [hd]; simp [attrB]
    simp only [attrsOk, Bool.and_eq_true, Bool.not_eq_true'] at ha
    obtain ⟨⟨⟨hq, _⟩, hs⟩, ha⟩ := ha
    obtain ⟨a, t, hqt, hh⟩ := qname_head hq
    simp only [List.length_cons] at hn
    have hb := blanks_one (σ := σ) (a := a) (r := t ++ 61 :: 34 :: (quo v ++ 34 :: (az.flatMap attrB ++ 47 :: 62 :: r))) (by rw [hd, hqt]; rfl) (head_not hh)
    have hd1 := drop_one hd
    have hd1' : D.drop (σ.to (σ.pos + 1)).pos = a :: (t ++ 61 :: 34 :: (quo v ++ 34 :: (az.flatMap attrB ++ 47 :: 62 :: r))) := by rw [hd1, hqt]; rfl
    have hq1 := qname_ev (σ := σ.to (σ.pos + 1)) hq stop_61 hd1
    have hd2 : D.drop (σ.to (σ.pos + 1 + q.length)).pos = 61 :: 34 :: (quo v ++ 34 :: (az.flatMap attrB ++ 47 :: 62 :: r)) := drop_more hd1
    have he := equal_ev hd2 (by decide)
    have hd3 := drop_one hd2
    have hv := value_ev (σ := σ.to (σ.pos + 1 + q.length + 1)) hd3
    have hd4 : D.drop (σ.to (σ.pos + 1 + q.length + 1 + ((quo v).length + 2))).pos = az.flatMap attrB ++ 47 :: 62 :: r := by
      have := drop_more (a := 34 :: (quo v ++ [34])) (b := az.flatMap attrB ++ 47 :: 62 :: r) (show D.drop (σ.pos + 1 + q.length + 1) = _ by rw [show D.drop (σ.pos + 1 + q.length + 1) = _ from hd3]; simp)
      rw [← this]; simp [St.to, Nat.add_assoc]
    have hs' : named done q = false := by rw [named_map]; exact hs
    have ih := tagL_wr2 p r az n (σ.to (σ.pos + 1 + q.length + 1 + ((quo v).length + 2))) (done ++ [(q, v)]) hd4 (by simpa using ha) (by omega)
    unfold tagL
    rw [hb]
    simp only
    rw [if_pos (by rw [size_ev]; exact drop_lt hd1'), has_no hd1' (Ne.symm (headOk_ne hh (by decide))), has_no hd1' (Ne.symm (headOk_ne hh (by decide)))]
    simp only [Bool.or_self, Bool.false_eq_true, if_false]
    rw [hq1]
    simp only
    rw [show (σ.to (σ.pos + 1)).to ((σ.to (σ.pos + 1)).pos + q.length) = σ.to (σ.pos + 1 + q.length) from rfl, he]
    simp only [Bool.and_self, if_true, hs', Bool.false_eq_true, if_false]
    rw [show (σ.to (σ.pos + 1 + q.length)).to ((σ.to (σ.pos + 1 + q.length)).pos + 1) = σ.to (σ.pos + 1 + q.length + 1) from rfl, hv]
    simp only [if_true]
    rw [show (σ.to (σ.pos + 1 + q.length + 1)).to ((σ.to (σ.pos + 1 + q.length + 1)).pos + ((quo v).length + 2)) = σ.to (σ.pos + 1 + q.length + 1 + ((quo v).length + 2)) from rfl, ih]
    simp [St.to, attrB]
    omega
  | _, 0, _, _, _, _, hn => absurd hn (Nat.not_lt_zero _)

/-- An empty element. -/
theorem tag_wr2 {n r : Bytes} {az : List (Bytes × Bytes)} (hd : D.drop σ.pos = 60 :: (n ++ (az.flatMap attrB ++ 47 :: 62 :: r))) (hn : (split n).isSome = true) (ha : attrsOk tx [] az = true)
    (ho : σ.opn.length < 32) (hm : az.length ≤ 64) (hf : (fl σ).length + 1 < 4096) :
    tag ⟨D.toArray⟩ σ = .ok ((), { σ with pos := σ.pos + (60 :: (n ++ (az.flatMap attrB ++ [47, 62]))).length, toks := fl σ ++ [⟨2, n, az, []⟩] ++ [⟨7, n, [], []⟩], text := [], ended := σ.ended || σ.opn.length == 0 }) := by
  have hle : (D.drop σ.pos).length ≤ D.length := by simp
  rw [hd] at hle
  simp only [List.length_cons, List.length_append] at hle
  have hl := attrs_len az
  have hd1 := drop_one hd
  obtain ⟨a, r', hr', hs⟩ : ∃ a r', az.flatMap attrB ++ 47 :: 62 :: r = a :: r' ∧ stops a = true := by
    cases az with
    | nil => exact ⟨47, 62 :: r, rfl, stop_47⟩
    | cons p az => exact ⟨32, p.1 ++ 61 :: 34 :: (quo p.2 ++ [34]) ++ az.flatMap attrB ++ 47 :: 62 :: r, by simp [attrB], stop_32⟩
  have hq := qname_ev (σ := σ.to (σ.pos + 1)) (a := a) (r := r') hn hs (by rw [hd1, hr'])
  have hd2 : D.drop (σ.to (σ.pos + 1 + n.length)).pos = az.flatMap attrB ++ 47 :: 62 :: r := drop_more hd1
  have ht := tagL_wr2 (σ.pos : Int) r az (D.length + 1) _ [] hd2 ha (by omega)
  have hd3 : D.drop (σ.pos + 1 + n.length + (az.flatMap attrB).length) = 47 :: 62 :: r := drop_more hd2
  unfold tag
  simp only [hq, if_true]
  rw [show (σ.to (σ.pos + 1)).to ((σ.to (σ.pos + 1)).pos + n.length) = σ.to (σ.pos + 1 + n.length) from rfl, size_ev, ht]
  simp only
  rw [if_pos (by simp [St.to]; omega)]
  simp only [to_to, to_pos]
  rw [flushAdd_to (by omega)]
  simp only
  rw [has_yes (t := [47, 62]) (r := r) (by simpa [St.to] using hd3)]
  simp only [if_true]
  unfold add
  rw [if_pos (by simp [St.to]; omega)]
  simp [St.to, Nat.add_assoc]
  omega

theorem colon_free : ∀ (n : Nat) (l : Bytes), l.length ≤ n → isText l = true → wordN false l = l.length → (58 : UInt8) ∉ l
  | 0, l, h, _, _ => by
    have : l = [] := List.eq_nil_of_length_eq_zero (by omega)
    subst this; simp
  | n + 1, l, h, ht, hw => by
    by_cases hne : l = []
    · subst hne; simp
    · rw [isText_step hne] at ht
      split at ht
      · cases ht
      · rename_i hb
        have hb : badR l = false := by simpa using hb
        obtain ⟨u, r, he, hu, hd, hcase⟩ := first_char hne hb
        have hw1 := Lib.decodeL_width l
        have hr : l.drop (Lib.decodeL l).2 = r := by rw [← hu, he, List.drop_left]
        rw [hr] at ht
        have hln : l.length = u.length + r.length := by rw [he]; simp
        rw [wordN_step false l hne, hr] at hw
        split at hw
        · rename_i hg
          have hg : goesOn (Lib.decodeL l).1 = true := by simpa using hg
          have ih := colon_free n r (by omega) ht (by omega)
          rw [he, List.mem_append, not_or]
          refine ⟨?_, ih⟩
          rcases hcase with ⟨c, rfl, h8⟩ | hi
          · rw [← hd [], List.append_nil, Lib.decodeL_ascii c [] h8] at hg
            intro hm
            have hm := List.mem_singleton.1 hm
            rw [← hm] at hg
            exact absurd hg (by decide)
          · intro hm
            exact absurd (hi _ hm) (by decide)
        · have := List.length_pos_iff.2 hne
          omega
theorem no_colon {p : Bytes} (h : isName p = true) : (58 : UInt8) ∉ p := colon_free _ p (Nat.le_refl _) (isText_name h) (name_parts h).2.2.2
end

def nmA (p : Bytes) : Bytes := p ++ [58, 97]
def nmB (p : Bytes) : Bytes := p ++ [58, 98]
def nmX (p : Bytes) : Bytes := [120, 109, 108, 110, 115] ++ 58 :: p
def attP (p u : Bytes) : List (Bytes × Bytes) := [(nmX p, u), (nmB p, [])]
def docP (p u : Bytes) : Bytes := 60 :: (nmA p ++ ((attP p u).flatMap attrB ++ [47, 62]))
def toksP (p u : Bytes) : List Tok := [⟨2, nmA p, attP p u, []⟩, ⟨7, nmA p, [], []⟩]

theorem splitA {p : Bytes} (h : isName p = true) : split (nmA p) = some (p, [97]) := by
  rw [split_at (l := nmA p) rfl (no_colon h), h, show isName [97] = true from by kernel_rfl]; rfl
theorem splitB {p : Bytes} (h : isName p = true) : split (nmB p) = some (p, [98]) := by
  rw [split_at (l := nmB p) rfl (no_colon h), h, show isName [98] = true from by kernel_rfl]; rfl
theorem splitX {p : Bytes} (h : isName p = true) : split (nmX p) = some ([120, 109, 108, 110, 115], p) := by
  rw [split_at (l := nmX p) rfl (by decide), h, show isName [120, 109, 108, 110, 115] = true from by kernel_rfl]; rfl
theorem nmXB (p : Bytes) : nmX p ≠ nmB p := by
  intro h
  have := congrArg List.length h
  simp [nmX, nmB] at this
  omega
theorem attP_ok {p : Bytes} (u : Bytes) (h : isName p = true) : attrsOk (fun _ => true) [] (attP p u) = true := by
  have hx : ([nmX p].contains (nmB p)) = false := by
    rw [Bool.eq_false_iff]
    intro hc
    rw [List.contains_iff_mem, List.mem_singleton] at hc
    exact nmXB p hc.symm
  simp only [attP, attrsOk, splitX h, splitB h, List.nil_append, hx]
  rfl

theorem whole_docP {p : Bytes} (u : Bytes) (h : isName p = true) : ∃ σ', whole ⟨(docP p u).toArray⟩ St.start = .ok ((), σ') ∧ σ'.toks = toksP p u := by
  obtain ⟨a, q, hq, hh⟩ := name_head h
  obtain ⟨D, hD⟩ : ∃ D, D = docP p u := ⟨_, rfl⟩
  rw [← hD]
  have hd : D.drop St.start.pos = 60 :: (nmA p ++ ((attP p u).flatMap attrB ++ 47 :: 62 :: [])) := by rw [hD]; rfl
  have hd2 : D.drop St.start.pos = 60 :: a :: (q ++ [58, 97] ++ ((attP p u).flatMap attrB ++ 47 :: 62 :: [])) := by rw [hd, nmA, hq]; rfl
  have n33 : (33 : UInt8) ≠ a := Ne.symm (headOk_ne hh (by decide))
  have n47 : (47 : UInt8) ≠ a := Ne.symm (headOk_ne hh (by decide))
  have n63 : (63 : UInt8) ≠ a := Ne.symm (headOk_ne hh (by decide))
  have h60 : has ⟨D.toArray⟩ St.start [60] = true := has_yes (t := [60]) hd
  have hg := tag_wr2 (tx := fun _ => true) hd (by rw [splitA h]; rfl) (attP_ok u h) (by decide) (by simp [attP]) (by simp [fl, St.start])
  obtain ⟨S, hg, hS⟩ : ∃ S, tag ⟨D.toArray⟩ St.start = .ok ((), S) ∧ S = _ := ⟨_, hg, rfl⟩
  have hb : beside ⟨D.toArray⟩ St.start false = .ok (false, S) := by
    unfold beside
    simp only [blanks_no hd (by decide), has_no2 hd2 n33, has_no2 hd2 n63, has_no2 hd2 n47, h60, Bool.false_eq_true, if_false]
    simp only [show St.start.ended = false from rfl, Bool.not_true, Bool.or_self, Bool.false_eq_true, if_false, hg]
  have hlen : D.length = (60 :: (nmA p ++ ((attP p u).flatMap attrB ++ [47, 62]))).length := by rw [hD]; rfl
  have hpe : ¬ S.pos < (⟨D.toArray⟩ : ByteArray).size := by rw [size_ev, hS, hlen]; simp [St.start]
  have e1 : parts ⟨D.toArray⟩ (D.length + 1) St.start false = .ok ((), S) := by
    rw [parts_out (by rw [size_ev]; exact drop_lt hd) rfl hb, parts_end hpe]
  refine ⟨S, ?_, by rw [hS]; rfl⟩
  unfold whole
  rw [show has ⟨D.toArray⟩ St.start xmldB = false from has_no2 hd2 n63]
  simp only [Bool.false_and, Bool.false_eq_true, if_false]
  rw [size_ev, e1]
  have s1 : S.ended = true := by rw [hS]; rfl
  have s2 : S.opn = [] := by rw [hS]; rfl
  simp [s1, s2]

theorem scan_docP {p : Bytes} (u : Bytes) (h : isName p = true) : scan (docP p u) = if 32768 < (docP p u).length then .error (6, 0) else match badAt (docP p u).length (docP p u) 0 with | some p => .error (4, p) | none => .ok (toksP p u) := by
  obtain ⟨σ', e1, e2⟩ := whole_docP u h
  generalize docP p u = D at *
  unfold scan
  by_cases hl : 32768 < D.length
  · rw [if_pos hl, if_pos hl]
  · rw [if_neg hl, if_neg hl]
    cases hb : badAt D.length D 0 with
    | some p => rfl
    | none => simp only [e1, e2]
theorem text_docP {p u : Bytes} (h : isName p = true) (hu : isText u = true) : isText (docP p u) = true := by
  have hp := isText_name h
  unfold docP nmA attP nmX nmB
  rw [isText_cons (by decide) (by decide)]
  refine isText_app (isText_app hp (by decide)) (isText_app ?_ (by decide))
  simp only [List.flatMap_cons, List.flatMap_nil, List.append_nil, attrB]
  refine isText_app ?_ ?_
  · rw [isText_cons (by decide) (by decide)]
    refine isText_app (isText_app (by decide) (by rw [isText_cons (by decide) (by decide)]; exact hp)) ?_
    rw [isText_cons (by decide) (by decide), isText_cons (by decide) (by decide)]
    exact isText_app (isText_quo hu) (by decide)
  · rw [isText_cons (by decide) (by decide)]
    refine isText_app (isText_app hp (by decide)) (by decide)
end Go.Proofs.YtahfcgjlcdbnjaaGreatDoor

