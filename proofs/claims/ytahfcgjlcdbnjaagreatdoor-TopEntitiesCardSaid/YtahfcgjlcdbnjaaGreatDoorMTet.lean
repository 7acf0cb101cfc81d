/- The documents of TopEntities without an entity, scanned. -/
import Derived.Test.YtahfcgjlcdbnjaaGreatDoorMTe
import Derived.Test.YtahfcgjlcdbnjaaGreatDoorMPfx
import Derived.Test.YtahfcgjlcdbnjaaGreatDoorMXm
import Derived.Test.YtahfcgjlcdbnjaaGreatDoorMWho
namespace Go.Proofs.YtahfcgjlcdbnjaaGreatDoor
open Go.RowKit

def low (c : UInt8) : Bool := (decide (97 ≤ c.toNat) && decide (c.toNat ≤ 122)) || (decide (48 ≤ c.toNat) && decide (c.toNat ≤ 57)) || c == 32
theorem low_cases {c : UInt8} (h : low c = true) : (97 ≤ c.toNat ∧ c.toNat ≤ 122) ∨ (48 ≤ c.toNat ∧ c.toNat ≤ 57) ∨ c.toNat = 32 := by
  unfold low at h
  simp only [Bool.or_eq_true, Bool.and_eq_true, decide_eq_true_eq, beq_iff_eq] at h
  rcases h with (h | h) | h
  · exact .inl h
  · exact .inr (.inl h)
  · subst h; exact .inr (.inr rfl)
theorem low_ne {c : UInt8} (h : low c = true) {k : UInt8} (hk : low k = false) : c ≠ k := by
  rintro rfl
  rw [h] at hk; cases hk
theorem low_fine {s : Bytes} (h : s.all low = true) : s.all fine = true := by
  rw [List.all_eq_true] at h ⊢
  intro c hc
  have hl := h c hc
  have k := low_cases hl
  unfold fine
  have e : ∀ x : UInt8, low x = false → (c == x) = false := fun x hx => beq_eq_false_iff_ne.2 (low_ne hl hx)
  rw [e 60 (by decide), e 38 (by decide), e 37 (by decide), e 34 (by decide), e 39 (by decide)]
  simp
  omega
theorem low_print {s : Bytes} (h : s.all low = true) : ∀ c ∈ s, 32 ≤ c.toNat ∧ c.toNat ≤ 126 := fine_print (low_fine h)
theorem esc_low : ∀ s : Bytes, s.all low = true → esc s = s
  | [], _ => rfl
  | c :: s, h => by
    simp only [List.all_cons, Bool.and_eq_true] at h
    have ih := esc_low s h.2
    have e : escB c = [c] := by
      unfold escB
      rw [if_neg (low_ne h.1 (by decide)), if_neg (low_ne h.1 (by decide)), if_neg (low_ne h.1 (by decide)), if_neg (low_ne h.1 (by decide))]
    unfold esc at ih ⊢
    rw [List.flatMap_cons, e, ih]; rfl

theorem text_low {s : Bytes} (h : s.all low = true) : isText s = true := by
  unfold isText
  rw [badAt_print _ _ _ (low_print h)]; rfl

theorem scanEB (s : Bytes) (h0 : s.all low = true) (h3 : s.length ≤ 2000) : scan ([60, 97, 62, 120] ++ (s ++ [121, 60, 47, 97, 62])) = .ok (toksE s false) := by
  have hall : (120 :: (s ++ [121])).all low = true := by
    simp only [List.all_cons, List.all_append, h0, List.all_nil]; decide
  have he := esc_low _ hall
  have hw : write (toksE s false) = [60, 97, 62, 120] ++ (s ++ [121, 60, 47, 97, 62]) := by
    simp [toksE, write, wr, he]
  rw [← hw]
  have h1 : (split [97]).isSome = true := by kernel_rfl
  have h4 : isText [] = true := rfl
  refine scan_write ?_ ?_ ?_ ?_
  · simp [toksE, okL, right, attrsOk, h1, text_low hall, h4]
  · simp [toksE, deepOk]
  · simp [toksE]
  · rw [hw]; simp; omega

section
variable {D : Bytes} {σ : St}

theorem valueL_low (r : Bytes) : ∀ (s : Bytes) (n : Nat) (σ : St) (o : Bytes), D.drop σ.pos = s ++ 39 :: r → s.all low = true → s.length < n →
    valueL [39] ⟨D.toArray⟩ n σ o = .ok ((o ++ s, true), σ.to (σ.pos + s.length + 1))
  | [], n + 1, σ, o, hd, _, _ => by
    have hd : D.drop σ.pos = 39 :: r := hd
    have hlt := drop_lt hd
    show (if σ.pos < _ then _ else _) = _
    rw [if_pos (by rw [size_ev]; exact hlt), if_pos (by rw [has_ev, hd]; rfl)]
    simp
  | c :: s, n + 1, σ, o, hd, hl, hn => by
    have hd : D.drop σ.pos = c :: (s ++ 39 :: r) := hd
    simp only [List.all_cons, Bool.and_eq_true] at hl
    simp only [List.length_cons] at hn
    have hlt := drop_lt hd
    have hh : (rest ⟨D.toArray⟩ σ).headD 0 = c := by rw [rest_ev, hd]; rfl
    have ih := valueL_low r s n (σ.to (σ.pos + 1)) (o ++ [c]) (drop_one hd) hl.2 (by omega)
    show (if σ.pos < _ then _ else _) = _
    rw [if_pos (by rw [size_ev]; exact hlt), if_neg (by rw [has_cons hd (Ne.symm (low_ne hl.1 (by decide)))]; simp), hh, if_neg (low_ne hl.1 (by decide)), if_neg (low_ne hl.1 (by decide))]
    have e : (if isBlank (c.toNat : Int) = true then valueL [39] ⟨D.toArray⟩ n (σ.to (σ.pos + 1)) (o ++ [32]) else valueL [39] ⟨D.toArray⟩ n (σ.to (σ.pos + 1)) (o ++ [c])) = valueL [39] ⟨D.toArray⟩ n (σ.to (σ.pos + 1)) (o ++ [c]) := by
      split
      · rename_i hb
        have : c = 32 := by
          have k := low_cases hl.1
          unfold isBlank at hb
          simp at hb
          exact UInt8.toNat_inj.1 (by simp; omega)
        rw [this]
      · rfl
    rw [e, ih]
    simp [St.to, Nat.add_assoc, Nat.add_comm 1]
  | _, 0, _, _, _, _, hn => absurd hn (Nat.not_lt_zero _)

theorem value_low {v r : Bytes} (hd : D.drop σ.pos = 39 :: (v ++ 39 :: r)) (hl : v.all low = true) : value ⟨D.toArray⟩ σ = .ok ((v, true), σ.to (σ.pos + (v.length + 2))) := by
  have hle : (D.drop σ.pos).length ≤ D.length := by simp
  rw [hd] at hle
  simp at hle
  unfold value sign
  rw [has_yes (t := [39]) hd]
  simp only [if_true]
  rw [valueL_low r v _ (σ.to (σ.pos + 1)) [] (drop_one hd) hl (by rw [size_ev]; omega)]
  simp [St.to, Nat.add_assoc, Nat.add_comm 1]

/-- The element with one attribute in '. -/
theorem tag_low {v r : Bytes} (hd : D.drop σ.pos = 60 :: 97 :: 32 :: 98 :: 61 :: 39 :: (v ++ 39 :: 47 :: 62 :: r)) (hl : v.all low = true)
    (ho : σ.opn.length < 32) (hf : (fl σ).length + 1 < 4096) :
    tag ⟨D.toArray⟩ σ = .ok ((), { σ with pos := σ.pos + (v.length + 9), toks := fl σ ++ [⟨2, [97], [([98], v)], []⟩] ++ [⟨7, [97], [], []⟩], text := [], ended := σ.ended || σ.opn.length == 0 }) := by
  have hle : (D.drop σ.pos).length ≤ D.length := by simp
  rw [hd] at hle
  simp only [List.length_cons, List.length_append] at hle
  have h1 : (split [97]).isSome = true := by kernel_rfl
  have h2 : (split [98]).isSome = true := by kernel_rfl
  have hd1 := drop_one hd
  have hq := qname_ev (σ := σ.to (σ.pos + 1)) (n := [97]) (a := 32) (r := 98 :: 61 :: 39 :: (v ++ 39 :: 47 :: 62 :: r)) h1 stop_32 hd1
  have hd2 : D.drop (σ.to (σ.pos + 2)).pos = 32 :: 98 :: (61 :: 39 :: (v ++ 39 :: 47 :: 62 :: r)) := drop_more (a := [60, 97]) hd
  have hb := blanks_one hd2 (by decide)
  have hd3 : D.drop (σ.to (σ.pos + 2 + 1)).pos = 98 :: (61 :: 39 :: (v ++ 39 :: 47 :: 62 :: r)) := drop_more (a := [60, 97, 32]) hd
  have hq3 := qname_ev (σ := σ.to (σ.pos + 2 + 1)) (n := [98]) (a := 61) (r := 39 :: (v ++ 39 :: 47 :: 62 :: r)) h2 stop_61 hd3
  have hd4 : D.drop (σ.to (σ.pos + 2 + 1 + ([98] : Bytes).length)).pos = 61 :: 39 :: (v ++ 39 :: 47 :: 62 :: r) := drop_more (a := [60, 97, 32, 98]) hd
  have he := equal_ev hd4 (by decide)
  have hd5 : D.drop (σ.to (σ.pos + 2 + 1 + ([98] : Bytes).length + 1)).pos = 39 :: (v ++ 39 :: 47 :: 62 :: r) := drop_more (a := [60, 97, 32, 98, 61]) hd
  have hv := value_low hd5 hl
  have hp7 : σ.pos + 2 + 1 + ([98] : Bytes).length + 1 + (v.length + 2) = σ.pos + (v.length + 7) := by simp; omega
  have hd6 : D.drop (σ.to (σ.pos + (v.length + 7))).pos = 47 :: 62 :: r := by
    have := drop_more (a := [60, 97, 32, 98, 61, 39] ++ (v ++ [39])) (b := 47 :: 62 :: r) (k := σ.pos) (by rw [hd]; simp)
    rw [← this]
    simp [St.to]
  simp only [to_to, to_pos] at hb hq3 he hv
  rw [hp7] at hv
  have ht : tagL ⟨D.toArray⟩ σ.pos (D.length + 1) (σ.to (σ.pos + 2)) [] = .ok ([([98], v)], σ.to (σ.pos + (v.length + 7))) := by
    obtain ⟨m, hm⟩ : ∃ m, D.length = m + 1 := ⟨D.length - 1, by omega⟩
    rw [hm]
    unfold tagL
    rw [hb]
    simp only
    rw [if_pos (by rw [size_ev]; exact drop_lt hd3), has_no hd3 (by decide), has_no hd3 (by decide)]
    simp only [Bool.or_self, Bool.false_eq_true, if_false]
    rw [hq3]
    simp only
    rw [he]
    simp only [Bool.and_self, if_true]
    rw [hv]
    simp only [if_true, named, List.any_nil, Bool.false_eq_true, if_false, List.nil_append]
    unfold tagL
    rw [blanks_no hd6 (by decide)]
    simp only
    rw [if_pos (by rw [size_ev]; exact drop_lt hd6), has_yes (t := [47, 62]) hd6, Bool.or_true]
    rfl
  unfold tag
  simp only [hq, if_true]
  rw [show (σ.to (σ.pos + 1)).to ((σ.to (σ.pos + 1)).pos + ([97] : Bytes).length) = σ.to (σ.pos + 2) from rfl, size_ev, ht]
  simp only
  rw [if_pos (by simp [St.to, ho])]
  rw [flushAdd_to (by omega)]
  simp only
  rw [has_yes (t := [47, 62]) (r := r) (by simpa [St.to] using hd6)]
  simp only [if_true]
  unfold add
  rw [if_pos (by simp [St.to]; omega)]
  simp [St.to, Nat.add_assoc]
end

theorem scanEV (v : Bytes) (hl : v.all low = true) (h3 : v.length ≤ 4000) : scan ([60, 97, 32, 98, 61, 39] ++ (v ++ [39, 47, 62])) = .ok [⟨2, [97], [([98], v)], []⟩, ⟨7, [97], [], []⟩] := by
  obtain ⟨D, hD⟩ : ∃ D : Bytes, D = [60, 97, 32, 98, 61, 39] ++ (v ++ [39, 47, 62]) := ⟨_, rfl⟩
  rw [← hD]
  have hd : D.drop St.start.pos = 60 :: 97 :: 32 :: 98 :: 61 :: 39 :: (v ++ 39 :: 47 :: 62 :: []) := by rw [hD]; rfl
  have hlen : D.length = v.length + 9 := by rw [hD]; simp
  have h60 : has ⟨D.toArray⟩ St.start [60] = true := has_yes (t := [60]) hd
  have hg := tag_low hd hl (by decide) (by simp [fl, St.start])
  obtain ⟨S, hg, hS⟩ : ∃ S, tag ⟨D.toArray⟩ St.start = .ok ((), S) ∧ S = _ := ⟨_, hg, rfl⟩
  have hb : beside ⟨D.toArray⟩ St.start false = .ok (false, S) := by
    unfold beside
    simp only [blanks_no hd (by decide), has_no2 hd (show (33 : UInt8) ≠ 97 by decide), has_no2 hd (show (63 : UInt8) ≠ 97 by decide), has_no2 hd (show (47 : UInt8) ≠ 97 by decide), h60, Bool.false_eq_true, if_false]
    simp only [show St.start.ended = false from rfl, Bool.not_true, Bool.or_self, Bool.false_eq_true, if_false, hg]
  have hpe : ¬ S.pos < (⟨D.toArray⟩ : ByteArray).size := by rw [size_ev, hS, hlen]; simp [St.start]
  have e1 : parts ⟨D.toArray⟩ (D.length + 1) St.start false = .ok ((), S) := by
    rw [parts_out (by rw [size_ev]; exact drop_lt hd) rfl hb, parts_end hpe]
  have hw : whole ⟨D.toArray⟩ St.start = .ok ((), S) := by
    unfold whole
    rw [show has ⟨D.toArray⟩ St.start xmldB = false from has_no2 hd (show (63 : UInt8) ≠ 97 by decide)]
    simp only [Bool.false_and, Bool.false_eq_true, if_false]
    rw [size_ev, e1]
    have s1 : S.ended = true := by rw [hS]; rfl
    have s2 : S.opn = [] := by rw [hS]; rfl
    simp [s1, s2]
  have ht : badAt D.length D 0 = none := badAt_print _ _ _ (by
    rw [hD]
    have hp := low_print hl
    intro c hc
    simp only [List.mem_append] at hc
    have lits : ∀ l : Bytes, l.all (fun c => decide (32 ≤ c.toNat) && decide (c.toNat ≤ 126)) = true → c ∈ l → 32 ≤ c.toNat ∧ c.toNat ≤ 126 := fun l hl hm => by
      have := List.all_eq_true.1 hl c hm
      simpa using this
    rcases hc with hc | hc | hc
    · exact lits _ (by decide) hc
    · exact hp c hc
    · exact lits _ (by decide) hc)
  unfold scan
  rw [if_neg (by omega), ht]
  simp only
  rw [hw, hS]
  rfl
end Go.Proofs.YtahfcgjlcdbnjaaGreatDoor
/- The tree of TopEntities' documents. -/
namespace Go.Proofs.YtahfcgjlcdbnjaaGreatDoor
open Go.RowKit

def treeE (s : Bytes) (attr : Bool) : List Nod := if attr then [⟨1, [], [], [], [], 0, -1, 3, []⟩, ⟨2, [], [], [97], [], 1, 0, 3, []⟩, ⟨3, [], [], [98], s ++ s, 2, 1, 3, []⟩]
  else [⟨1, [], [], [], [], 0, -1, 3, []⟩, ⟨2, [], [], [97], [], 1, 0, 3, []⟩, ⟨4, [], [], [], 120 :: (s ++ [121]), 2, 1, 3, []⟩]

theorem tree_toksE (s : Bytes) (attr : Bool) : treeN (toksE s attr) = .ok (treeE s attr) := by
  have h1 : split [97] = some ([], [97]) := by kernel_rfl
  have h2 : split [98] = some ([], [98]) := by kernel_rfl
  have h3 : declares [98] = none := by kernel_rfl
  cases attr
  · unfold treeN toksE
    simp only [Bool.false_eq_true, if_false]
    simp [tokN, elemN, declared, parted, h1, uriOf, xmlB, getSc, attrsN, addN, rootN, endsN, endN, treeE]
    decide
  · unfold treeN toksE
    simp only [if_true]
    simp [tokN, elemN, declared, h3, parted, h1, h2, uriOf, xmlB, getSc, attrsN, addN, rootN, endsN, endN, treeE]
    decide

theorem whole_toksE {s : Bytes} (attr : Bool) (h : s.all low = true) : wholeN (toksE s attr) = 0 := by
  have h1 : (split [97]).isSome = true := by kernel_rfl
  have h2 : (split [98]).isSome = true := by kernel_rfl
  have h4 : isText [] = true := rfl
  have hall : (120 :: (s ++ [121])).all low = true := by
    simp only [List.all_cons, List.all_append, h, List.all_nil]; decide
  have hss : (s ++ s).all low = true := by rw [List.all_append, h]; rfl
  cases attr
  · simp [toksE, wholeN, okL, right, attrsOk, h1, text_low hall, h4, deepN, wide]
  · simp [toksE, wholeN, okL, right, attrsOk, h1, h2, text_low hss, h4, deepN, wide]
end Go.Proofs.YtahfcgjlcdbnjaaGreatDoor
