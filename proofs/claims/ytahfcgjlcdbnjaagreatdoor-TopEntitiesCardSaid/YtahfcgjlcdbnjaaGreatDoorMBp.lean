/- xdm's ends: where what lies in each node ends. -/
import Derived.Test.YtahfcgjlcdbnjaaGreatDoorMSn
import Derived.Test.YtahfcgjlcdbnjaaGreatDoorMWho
namespace Go.Proofs.YtahfcgjlcdbnjaaGreatDoor
open Go.RowKit

theorem flatMap_set {α β : Type} (f : α → List β) (m : Nat) (hf : ∀ a, (f a).length = m) : ∀ (l : List α) (k j : Nat) (a a' : α) (u : β), l[k]? = some a → j < m → f a' = (f a).set j u → (l.flatMap f).set (k * m + j) u = (l.set k a').flatMap f
  | [], _, _, _, _, _, h, _, _ => by cases h
  | b :: l, 0, j, a, a', u, h, hj, hs => by
    obtain rfl : b = a := by simpa using h
    rw [Nat.zero_mul, Nat.zero_add, List.flatMap_cons, List.set_append_left _ _ (by rw [hf]; exact hj), ← hs]
    rfl
  | b :: l, k + 1, j, a, a', u, h, hj, hs => by
    have h : l[k]? = some a := by simpa using h
    rw [List.flatMap_cons, List.set_append_right _ _ (by rw [hf, Nat.add_mul]; omega), hf, show (k + 1) * m + j - m = k * m + j by rw [Nat.add_mul]; omega, flatMap_set f m hf l k j a a' u h hj hs]
    rfl

/-- Parents stand ahead. -/
def UpM (l : List NodM) : Prop := ∀ (i : Nat) p, l[i]? = some p → -1 ≤ p.1.parent ∧ p.1.parent < i
/-- The same nodes, but for where they end. -/
def SameSc (l l' : List NodM) : Prop := ∀ p' ∈ l', ∃ p ∈ l, p'.2 = p.2 ∧ p'.1.sc = p.1.sc
def finM (p : NodM) (f : Int) : NodM := ({ p.1 with fin := f }, p.2)

theorem UpM.set {l : List NodM} (h : UpM l) {k : Nat} {p : NodM} (hk : l[k]? = some p) (f : Int) : UpM (l.set k (finM p f)) := by
  intro i q hq
  rw [List.getElem?_set] at hq
  by_cases hi : k = i
  · subst hi
    rw [if_pos rfl, if_pos (List.getElem?_eq_some_iff.1 hk).1] at hq
    cases hq
    exact h k p hk
  · rw [if_neg hi] at hq
    exact h i q hq
theorem SameSc.set {l l' : List NodM} (h : SameSc l l') {k : Nat} {p : NodM} (hk : l'[k]? = some p) (f : Int) : SameSc l (l'.set k (finM p f)) := by
  intro q hq
  rcases List.mem_or_eq_of_mem_set hq with hq | rfl
  · exact h q hq
  · exact h p (List.mem_of_getElem? hk)
theorem SameSc.scs {l l' : List NodM} {ms : List (Nat × Sc)} (h : SameSc l l') (hs : ScsIn l ms) : ScsIn l' ms := fun p' hp => by
  obtain ⟨p, h1, h2, h3⟩ := h p' hp
  rw [h2, h3]
  exact hs p h1

/-- One step of ends, of nodes as they lie. -/
theorem endN_up {l : List NodM} {k : Nat} {p : NodM} (hk : l[k]? = some p) {j : Nat} {q : NodM} (hj : p.1.parent = j) (hq : (l.set k (finM p (max p.1.fin (k + 1))))[j]? = some q) :
    endN (l.map (·.1)) k = ((l.set k (finM p (max p.1.fin (k + 1)))).set j (finM q (max q.1.fin (max p.1.fin (k + 1))))).map (·.1) := by
  unfold endN
  rw [List.getElem?_map, hk]
  simp only [Option.map_some]
  rw [if_pos (by omega), show p.1.parent.toNat = j by rw [hj]; rfl]
  have h1 : (l.map (·.1)).set k { p.1 with fin := max p.1.fin (k + 1) } = (l.set k (finM p (max p.1.fin (k + 1)))).map (·.1) := by rw [List.map_set]; rfl
  rw [h1, List.getElem?_map, hq]
  simp only [Option.map_some]
  simp only [List.map_set]
  rfl
theorem endN_top {l : List NodM} {k : Nat} {p : NodM} (hk : l[k]? = some p) (hj : ¬ 0 ≤ p.1.parent) :
    endN (l.map (·.1)) k = (l.set k (finM p (max p.1.fin (k + 1)))).map (·.1) := by
  unfold endN
  rw [List.getElem?_map, hk]
  simp only [Option.map_some]
  rw [if_neg hj, List.map_set]
  rfl

section
variable {W w : World} {L : List Asn}

theorem Nodes.setFin {l : List NodM} {g c k : Nat} {p : NodM} (x : Hold W w (Nodes (.slice (some ⟨g, 0, none⟩) l.length c) l :: L)) (hk : l[k]? = some p) (f : Int) :
    Hold W (w.setCell ⟨g, k * 9 + 7, none⟩ (.int .i64 f)) (Nodes (.slice (some ⟨g, 0, none⟩) l.length c) (l.set k (finM p f)) :: L) := by
  obtain ⟨hl, q⟩ := Row.cases x
  rcases q with ⟨hv, _, _⟩ | ⟨g2, cap, cur, hv, h4, h5, h6, h7, y⟩
  · cases hv
  · obtain ⟨rfl, rfl⟩ : g = g2 ∧ c = cap := by cases hv; exact ⟨rfl, rfl⟩
    have z := y.set (k * 9 + 7) (.int .i64 f)
    unfold Nodes
    rw [List.length_set]
    refine Row.mk h4 h5 (by simpa using h6) ?_ z
    rw [Array.toList_setIfInBounds, List.take_set, h7]
    exact flatMap_set (fun p : NodM => nodCells p.1 p.2) 9 (fun _ => rfl) l k 7 p (finM p f) (.int .i64 f) hk (by decide) rfl

theorem Nodes.finN {l : List NodM} {g c k N : Nat} {p : NodM} (hN : l.length = N) (x : Hold W w (Nodes (.slice (some ⟨g, 0, none⟩) N c) l :: L)) (hk : l[k]? = some p) (f : Int) :
    Hold W (w.setCell ⟨g, k * 9 + 7, none⟩ (.int .i64 f)) (Nodes (.slice (some ⟨g, 0, none⟩) N c) (l.set k (finM p f)) :: L) := by
  subst hN; exact Nodes.setFin x hk f
theorem Nodes.readN {l : List NodM} {g c N : Nat} (x : Hold W w (Nodes (.slice (some ⟨g, 0, none⟩) N c) l :: L)) (i j : Nat) (n : Nod) (mo : Option Nat) (u : Value) (hi : l[i]? = some (n, mo)) (hj : (nodCells n mo)[j]? = some u) :
    w.cell? ⟨g, i * 9 + j, none⟩ = some u ∧ ∀ b, w.frozen? ⟨g, b, none⟩ = false := by
  have hlt := (List.getElem?_eq_some_iff.1 hi).1
  obtain ⟨g2, c2, hs, _, _, hc⟩ := Nodes.read x (by omega)
  obtain ⟨rfl, _⟩ : g = g2 ∧ N = l.length := by cases hs; exact ⟨rfl, rfl⟩
  refine ⟨hc i j n mo u hi hj, fun b => ?_⟩
  obtain ⟨hl, q⟩ := Row.cases x
  rcases q with ⟨hv, _, _⟩ | ⟨g3, cap, cur, hv, h4, h5, h6, h7, y⟩
  · cases hv
  · obtain rfl : g = g3 := by cases hv; rfl
    exact y.free b

set_option maxHeartbeats 8000000 in
set_option maxRecDepth 100000 in
theorem ends_any {tp : Nat} {v : Value} {l : List NodM} (x : Hold W w (Asn.pts tp (.cells #[v] 75 (0, 0)) :: Nodes v l :: L)) (hl : l.length ≤ 1000000) (h0 : 0 < l.length) (hup : UpM l) (_hfin : ∀ p ∈ l, p.1.fin = 0) :
    Calls Tryz.prog 38 #[.pointer (some ⟨tp, 0, none⟩)] w fun e w' => e = .returned (.tuple #[]) ∧ ∃ l' : List NodM, l'.map (·.1) = endsN l.length (l.map (·.1)) ∧ SameSc l l' ∧
      Hold W w' (Asn.pts tp (.cells #[v] 75 (0, 0)) :: Nodes v l' :: L) := by
  obtain ⟨g, c, hv, h1, h2, _⟩ := Nodes.read x.f1 h0
  subst hv
  have ct := x.cell 0
  have HX := Lib.hid x
  have HUP := Lib.hid hup
  clear x hup
  go_enter Tryz.func38, Tryz.ntmps38
  go_wp2_with fail
  go_loopg [2] l.length (fun gk v2 wr => ∃ (j : Nat) (l' : List NodM), v2 = .int .i64 ((j : Int) - 1) ∧ gk = j ∧ j ≤ l.length ∧ l'.length = l.length ∧ Hid (UpM l') ∧ Hid (SameSc l l') ∧ Hid (Hold W wr (Asn.pts tp (.cells #[.slice (some ⟨g, 0, none⟩) l.length c] 75 (0, 0)) :: Nodes (.slice (some ⟨g, 0, none⟩) l.length c) l' :: L)) ∧
    Hid (endsN j (l'.map (·.1)) = endsN l.length (l.map (·.1))))
  case atStart => exact ⟨l.length, l, rfl, rfl, Nat.le_refl _, rfl, HUP, Lib.hid (fun p hp => ⟨p, hp, rfl, rfl⟩), HX, rfl⟩
  case round =>
    obtain ⟨j, l', rfl, hgj, hjl, hll, HU, HS, HZ, HE⟩ := hrel
    cases j with
    | zero =>
      have HE2 : Hid (l'.map (·.1) = endsN l.length (l.map (·.1))) := HE
      go_wp2_with fail
      go_end0
      exact ⟨rfl, l', HE2.out, HS.out, HZ.out⟩
    | succ k =>
      obtain ⟨p, hp⟩ : ∃ p, l'[k]? = some p := ⟨_, List.getElem?_eq_getElem (by omega)⟩
      obtain ⟨nd, mo⟩ := p
      obtain ⟨cf, ff⟩ := Nodes.readN HZ.out.f1 k 7 nd mo (.int .i64 nd.fin) hp rfl
      have cp := (Nodes.readN HZ.out.f1 k 6 nd mo (.int .i64 nd.parent) hp rfl).1
      have ct' := HZ.out.cell 0
      have hud := HU.out k (nd, mo) hp
      simp only at hud
      have hkl : (k : Int) < (l.length : Int) := by omega
      have hk1 : ((k : Int) + 1) - 1 = k := by omega
      have z1 := Nodes.finN hll HZ.out.f1 hp (max nd.fin (k + 1))
      have hp1 : (l'.set k (finM (nd, mo) (max nd.fin (k + 1))))[k]? = some (finM (nd, mo) (max nd.fin (k + 1))) := by
        rw [List.getElem?_set_self (by omega)]
      have cp1 := (Nodes.readN z1 k 6 _ _ (.int .i64 nd.parent) hp1 rfl).1
      have ct1 := z1.f1.cell 0
      have HZ1 := Lib.hid z1.f1
      have HP := Lib.hid hp
      have HP1 := Lib.hid hp1
      have HU1 := Lib.hid (HU.out.set hp (max nd.fin (k + 1)))
      have HS1 := Lib.hid (HS.out.set hp (max nd.fin (k + 1)))
      clear hp hp1 z1
      by_cases hp0 : 0 ≤ nd.parent
      · obtain ⟨q, hq⟩ : ∃ q : Nat, nd.parent = q := ⟨nd.parent.toNat, by omega⟩
        rw [hq] at cp cp1
        have hql : (q : Int) < (l.length : Int) := by omega
        have HQ := Lib.hid hq
        clear hq
        go_wp2_with fail
        go_quiet (fail)
        have HZ2 := Lib.hid (HZ1.out.drewN nq)
        generalize (wr.setCell ⟨g, k * 9 + 7, none⟩ (.int .i64 (max nd.fin (k + 1)))).drewN nq = w2 at *
        obtain ⟨pq, hpq⟩ : ∃ a, (l'.set k (finM (nd, mo) (max nd.fin (k + 1))))[q]? = some a := ⟨_, List.getElem?_eq_getElem (by simp; omega)⟩
        obtain ⟨qd, qmo⟩ := pq
        obtain ⟨cq, fq⟩ := Nodes.readN HZ2.out.f1 q 7 qd qmo (.int .i64 qd.fin) hpq rfl
        have ck2 := (Nodes.readN HZ2.out.f1 k 7 _ _ (.int .i64 (max nd.fin (k + 1))) HP1.out rfl).1
        have HZ3 := Lib.hid (Nodes.finN (by simp [hll]) HZ2.out.drew.f1 hpq (max qd.fin (max nd.fin (k + 1)))).f1
        have HU2 := Lib.hid (HU1.out.set hpq (max qd.fin (max nd.fin (k + 1))))
        have HS2 := Lib.hid (HS1.out.set hpq (max qd.fin (max nd.fin (k + 1))))
        have HE2 : Hid (endsN k (((l'.set k (finM (nd, mo) (max nd.fin (k + 1)))).set q (finM (qd, qmo) (max qd.fin (max nd.fin (k + 1))))).map (·.1)) = endsN l.length (l.map (·.1))) := by
          show _ = _
          rw [← HE.out]
          show _ = endsN k (endN (l'.map (·.1)) k)
          rw [endN_up HP.out HQ.out hpq]
        clear hpq
        go_wp2_with fail
        go_region_law (fail)
        all_goals
          go_wp2_with fail
          go_roundg (gk - 1)
          case measure => omega
          case rel => exact ⟨k, _, by go_num, by omega, by omega, by simp [hll], HU2, HS2, HZ3, HE2⟩
      · skip
        have hpn : ¬ (0 ≤ nd.parent) := hp0
        have HE2 : Hid (endsN k ((l'.set k (finM (nd, mo) (max nd.fin (k + 1)))).map (·.1)) = endsN l.length (l.map (·.1))) := by
          show _ = _
          rw [← HE.out]
          show _ = endsN k (endN (l'.map (·.1)) k)
          rw [endN_top HP.out hp0]
        go_wp2_with fail
        go_roundg (gk - 1)
        case measure => omega
        case rel => exact ⟨k, _, by go_num, by omega, by omega, by simp [hll], HU1, HS1, HZ1, HE2⟩
end
end Go.Proofs.YtahfcgjlcdbnjaaGreatDoor
/- xdm's Build, plainly: what stays as nodes are added. -/
namespace Go.Proofs.YtahfcgjlcdbnjaaGreatDoor
open Go.RowKit

def buildM (l : List Tok) : Except Nat (List Nod) := if wholeN l = 0 then treeN l else .error (wholeN l)

/-- Nodes as they are while a tree is built. -/
def Good (ns : List Nod) : Prop := ∀ (i : Nat) p, ns[i]? = some p → p.fin = 0 ∧ -1 ≤ p.parent ∧ p.parent < i ∧ ((p.parent = -1 ∧ p.deep = 0) ∨ (0 ≤ p.parent ∧ ∃ q, ns[p.parent.toNat]? = some q ∧ p.deep = q.deep + 1))

theorem Good.snoc {ns : List Nod} (h : Good ns) {x : Nod} {k : Nat} {q : Nod} (hk : ns[k]? = some q) (h1 : x.fin = 0) (h2 : x.parent = k) (h3 : x.deep = q.deep + 1) : Good (ns ++ [x]) := by
  intro i p hp
  have hkl := (List.getElem?_eq_some_iff.1 hk).1
  by_cases hi : i < ns.length
  · rw [List.getElem?_append_left hi] at hp
    obtain ⟨a, b, c, d⟩ := h i p hp
    refine ⟨a, b, c, ?_⟩
    rcases d with d | ⟨d1, q, d2, d3⟩
    · exact .inl d
    · refine .inr ⟨d1, q, ?_, d3⟩
      rw [List.getElem?_append_left (by omega)]; exact d2
  · rw [List.getElem?_append_right (by omega)] at hp
    have hi0 : i - ns.length = 0 := by
      rcases Nat.eq_zero_or_pos (i - ns.length) with h | h
      · exact h
      · rw [List.getElem?_eq_none (by simp; omega)] at hp; cases hp
    rw [hi0] at hp
    cases hp
    refine ⟨h1, by omega, by omega, .inr ⟨by omega, q, ?_, h3⟩⟩
    rw [h2, Int.toNat_natCast, List.getElem?_append_left hkl]; exact hk

theorem Good.root : Good [rootN] := by
  intro i p hp
  cases i with
  | zero => cases hp; exact ⟨rfl, by decide, by decide, .inl ⟨rfl, rfl⟩⟩
  | succ i => cases hp

theorem addN_eq {ns : List Nod} {k : Nat} {q : Nod} (hk : ns[k]? = some q) (kind : Int) (uri pre loc text : Bytes) (sc : Sc) : addN ns k kind uri pre loc text sc = ns ++ [⟨kind, uri, pre, loc, text, q.deep + 1, k, 0, sc⟩] := by
  unfold addN
  rw [if_pos (by omega), Int.toNat_natCast, hk]

theorem Good.add {ns : List Nod} (h : Good ns) {k : Nat} {q : Nod} (hk : ns[k]? = some q) (kind : Int) (uri pre loc text : Bytes) (sc : Sc) : Good (addN ns k kind uri pre loc text sc) := by
  rw [addN_eq hk]
  exact h.snoc hk rfl rfl rfl

theorem attrsN_good (sc : Sc) (n : Nat) (e : Nod) : ∀ (az : List (Bytes × Bytes)) (ns : List Nod) (seen : List (Bytes × Bytes)) (tw : Bool) (r : List Nod × Bool), Good ns → ns[n]? = some e → attrsN sc n ns seen tw az = some r → Good r.1 ∧ ns.length ≤ r.1.length ∧ r.1[n]? = some e
  | [], ns, seen, tw, r, h, he, hr => by
    unfold attrsN at hr
    cases hr
    exact ⟨h, Nat.le_refl _, he⟩
  | (q, v) :: az, ns, seen, tw, r, h, he, hr => by
    unfold attrsN at hr
    have hlt := (List.getElem?_eq_some_iff.1 he).1
    split at hr
    · exact attrsN_good sc n e az ns seen tw r h he hr
    · split at hr
      · cases hr
      · obtain ⟨a, b, c⟩ := attrsN_good sc n e az _ _ _ r (h.add he 3 _ _ _ v []) (by rw [addN_eq he, List.getElem?_append_left hlt]; exact he) hr
        refine ⟨a, ?_, c⟩
        rw [addN_eq he] at b
        simp at b
        omega

theorem elemN_good {ns ns' : List Nod} {k : Nat} {q : Nod} {t : Tok} (h : Good ns) (hk : ns[k]? = some q) (hr : elemN ns k t = .ok ns') : Good ns' ∧ ns.length < ns'.length ∧ ∃ e, ns'[ns.length]? = some e ∧ e.deep = q.deep + 1 := by
  unfold elemN at hr
  split at hr
  · cases hr
  · rename_i sc _
    split at hr
    · cases hr
    · rename_i u _
      split at hr
      · cases hr
      · rename_i ns2 tw hat
        split at hr
        · cases hr
        · cases hr
          have hg := h.add hk 2 u (parted t.name).1 (parted t.name).2 [] sc
          have he : (addN ns k 2 u (parted t.name).1 (parted t.name).2 [] sc)[ns.length]? = some ⟨2, u, (parted t.name).1, (parted t.name).2, [], q.deep + 1, k, 0, sc⟩ := by
            rw [addN_eq hk]; simp
          obtain ⟨a, b, c⟩ := attrsN_good sc ns.length _ t.attrs _ [] false (ns', tw) hg he hat
          refine ⟨a, ?_, _, c, rfl⟩
          rw [addN_eq hk] at b
          simp at b
          exact b

theorem Good.up {l : List NodM} (h : Good (l.map (·.1))) : UpM l ∧ ∀ p ∈ l, p.1.fin = 0 := by
  refine ⟨fun i p hp => ?_, fun p hp => ?_⟩
  · have := h i p.1 (by rw [List.getElem?_map, hp]; rfl)
    exact ⟨this.2.1, this.2.2.1⟩
  · obtain ⟨i, hi, rfl⟩ := List.mem_iff_getElem.1 hp
    exact (h i l[i].1 (by rw [List.getElem?_map, List.getElem?_eq_getElem hi]; rfl)).1

section
variable {W w w' : World} {L M : List Asn}
/-- What was made over a world, beside what lay in it. -/
theorem Hold.over (x : Hold W w L) (y : Hold w w' M) : Hold W w' (M ++ L) := by
  obtain ⟨o1, h1, a1, b1⟩ := x
  obtain ⟨o2, h2, a2, b2⟩ := y
  have dis : ∀ k o o', h2 k = some o → h1 k = some o' → False := fun k o o' e2 e1 => by
    have l1 := (Array.getElem?_eq_some_iff.1 (b1 k o' e1).2).1
    have l2 := (b2 k o e2).1
    omega
  refine ⟨o1.trans (o2.mono o1.size), fun k => match h2 k with | some o => some o | none => h1 k, Asn.spill M L _ ⟨h2, h1, a2, a1, ?_, ?_⟩, ?_⟩
  · intro k o
    show (match h2 k with | some o => some o | none => h1 k) = some o ↔ _
    cases e2 : h2 k with
    | none =>
      exact ⟨fun h => .inr h, fun h => h.elim (fun h => by cases h) id⟩
    | some o2 =>
      constructor
      · intro h; exact .inl h
      · rintro (h | h)
        · exact h
        · exact (dis k o2 o e2 h).elim
  · intro k
    cases e2 : h2 k with
    | none => exact .inl rfl
    | some o2 =>
      right
      cases e1 : h1 k with
      | none => rfl
      | some o1 => exact (dis k o2 o1 e2 e1).elim
  · intro k o hk
    have hk : (match h2 k with | some o => some o | none => h1 k) = some o := hk
    cases e2 : h2 k with
    | none =>
      rw [e2] at hk
      obtain ⟨c1, c2⟩ := b1 k o hk
      refine ⟨c1, ?_⟩
      rw [o2.block k (Array.getElem?_eq_some_iff.1 c2).1]; exact c2
    | some o3 =>
      rw [e2] at hk
      cases hk
      obtain ⟨c1, c2⟩ := b2 k o e2
      exact ⟨Nat.le_trans o1.size c1, c2⟩
end
end Go.Proofs.YtahfcgjlcdbnjaaGreatDoor
