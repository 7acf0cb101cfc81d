/- xdm's Parse and Nodes. -/
import Derived.Test.YtahfcgjlcdbnjaaGreatDoorMBu
import Derived.Test.YtahfcgjlcdbnjaaGreatDoorMBkp
import Derived.Test.YtahfcgjlcdbnjaaGreatDoorMTet
namespace Go.Proofs.YtahfcgjlcdbnjaaGreatDoor
open Go.RowKit

/-- Nodes as they are handed out. -/
def nodeCells (n : Nod) : List Value := [.int .i64 n.kind, str n.uri, str n.pre, str n.loc, str n.text, .int .i64 n.deep]
def NodeRow (v : Value) (ns : List Nod) : Asn := Row 68 6 v ns.length (ns.flatMap nodeCells)
theorem infoNode : (Tryz.prog.info? 68).map (fun i => (i.zero, i.size, i.bytes)) = some (some (.agg #[.int .i64 0, .string ⟨#[]⟩, .string ⟨#[]⟩, .string ⟨#[]⟩, .string ⟨#[]⟩, .int .i64 0]), 6, 80) := by kernel_rfl
theorem undNodes : Tryz.prog.underlying 49 = some (.slice 68) := by kernel_rfl

section
variable {W w w' : World} {L : List Asn}

set_option maxHeartbeats 4000000 in
set_option maxRecDepth 100000 in
theorem parse_ok (g : Glob W) (x : Hold W w L) (s : Bytes) (hl : s.length ≤ 1048576) {l : List Tok} (hs : scan s = .ok l) (hll : l.length ≤ 1048576) (hsm : ∀ t ∈ l, SmallTok t) {ns : List Nod} (hb : buildM l = .ok ns) :
    Calls Tryz.prog 9 #[str s] w fun e w' => ∃ tp, e = .returned (.tuple #[.pointer (some ⟨tp, 0, none⟩), .int .i64 0]) ∧ Hold W w' (Tree tp ns :: L) := by
  have HX := Lib.hid x
  have HG := Lib.hid g
  have HSM := Lib.hid hsm
  have HB := Lib.hid hb
  have HS := Lib.hid hs
  clear x g hsm hb hs
  go_enter Tryz.func9, Tryz.ntmps9
  go_wp2_with fail
  refine (scan_any HG.out s (by omega) HX.out (by rw [HS.out]; simp)).mono ?_
  rw [HS.out]
  rintro e w2 ⟨v2, rfl, z⟩
  have HZ := Lib.hid z
  clear z
  go_wp2_with fail
  refine (build_any (HG.out.carry HZ.out) l v2 (TokRow.of HZ.out) hll HSM.out).mono ?_
  rw [HB.out]
  rintro e w3 ⟨tp, rfl, z⟩
  have HF := Lib.hid (HZ.out.drop.over z)
  clear z
  go_wp2_with fail
  go_ret2
  exact ⟨tp, rfl, HF.out⟩

set_option maxHeartbeats 4000000 in
set_option maxRecDepth 100000 in
theorem nodes_any {tp : Nat} {ns : List Nod} (x : Hold W w (Tree tp ns :: L)) (hn : ns.length ≤ 1000000) :
    Calls Tryz.prog 20 #[.pointer (some ⟨tp, 0, none⟩)] w fun e w' => ∃ v, e = .returned v ∧ Hold W w' (NodeRow v ns :: Tree tp ns :: L) := by
  obtain ⟨v, l, ms, hns, hsc, y⟩ := Tree.out x
  have hll : l.length = ns.length := by rw [← hns]; simp
  obtain ⟨va, vc, hv⟩ := Row.slice y.f1
  subst hv
  obtain ⟨i0, hi, hz0, hz1, hz2⟩ := info_parts infoNode
  have HY := Lib.hid y
  have HNS := Lib.hid hns
  have HSC := Lib.hid hsc
  have ct := y.cell 0
  have hlb : l.length ≤ 1000000 := by omega
  clear x y hns hsc hll
  go_enter Tryz.func20, Tryz.ntmps20
  go_wp2_with fail
  go_loopg [3, 13] l.length (fun gk v3 v13 wr => ∃ (j : Nat) (ov : Value), v3 = ov ∧ v13 = .int .i64 j ∧ gk + j = l.length ∧
    Hid (Hold W wr (NodeRow ov ((l.take j).map (·.1)) :: Asn.pts tp (.cells #[.slice va l.length vc] 75 (0, 0)) :: Nodes (.slice va l.length vc) l :: MapsA ms :: L)))
  case atStart => exact ⟨0, .slice none 0 0, rfl, rfl, by omega, Lib.hid (Row.nil HY.out)⟩
  case round =>
    obtain ⟨j, ov, rfl, rfl, hig, HZ⟩ := hrel
    by_cases hlt : j < l.length
    · have hlt' : (j : Int) < (l.length : Int) := by omega
      obtain ⟨p, hp⟩ : ∃ p, l[j]? = some p := ⟨_, List.getElem?_eq_getElem hlt⟩
      obtain ⟨nd, mo⟩ := p
      obtain ⟨gg, c, hsl, h1, h2, hcl⟩ := Nodes.read HZ.out.f2 (by omega)
      obtain ⟨rfl, rfl⟩ : va = some ⟨gg, 0, none⟩ ∧ vc = c := by cases hsl; exact ⟨rfl, rfl⟩
      have k0 := hcl j 0 nd mo _ hp rfl
      have k1 := hcl j 1 nd mo _ hp rfl
      have k2 := hcl j 2 nd mo _ hp rfl
      have k3 := hcl j 3 nd mo _ hp rfl
      have k4 := hcl j 4 nd mo _ hp rfl
      have k5 := hcl j 5 nd mo _ hp rfl
      have k6 := hcl j 6 nd mo _ hp rfl
      have k7 := hcl j 7 nd mo _ hp rfl
      have k8 := hcl j 8 nd mo _ hp rfl
      rw [Nat.add_zero] at k0
      have hln : ((l.take j).map (·.1)).length = j := by simp; omega
      have HNX : Hid ((l.take (j + 1)).map (·.1) = (l.take j).map (·.1) ++ [nd]) := by
        show _ = _
        rw [List.take_succ_eq_append_getElem hlt, (List.getElem?_eq_some_iff.1 hp).2, List.map_append]; rfl
      have HLN := Lib.hid hln
      have HA := Lib.hid ((HZ.out.alloc (.cells (nodCells nd mo).toArray 71)).allocAt (o := .cells #[.int .i64 nd.kind, str nd.uri, str nd.pre, str nd.loc, str nd.text, .int .i64 nd.deep] 68) (b := wr.heap.size + 1) rfl (by simp))
      have zz := HA.out.f2
      unfold NodeRow at zz
      rw [hln] at zz
      have HW := Lib.hid zz
      clear zz hp hcl hsl hln
      go_wp2_with (at_builtin; refine wpl_append rfl _ _ 49 rfl i0 _ 80 undNodes hi hz0 hz1 hz2 rfl (by decide) rfl HW.out ⟨wr.heap.size + 1, 0, none⟩ 1 1 [.int .i64 nd.kind, str nd.uri, str nd.pre, str nd.loc, str nd.text, .int .i64 nd.deep] rfl rfl (news_of HA.out) (by simp [Value.oneCell']) ?c1 ?c2 ?_)
      case c1 => unfold maxLen; omega
      case c2 => omega
      intro v' w14 z
      have HF : Hid (Hold W w14 (NodeRow v' ((l.take (j + 1)).map (·.1)) :: Asn.pts tp (.cells #[.slice (some ⟨gg, 0, none⟩) l.length vc] 75 (0, 0)) :: Nodes (.slice (some ⟨gg, 0, none⟩) l.length vc) l :: MapsA ms :: L)) := by
        show Hold _ _ _
        unfold NodeRow
        rw [HNX.out, List.length_append, HLN.out, List.length_singleton, List.flatMap_append]
        have z := (z.re [1, 2, 0, 3, 4, 5]).drop.drop
        simpa [nodeCells] using z
      clear z
      go_wp2_with fail
      go_roundg (gk - 1)
      case measure => omega
      case rel => exact ⟨j + 1, _, rfl, by go_num, by omega, HF⟩
    · have hge : ¬ (j : Int) < (l.length : Int) := by omega
      have FIN : ∀ uv, Hold W wr (NodeRow uv ((l.take j).map (·.1)) :: Asn.pts tp (.cells #[.slice va l.length vc] 75 (0, 0)) :: Nodes (.slice va l.length vc) l :: MapsA ms :: L) → Hold W wr (NodeRow uv ns :: Tree tp ns :: L) := fun uv z => by
        rw [List.take_of_length_le (by omega), HNS.out] at z
        have := (Tree.mk HSC.out (z.re [1, 2, 3, 0]))
        rw [HNS.out] at this
        exact this.f1
      have HF := Lib.hid (FIN _ HZ.out)
      clear FIN
      go_wp2_with fail
      go_ret
      exact ⟨_, rfl, HF.out⟩
end
end Go.Proofs.YtahfcgjlcdbnjaaGreatDoor
/- TopEntities, walked. -/
namespace Go.Proofs.YtahfcgjlcdbnjaaGreatDoor
open Go.RowKit

section
variable {W w w' : World} {L : List Asn}

theorem NodeRow.read {v : Value} {ns : List Nod} (x : Hold W w (NodeRow v ns :: L)) (h : 0 < ns.length) :
    ∃ g c, v = .slice (some ⟨g, 0, none⟩) ns.length c ∧ ∀ (i j : Nat) n u, ns[i]? = some n → (nodeCells n)[j]? = some u → w.cell? ⟨g, i * 6 + j, none⟩ = some u := by
  obtain ⟨g, c, hv, h1, h2, hc⟩ := Row.read x h
  refine ⟨g, c, hv, fun i j n u hi hj => hc _ _ ?_⟩
  have hj6 : j < 6 := (List.getElem?_eq_some_iff.1 hj).1
  rw [flatMap_at nodeCells 6 (fun _ => rfl) ns i j hj6, hi]
  exact hj

set_option maxHeartbeats 4000000 in
set_option maxRecDepth 100000 in
theorem alike_any {v1 v2 : Value} {ns : List Nod} (x : Hold W w (NodeRow v1 ns :: NodeRow v2 ns :: L)) (h : 0 < ns.length) (hb : ns.length ≤ 1000000) :
    Calls Tryz.prog 19 #[v1, v2] w fun e w' => e = .returned (.bool true) ∧ Hold W w' (NodeRow v1 ns :: NodeRow v2 ns :: L) := by
  obtain ⟨g1, c1, rfl, hc1⟩ := NodeRow.read x h
  obtain ⟨g2, c2, rfl, hc2⟩ := NodeRow.read x.f1 h
  have HX := Lib.hid x
  clear hc1 hc2 x
  obtain ⟨N, hN⟩ : ∃ N, ns.length = N := ⟨_, rfl⟩
  rw [hN]
  rw [hN] at HX
  have HN := Lib.hid hN
  rw [hN] at hb
  clear hN h
  go_enter Tryz.func19, Tryz.ntmps19
  go_wp2_with fail
  go_loopg [5] N (fun gk v5 wr => ∃ j : Nat, v5 = .int .i64 j ∧ j + gk = N ∧ Hid (Hold W wr (NodeRow (.slice (some ⟨g1, 0, none⟩) N c1) ns :: NodeRow (.slice (some ⟨g2, 0, none⟩) N c2) ns :: L)))
  case atStart => exact ⟨0, rfl, by omega, HX⟩
  case round =>
    obtain ⟨j, rfl, hig, HZ⟩ := hrel
    by_cases hlt : j < N
    · have hlt' : (j : Int) < (N : Int) := by omega
      obtain ⟨nd, hnd⟩ : ∃ n, ns[j]? = some n := ⟨_, List.getElem?_eq_getElem (by have := HN.out; omega)⟩
      obtain ⟨g1', c1', hs1, hc1⟩ := NodeRow.read HZ.out (by have := HN.out; omega)
      obtain ⟨g2', c2', hs2, hc2⟩ := NodeRow.read HZ.out.f1 (by have := HN.out; omega)
      obtain rfl : g1 = g1' := by cases hs1; rfl
      obtain rfl : g2 = g2' := by cases hs2; rfl
      have a0 := hc1 j 0 nd _ hnd rfl
      have a1 := hc1 j 1 nd _ hnd rfl
      have a3 := hc1 j 3 nd _ hnd rfl
      have a4 := hc1 j 4 nd _ hnd rfl
      have a5 := hc1 j 5 nd _ hnd rfl
      have b0 := hc2 j 0 nd _ hnd rfl
      have b1 := hc2 j 1 nd _ hnd rfl
      have b3 := hc2 j 3 nd _ hnd rfl
      have b4 := hc2 j 4 nd _ hnd rfl
      have b5 := hc2 j 5 nd _ hnd rfl
      rw [Nat.add_zero] at a0 b0
      clear hc1 hc2 hs1 hs2 hnd
      go_wp2_with fail
      simp only [List.append]
      go_quiet (fail)
      have HZ2 := Lib.hid (HZ.out.drewN nq)
      generalize wr.drewN nq = w3 at *
      go_wp2_with fail
      go_roundg (gk - 1)
      case measure => omega
      case rel => exact ⟨j + 1, by go_num, by omega, HZ2⟩
    · have hge : ¬ (j : Int) < (N : Int) := by omega
      go_wp2_with fail
      go_ret
      exact ⟨rfl, HZ.out⟩

set_option maxHeartbeats 1000000 in
theorem len_any4 {tp : Nat} {ns : List Nod} (x : Hold W w (Tree tp ns :: L)) :
    Calls Tryz.prog 14 #[.pointer (some ⟨tp, 0, none⟩)] w fun e w' => e = .returned (.int .i64 ns.length) ∧ w = w' := by
  obtain ⟨v, l, ms, hns, hsc, y⟩ := Tree.out x
  have hll : ns.length = l.length := by rw [← hns]; simp
  obtain ⟨va, vc, hv⟩ := Row.slice y.f1
  subst hv
  have ct := y.cell 0
  rw [hll]
  clear x y hns hsc hll
  go_enter Tryz.func14, Tryz.ntmps14
  go_wp2_with fail
  go_ret
  exact ⟨rfl, rfl⟩

theorem buildE {s : Bytes} (attr : Bool) (h : s.all low = true) : buildM (toksE s attr) = .ok (treeE s attr) := by
  unfold buildM
  rw [whole_toksE attr h, if_pos rfl, tree_toksE]
theorem smallE {s : Bytes} (attr : Bool) (h : s.length ≤ 2000) : ∀ t ∈ toksE s attr, SmallTok t := by
  intro t ht
  cases attr
  · simp only [toksE, Bool.false_eq_true, if_false, List.mem_cons, List.not_mem_nil, or_false] at ht
    rcases ht with rfl | rfl | rfl <;> exact ⟨by simp, by simp <;> omega, by simp, fun p hp => by cases hp⟩
  · simp only [toksE, if_true, List.mem_cons, List.not_mem_nil, or_false] at ht
    rcases ht with rfl | rfl
    · exact ⟨by simp, by simp, by simp, fun p hp => by simp at hp; subst hp; exact ⟨by simp, by simp; omega⟩⟩
    · exact ⟨by simp, by simp, by simp, fun p hp => by cases hp⟩
end
end Go.Proofs.YtahfcgjlcdbnjaaGreatDoor
/- TopEntities, walked: the law. -/
namespace Go.Proofs.YtahfcgjlcdbnjaaGreatDoor
open Go.RowKit

theorem low_take {s : Bytes} {i : Nat} {c : UInt8} (h : (s.take i).all low = true) (hi : i < s.length) (hc : s[i] = c) (hl : low c = true) : (s.take (i + 1)).all low = true := by
  rw [List.take_succ_eq_append_getElem hi, List.all_append, h, hc]
  simp [hl]

section
variable {W w w' : World} {L : List Asn}

set_option maxHeartbeats 8000000 in
set_option maxRecDepth 100000 in
theorem topEntities_any (g : Glob w) (s : Bytes) (hl : s.length ≤ 9223372036854775807) (attr : Bool) :
    Calls Tryz.prog 5 #[str s, .bool attr] w fun e w' => e = .returned (.bool true) ∧ Below w.heap.size w w' := by
  have HG := Lib.hid g
  clear g
  go_enter Tryz.func5, Tryz.ntmps5
  go_wp2_with fail
  go_loopg [5] s.length (fun gk v5 wr => w = wr ∧ ∃ i : Nat, v5 = .int .i64 i ∧ i + gk = s.length ∧ Hid ((s.take i).all low = true))
  case atStart => exact ⟨rfl, 0, rfl, by omega, rfl⟩
  case round =>
    obtain ⟨rfl, i, rfl, hig, HF⟩ := hrel
    by_cases hlt : i < s.length
    · have hlt' : (i : Int) < (s.length : Int) := by omega
      obtain ⟨c, hc⟩ : ∃ c : UInt8, (⟨s.toArray⟩ : ByteArray)[i]'(by simpa [ByteArray.size] using hlt) = c := ⟨_, rfl⟩
      have hcl : s[i] = c := hc
      have hcb := c.toNat_lt
      have NXT : Hid (low c = true → (s.take (i + 1)).all low = true) := fun hl => low_take HF.out hlt hcl hl
      clear hcl
      by_cases h1 : (97 : Int) ≤ (c.toNat : Int)
      · by_cases h2 : (c.toNat : Int) ≤ 122
        · have HL := Lib.hid (NXT.out (by unfold low; simp; omega))
          go_wp2_with fail
          go_roundg (gk - 1)
          case measure => omega
          case rel => exact ⟨rfl, i + 1, by go_num, by omega, HL⟩
        · have h3 : (48 : Int) ≤ (c.toNat : Int) := by omega
          have h4 : ¬ (c.toNat : Int) ≤ 57 := by omega
          have h5 : ((c.toNat : Int) == 32) = false := by rw [beq_eq_false_iff_ne]; omega
          go_wp2_with fail
          go_ret
          exact ⟨rfl, Below.refl _ _⟩
      · by_cases h3 : (48 : Int) ≤ (c.toNat : Int)
        · by_cases h4 : (c.toNat : Int) ≤ 57
          · have HL := Lib.hid (NXT.out (by unfold low; simp; omega))
            go_wp2_with fail
            go_roundg (gk - 1)
            case measure => omega
            case rel => exact ⟨rfl, i + 1, by go_num, by omega, HL⟩
          · have h5 : ((c.toNat : Int) == 32) = false := by rw [beq_eq_false_iff_ne]; omega
            go_wp2_with fail
            go_ret
            exact ⟨rfl, Below.refl _ _⟩
        · by_cases h5 : c = 32
          · have HL := Lib.hid (NXT.out (by rw [h5]; decide))
            have h6 : ((c.toNat : Int) == 32) = true := by rw [h5]; rfl
            clear h5
            go_wp2_with fail
            go_roundg (gk - 1)
            case measure => omega
            case rel => exact ⟨rfl, i + 1, by go_num, by omega, HL⟩
          · have h6 : ((c.toNat : Int) == 32) = false := by
              rw [beq_eq_false_iff_ne]
              intro h
              exact h5 (UInt8.toNat_inj.1 (by have : (32 : UInt8).toNat = 32 := rfl; omega))
            clear h5
            go_wp2_with fail
            go_ret
            exact ⟨rfl, Below.refl _ _⟩
    · have hge : ¬ (i : Int) < (s.length : Int) := by omega
      have hlow : s.all low = true := by
        have := HF.out
        rwa [List.take_of_length_le (by omega)] at this
      have HLOW := Lib.hid hlow
      clear hlow
      by_cases h2 : s.length ≤ 2000
      · have h2' : ¬ (2000 : Int) < (s.length : Int) := by omega
        have e1 : ((⟨#[60, 33, 68, 79, 67, 84, 89, 80, 69, 32, 97, 32, 91, 60, 33, 69, 78, 84, 73, 84, 89, 32, 102, 32, 39]⟩ : ByteArray) ++ ⟨s.toArray⟩) = ⟨([60, 33, 68, 79, 67, 84, 89, 80, 69, 32, 97, 32, 91, 60, 33, 69, 78, 84, 73, 84, 89, 32, 102, 32, 39] ++ s).toArray⟩ := bytes_ext (by simp [ByteArray.data_append])
        have e2 : ((⟨([60, 33, 68, 79, 67, 84, 89, 80, 69, 32, 97, 32, 91, 60, 33, 69, 78, 84, 73, 84, 89, 32, 102, 32, 39] ++ s).toArray⟩ : ByteArray) ++ ⟨#[39, 62, 60, 33, 69, 78, 84, 73, 84, 89, 32, 101, 32, 39, 38, 102, 59, 39, 62, 93, 62]⟩) = ⟨([60, 33, 68, 79, 67, 84, 89, 80, 69, 32, 97, 32, 91, 60, 33, 69, 78, 84, 73, 84, 89, 32, 102, 32, 39] ++ s ++ [39, 62, 60, 33, 69, 78, 84, 73, 84, 89, 32, 101, 32, 39, 38, 102, 59, 39, 62, 93, 62]).toArray⟩ := bytes_ext (by simp [ByteArray.data_append])
        obtain ⟨H1, hH1⟩ : ∃ x, x = [60, 33, 68, 79, 67, 84, 89, 80, 69, 32, 97, 32, 91, 60, 33, 69, 78, 84, 73, 84, 89, 32, 102, 32, 39] ++ s := ⟨_, rfl⟩
        obtain ⟨H2, hH2⟩ : ∃ x, x = [60, 33, 68, 79, 67, 84, 89, 80, 69, 32, 97, 32, 91, 60, 33, 69, 78, 84, 73, 84, 89, 32, 102, 32, 39] ++ s ++ [39, 62, 60, 33, 69, 78, 84, 73, 84, 89, 32, 101, 32, 39, 38, 102, 59, 39, 62, 93, 62] := ⟨_, rfl⟩
        rw [← hH1] at e1 e2 hH2
        rw [← hH2] at e2
        have hl1 : H1.length ≤ 2025 := by rw [hH1]; simp; omega
        have hl2 : H2.length ≤ 2046 := by rw [hH2]; simp; omega
        cases attr
        · have e3 : ((⟨H2.toArray⟩ : ByteArray) ++ ⟨#[60, 97, 62, 120, 38, 101, 59, 121, 60, 47, 97, 62]⟩) = ⟨(docE s false).toArray⟩ := bytes_ext (by rw [hH2, hH1]; simp [ByteArray.data_append, docE])
          have f1 : ((⟨#[60, 97, 62, 120]⟩ : ByteArray) ++ ⟨s.toArray⟩) = ⟨([60, 97, 62, 120] ++ s).toArray⟩ := bytes_ext (by simp [ByteArray.data_append])
          obtain ⟨F1, hF1⟩ : ∃ x, x = [60, 97, 62, 120] ++ s := ⟨_, rfl⟩
          rw [← hF1] at f1
          have hlf : F1.length ≤ 2004 := by rw [hF1]; simp; omega
          have f2 : ((⟨F1.toArray⟩ : ByteArray) ++ ⟨#[121, 60, 47, 97, 62]⟩) = ⟨([60, 97, 62, 120] ++ (s ++ [121, 60, 47, 97, 62])).toArray⟩ := bytes_ext (by rw [hF1]; simp [ByteArray.data_append])
          have hd1 : (docE s false).length ≤ 1048576 := by simp [docE]; omega
          have hd2 : ([60, 97, 62, 120] ++ (s ++ [121, 60, 47, 97, 62])).length ≤ 1048576 := by simp; omega
          have P1 := Lib.hid (fun (W w : World) (L : List Asn) (g : Glob W) (x : Hold W w L) => parse_ok g x (docE s false) hd1 (scanET s (low_fine HLOW.out) h2) (by simp [toksE]) (smallE false h2) (buildE false HLOW.out))
          have P2 := Lib.hid (fun (W w : World) (L : List Asn) (g : Glob W) (x : Hold W w L) => parse_ok g x ([60, 97, 62, 120] ++ (s ++ [121, 60, 47, 97, 62])) hd2 (scanEB s HLOW.out h2) (by simp [toksE]) (smallE false h2) (buildE false HLOW.out))
          clear hH1 hH2 hF1 hd1 hd2
          generalize docE s false = D1 at *
          generalize [60, 97, 62, 120] ++ (s ++ [121, 60, 47, 97, 62]) = D2 at *
          have hT : Hid ((treeE s false).length = 3) := rfl
          generalize treeE s false = T at *
          go_wp2_with fail
          refine (P1.out _ _ _ HG.out (Hold.start w)).mono ?_
          rintro e w1 ⟨t1, rfl, z⟩
          have Z1 := Lib.hid z
          clear z
          go_wp2_with fail
          refine (P2.out _ _ _ HG.out Z1.out).mono ?_
          rintro e w2 ⟨t2, rfl, z⟩
          have Z2 := Lib.hid z.f1
          clear z
          go_wp2_with fail
          refine (nodes_any Z2.out (by have := hT.out; omega)).mono ?_
          rintro e w3 ⟨v1, rfl, z⟩
          have Z3 := Lib.hid (z.re [2, 0, 1])
          clear z
          go_wp2_with fail
          refine (nodes_any Z3.out (by have := hT.out; omega)).mono ?_
          rintro e w4 ⟨v2, rfl, z⟩
          have Z4 := Lib.hid (z.re [2, 0, 1, 3])
          clear z
          go_wp2_with fail
          refine (alike_any Z4.out (by have := hT.out; omega) (by have := hT.out; omega)).mono ?_
          rintro e w5 ⟨rfl, z⟩
          have Z5 := Lib.hid (z.re [3, 0, 1, 2])
          clear z
          go_wp2_with fail
          refine (len_any4 Z5.out).mono ?_
          rintro e w6 ⟨rfl, rfl⟩
          rw [hT.out]
          go_wp2_with fail
          go_ret
          exact ⟨rfl, Z5.out.old⟩
        · have e3 : ((⟨H2.toArray⟩ : ByteArray) ++ ⟨#[60, 97, 32, 98, 61, 39, 38, 101, 59, 38, 101, 59, 39, 47, 62]⟩) = ⟨(docE s true).toArray⟩ := bytes_ext (by rw [hH2, hH1]; simp [ByteArray.data_append, docE])
          have f0 : ((⟨#[60, 97, 62, 120]⟩ : ByteArray) ++ ⟨s.toArray⟩) = ⟨([60, 97, 62, 120] ++ s).toArray⟩ := bytes_ext (by simp [ByteArray.data_append])
          obtain ⟨F0, hF0⟩ : ∃ x, x = [60, 97, 62, 120] ++ s := ⟨_, rfl⟩
          rw [← hF0] at f0
          have hl0 : F0.length ≤ 2004 := by rw [hF0]; simp; omega
          have f00 : ((⟨F0.toArray⟩ : ByteArray) ++ ⟨#[121, 60, 47, 97, 62]⟩) = ⟨(F0 ++ [121, 60, 47, 97, 62]).toArray⟩ := bytes_ext (by simp [ByteArray.data_append])
          have f1 : ((⟨#[60, 97, 32, 98, 61, 39]⟩ : ByteArray) ++ ⟨s.toArray⟩) = ⟨([60, 97, 32, 98, 61, 39] ++ s).toArray⟩ := bytes_ext (by simp [ByteArray.data_append])
          obtain ⟨F1, hF1⟩ : ∃ x, x = [60, 97, 32, 98, 61, 39] ++ s := ⟨_, rfl⟩
          rw [← hF1] at f1
          have hlf : F1.length ≤ 2006 := by rw [hF1]; simp; omega
          obtain ⟨F2, hF2⟩ : ∃ x, x = F1 ++ s := ⟨_, rfl⟩
          have f2 : ((⟨F1.toArray⟩ : ByteArray) ++ ⟨s.toArray⟩) = ⟨F2.toArray⟩ := bytes_ext (by rw [hF2]; simp [ByteArray.data_append])
          have hlf2 : F2.length ≤ 4006 := by rw [hF2]; simp; omega
          have f3 : ((⟨F2.toArray⟩ : ByteArray) ++ ⟨#[39, 47, 62]⟩) = ⟨([60, 97, 32, 98, 61, 39] ++ ((s ++ s) ++ [39, 47, 62])).toArray⟩ := bytes_ext (by rw [hF2, hF1]; simp [ByteArray.data_append])
          have hd1 : (docE s true).length ≤ 1048576 := by simp [docE]; omega
          have hd2 : ([60, 97, 32, 98, 61, 39] ++ ((s ++ s) ++ [39, 47, 62])).length ≤ 1048576 := by simp; omega
          have hss : (s ++ s).all low = true := by rw [List.all_append, HLOW.out]; rfl
          have P1 := Lib.hid (fun (W w : World) (L : List Asn) (g : Glob W) (x : Hold W w L) => parse_ok g x (docE s true) hd1 (scanEA s (low_fine HLOW.out) h2) (by simp [toksE]) (smallE true h2) (buildE true HLOW.out))
          have P2 := Lib.hid (fun (W w : World) (L : List Asn) (g : Glob W) (x : Hold W w L) => parse_ok g x ([60, 97, 32, 98, 61, 39] ++ ((s ++ s) ++ [39, 47, 62])) hd2 (scanEV (s ++ s) hss (by simp; omega)) (l := toksE s true) (by simp [toksE]) (smallE true h2) (buildE true HLOW.out))
          clear hH1 hH2 hF1 hF2 hF0 hd1 hd2 hss
          generalize docE s true = D1 at *
          generalize [60, 97, 32, 98, 61, 39] ++ ((s ++ s) ++ [39, 47, 62]) = D2 at *
          have hT : Hid ((treeE s true).length = 3) := rfl
          generalize treeE s true = T at *
          go_wp2_with fail
          refine (P1.out _ _ _ HG.out (Hold.start w)).mono ?_
          rintro e w1 ⟨t1, rfl, z⟩
          have Z1 := Lib.hid z
          clear z
          go_wp2_with fail
          refine (P2.out _ _ _ HG.out Z1.out).mono ?_
          rintro e w2 ⟨t2, rfl, z⟩
          have Z2 := Lib.hid z.f1
          clear z
          go_wp2_with fail
          refine (nodes_any Z2.out (by have := hT.out; omega)).mono ?_
          rintro e w3 ⟨v1, rfl, z⟩
          have Z3 := Lib.hid (z.re [2, 0, 1])
          clear z
          go_wp2_with fail
          refine (nodes_any Z3.out (by have := hT.out; omega)).mono ?_
          rintro e w4 ⟨v2, rfl, z⟩
          have Z4 := Lib.hid (z.re [2, 0, 1, 3])
          clear z
          go_wp2_with fail
          refine (alike_any Z4.out (by have := hT.out; omega) (by have := hT.out; omega)).mono ?_
          rintro e w5 ⟨rfl, z⟩
          have Z5 := Lib.hid (z.re [3, 0, 1, 2])
          clear z
          go_wp2_with fail
          refine (len_any4 Z5.out).mono ?_
          rintro e w6 ⟨rfl, rfl⟩
          rw [hT.out]
          go_wp2_with fail
          go_ret
          exact ⟨rfl, Z5.out.old⟩
      · have h2' : (2000 : Int) < (s.length : Int) := by omega
        go_wp2_with fail
        go_ret
        exact ⟨rfl, Below.refl _ _⟩
end
end Go.Proofs.YtahfcgjlcdbnjaaGreatDoor
