/- strings.Replacer of single letters: the text with its letters replaced. -/
import Derived.Test.YtahfcgjlcdbnjaaGreatDoorMRep
import Derived.Lib.SlBuf
import Derived.Laws.BytesString
namespace Go.Proofs.YtahfcgjlcdbnjaaGreatDoor
open Go.RowKit

/-- What the built table's cells say. -/
structure RepTab (w : World) (g : Nat) (ps : Pairs) : Prop where
  off : ∀ c : UInt8, (∀ p ∈ ps, p.1 ≠ c) → w.cell? ⟨g, c.toNat, none⟩ = some (.slice none 0 0)
  on : ∀ p ∈ ps, ∃ b cap, w.cell? ⟨g, p.1.toNat, none⟩ = some (.slice (some ⟨b, 0, none⟩) p.2.length cap) ∧ ∀ (j : Nat) u, p.2[j]? = some u → w.cell? ⟨b, j, none⟩ = some (.int .u8 (u.toNat : Int))
  keys : ∃ t c, w.cell? ⟨g, 256, none⟩ = some (.slice (some ⟨t, 0, none⟩) ps.length c) ∧ ∀ (j : Nat) p, ps.reverse[j]? = some p → w.cell? ⟨t, j, none⟩ = some (str [p.1])

section
variable {W w : World} {L : List Asn} {b i : Nat} {cs : Array Value} {T : TypeId}

theorem add0 (b j : Nat) : (⟨b, 0, none⟩ : Addr).add j = ⟨b, j, none⟩ := by unfold Addr.add; split <;> simp_all

theorem RepIs.tab {wr : World} {g : Nat} {ps : Pairs} (h : RepIs w wr g ps []) (hp : 0 < ps.length) : Hold w wr [Own fun w => RepTab w g ps] := by
  obtain ⟨cs, zs, a, c, hz, x⟩ := h.st
  obtain ⟨hT, h256, hps⟩ := hz.out
  have hps : ps = (zs.map (·.1)).reverse := by simpa using hps
  have hlen : ps.length = zs.length := by rw [hps]; simp
  obtain ⟨hl, hc⟩ := Row.cases x.f1
  rcases hc with ⟨_, h0, _⟩ | ⟨t, cap, cur, hv, h4, h5, h6, h7, y⟩
  · omega
  · cases hv
    have y := Own.block (Q := fun w => ∀ k u, ((keysZ zs).map str)[k]? = some u → w.cell? ⟨t, k, none⟩ = some u) (y.re [0, 2, 1]) (fun w hb k u hu => by
      simp only [World.cell?, hb]
      rw [← h7, List.getElem?_take] at hu
      split at hu
      · simpa using hu
      · cases hu)
    have y := Own.block (Q := fun w => ∀ k, w.cell? ⟨g, k, none⟩ = cs[k]?) y.f1 (fun w hb k => by simp [World.cell?, hb])
    refine Own.mono y fun w hw => ?_
    obtain ⟨⟨h1, h2⟩, h3⟩ := hw
    refine ⟨fun k hk => ?_, fun p hp => ?_, t, c, ?_, fun j p hj => ?_⟩
    · rw [h3]
      refine hT.off k fun z hz => hk z.1 ?_
      rw [hps]; simp; exact ⟨z.2.1, z.2.2, hz⟩
    · rw [hps] at hp
      simp at hp
      obtain ⟨b, cap, hz⟩ := hp
      exact ⟨b, cap, by rw [h3]; exact hT.on _ hz, fun j u hu => h1 _ hz j u hu⟩
    · rw [h3, h256, hlen]
    · refine h2 j _ ?_
      have : ps.reverse = zs.map (·.1) := by rw [hps]; simp
      rw [this, List.getElem?_map] at hj
      obtain ⟨z, hz, rfl⟩ := Option.map_eq_some_iff.1 hj
      simp [keysZ, hz]

theorem RepTab.keep {w w' : World} {g : Nat} {ps : Pairs} (h : RepTab w g ps) (x : Hold w w' L) : RepTab w' g ps :=
  ⟨fun c hc => x.oldCell (h.off c hc), fun p hp => by
    obtain ⟨b, cap, h1, h2⟩ := h.on p hp
    exact ⟨b, cap, x.oldCell h1, fun j u hu => x.oldCell (h2 j u hu)⟩, by
    obtain ⟨t, c, h1, h2⟩ := h.keys
    exact ⟨t, c, x.oldCell h1, fun j p hp => x.oldCell (h2 j p hp)⟩⟩

/-- A letter's cell. -/
theorem RepTab.at_ {g : Nat} {ps : Pairs} (h : RepTab w g ps) (hnd : (ps.map (·.1)).Nodup) (_hlong : ∀ p ∈ ps, p.2.length ≠ 1) (c : UInt8) :
    (replB ps c = [c] ∧ w.cell? ⟨g, c.toNat, none⟩ = some (.slice none 0 0)) ∨
    (∃ p ∈ ps, p.1 = c ∧ replB ps c = p.2 ∧ ∃ b cap, w.cell? ⟨g, c.toNat, none⟩ = some (.slice (some ⟨b, 0, none⟩) (replB ps c).length cap) ∧ Lib.HoldsBytes w (.slice (some ⟨b, 0, none⟩) (replB ps c).length cap) (replB ps c)) := by
  by_cases hc : ∃ p ∈ ps, p.1 = c
  · obtain ⟨p, hp, rfl⟩ := hc
    obtain ⟨b, cap, h1, h2⟩ := h.on p hp
    have e := replB_mem hnd hp
    refine .inr ⟨p, hp, rfl, e, b, cap, by rw [e]; exact h1, ?_⟩
    rw [e]
    exact ⟨_, cap, rfl, (fun h => by cases h), fun a ha j u hu => by cases ha; rw [add0]; exact h2 j u hu⟩
  · have hc : ∀ p ∈ ps, p.1 ≠ c := fun p hp he => hc ⟨p, hp, he⟩
    exact .inl ⟨replB_off hc, h.off c hc⟩

def anyP (ps : Pairs) (s : Bytes) : Bool := ps.any fun p => decide (0 < Lib.countByte s p.1)
theorem anyP_snoc (ps : Pairs) (p : UInt8 × Bytes) (s : Bytes) : anyP (ps ++ [p]) s = (anyP ps s || decide (0 < Lib.countByte s p.1)) := by simp [anyP]
theorem countByte_le (s : Bytes) (c : UInt8) : Lib.countByte s c ≤ s.length := by unfold Lib.countByte; exact List.count_le_length

theorem growP_le {s : Bytes} : ∀ {ps : Pairs}, (∀ p ∈ ps, p.2.length ≤ 6) → growP ps s ≤ ps.length * (5 * s.length)
  | [], _ => by simp [growP]
  | p :: ps, h => by
    have ih := growP_le (s := s) (ps := ps) fun q hq => h q (by simp [hq])
    have h1 := h p (by simp)
    have h2 := countByte_le s p.1
    have : Lib.countByte s p.1 * (p.2.length - 1) ≤ s.length * 5 := Nat.mul_le_mul h2 (by omega)
    simp only [growP, List.map_cons, List.sum_cons, List.length_cons, Nat.add_mul] at ih ⊢
    omega

theorem any_iff {ps : Pairs} (hnd : (ps.map (·.1)).Nodup) (_hne : ∀ p ∈ ps, p.2 ≠ []) (hlong : ∀ p ∈ ps, p.2.length ≠ 1) (s : Bytes) : (s.any fun c => decide (replB ps c ≠ [c])) = anyP ps s := by
  have key : ((s.any fun c => decide (replB ps c ≠ [c])) = true) ↔ (anyP ps s = true) := by
    unfold anyP
    rw [List.any_eq_true, List.any_eq_true]
    constructor
    · rintro ⟨c, hc, h⟩
      have h : replB ps c ≠ [c] := of_decide_eq_true h
      by_cases hk : ∃ p ∈ ps, p.1 = c
      · obtain ⟨p, hp, rfl⟩ := hk
        exact ⟨p, hp, by simp [Lib.countByte, List.count_pos_iff, hc]⟩
      · exact absurd (replB_off fun p hp he => hk ⟨p, hp, he⟩) h
    · rintro ⟨p, hp, h⟩
      have h : 0 < Lib.countByte s p.1 := of_decide_eq_true h
      refine ⟨p.1, List.count_pos_iff.1 h, ?_⟩
      rw [replB_mem hnd hp]
      simp
      intro he
      have := hlong p hp
      rw [he] at this; simp at this
  exact Bool.eq_iff_iff.2 key

theorem sizeByte (w : World) : (Go.sizeOf 5).run Tryz.prog w = .ok 1 w := by
  obtain ⟨i0, hi, hz0, hz1, hz2⟩ := info_parts infoByte
  simp [sizeOf, typeInfo, hi, hz1]

theorem sizeB : (Tryz.prog.info? 5).map (·.size) = some 1 := by kernel_rfl

/-- copy in a region that draws its order, where its run is known. -/
theorem step_copy_run {P : Program} {ops : Array Oper} {o : Oper} {a : Act} {w : World} {K : Act → World → Prop} {Q : Exit → Act → World → Prop} {E : Prop} (hgd : o.guard = none) (d s : Operand) (t t' : TypeId)
    (ho : o.op = .call { callee := .builtin .copy, args := #[d, s], argTypes := #[t, t'] }) (v u : Value) (hd : a.eval d = v) (hs : a.eval s = u) {v' : Value} {w' : World}
    (hr : (Builtin.copy_ #[t, t'] o.type #[v, u]).run P w = .ok v' w') (h : K (a.put o.dst v') w') :
    if Region.wanted o (yielded ops a.tmps) = true then Oper.wp P o a w K Q else E := by
  have hw : Region.wanted o (yielded ops a.tmps) = true := by simp [Region.wanted, hgd]
  rw [if_pos hw]
  exact Lib.wp_copy_run w d s t t' ho v u hd hs hr h

theorem Buf.drew {w0 wr : World} {h N : Nat} {acc : Bytes} (x : Lib.Buf w0 wr h N acc) : Lib.Buf w0 wr.drew h N acc :=
  ⟨⟨x.below.os, x.below.tape, x.below.output, x.below.size, x.below.block⟩, x.there, x.free, x.holds, x.fits⟩

theorem makeBytes (w : World) (N : Nat) (hN : N ≤ 1099511627776) : ∃ C : Array Value, C.size = N ∧ (Instr.makeSlice 93 (.int .i64 (N : Int)) (.int .i64 (N : Int))).run Tryz.prog w = .ok (.slice (some ⟨w.heap.size, 0, none⟩) N N) (w.alloc (.cells C 5)) := by
  obtain ⟨i0, hi, hz0, hz1, hz2⟩ := info_parts infoByte
  have := run_make (P := Tryz.prog) w 93 5 i0 _ undBytes hi hz0 .i64 .i64 N N (by omega) (Int.le_refl _) (by rw [hz2]; omega) (by omega)
  rw [hz1] at this
  refine ⟨madeCells (Value.int .u8 0).cells ((N : Int).toNat * 1), ?_, ?_⟩
  · rw [size_madeCells]; omega
  · rw [this]
    simp

theorem Buf.push {w0 wr : World} {h N : Nat} {acc : Bytes} (x : Lib.Buf w0 wr h N acc) (c : UInt8) (hl : acc.length < N) : Lib.Buf w0 (wr.setCell ⟨h, acc.length, none⟩ (.int .u8 (c.toNat : Int))) h N (acc ++ [c]) := by
  refine ⟨Lib.below_setCells h (Nat.le_refl _) [.int .u8 (c.toNat : Int)] acc.length x.below, fun j hj => ?_, fun j hj => ?_, fun j u hu => ?_, by simp; omega⟩
  · by_cases e : j = acc.length
    · subst e
      obtain ⟨v, hv⟩ := Option.isSome_iff_exists.1 (x.there _ hl)
      rw [World.cell?_setCell_same wr _ _ hv]; rfl
    · rw [World.cell?_setCell_other _ ⟨h, acc.length, none⟩ ⟨h, j, none⟩ _ (by first | (simp; done) | (simp; omega))]
      exact x.there j hj
  · simp [x.free j hj]
  · by_cases e : j = acc.length
    · subst e
      obtain rfl : c = u := by simpa using hu
      obtain ⟨v, hv⟩ := Option.isSome_iff_exists.1 (x.there _ hl)
      exact World.cell?_setCell_same wr _ _ hv
    · rw [World.cell?_setCell_other _ ⟨h, acc.length, none⟩ ⟨h, j, none⟩ _ (by first | (simp; done) | (simp; omega))]
      have hlt : j < acc.length := by
        have := (List.getElem?_eq_some_iff.1 hu).1
        simp at this; omega
      rw [List.getElem?_append_left hlt] at hu
      exact x.holds j u hu

set_option maxRecDepth 100000 in
set_option maxHeartbeats 8000000 in
theorem bsrReplace_any (g : Nat) (ps : Pairs) (h : RepTab w g ps) (hnd : (ps.map (·.1)).Nodup) (hne : ∀ p ∈ ps, p.2 ≠ []) (hlong : ∀ p ∈ ps, p.2.length ≠ 1) (h6 : ∀ p ∈ ps, p.2.length ≤ 6) (hp : ps.length ≤ 10) (s : Bytes) (hl : s.length ≤ 4294967296) :
    Calls Tryz.prog 299 #[.pointer (some ⟨g, 0, none⟩), str s] w fun e w' => e = .returned (str (repl ps s)) ∧ Below w.heap.size w w' := by
  obtain ⟨n, hn⟩ : ∃ n, n = ps.length := ⟨_, rfl⟩
  have H := Lib.hid h
  obtain ⟨tk, tc, hk1, hk2⟩ := h.keys
  rw [← hn] at hk1
  have HK := Lib.hid hk2
  have HN := Lib.hid hn
  have hp : n ≤ 10 := by omega
  have HND := Lib.hid hnd
  have HNE := Lib.hid hne
  have HLO := Lib.hid hlong
  have H6 := Lib.hid h6
  clear h hk2 hn hnd hne hlong h6
  go_enter Tryz.func299, Tryz.ntmps299
  by_cases hmode : (n : Int) * 8 ≤ (s.length : Int)
  · go_wp2_with fail
    go_loopg [5, 6, 32] n (fun gk v5 v6 v32 wr => Hid (Hold w wr []) ∧ ∃ (i N : Nat), v32 = .int .i64 i ∧ i + gk = n ∧ v5 = .int .i64 N ∧ Hid (N = s.length + growP (ps.reverse.take i) s) ∧ v6 = .bool (anyP (ps.reverse.take i) s))
    case atStart => exact ⟨Lib.hid (Hold.start w), 0, s.length, rfl, by omega, rfl, rfl, rfl⟩
    case round =>
      obtain ⟨HX, i, N, rfl, hig, rfl, HNN, rfl⟩ := hrel
      by_cases hlt : i < n
      · have hlt' : (i : Int) < (n : Int) := by omega
        obtain ⟨p, hpi⟩ : ∃ p, ps.reverse[i]? = some p := ⟨_, List.getElem?_eq_getElem (by simp; have := HN.out; omega)⟩
        have hk := HX.out.oldCell (HK.out i p hpi)
        have hk1' := HX.out.oldCell hk1
        have hmem : p ∈ ps := by simpa using List.mem_of_getElem? hpi
        have hpl := H6.out p hmem
        have hpn := HNE.out p hmem
        have hpo := replB_mem HND.out hmem
        have htk : ps.reverse.take (i + 1) = ps.reverse.take i ++ [p] := by
          have hi' : i < ps.reverse.length := (List.getElem?_eq_some_iff.1 hpi).1
          rw [List.take_succ_eq_append_getElem hi', (List.getElem?_eq_some_iff.1 hpi).2]
        have HTK := Lib.hid htk
        obtain ⟨cnt, hcnt⟩ : ∃ m, m = Lib.countByte s p.1 := ⟨_, rfl⟩
        have hcle : cnt ≤ 4294967296 := by have := countByte_le s p.1; omega
        have HCN := Lib.hid hcnt
        obtain ⟨b, cap, hpc, hpb⟩ := H.out.on p hmem
        have hpc' := HX.out.oldCell hpc
        obtain ⟨q1, hq1⟩ : ∃ k, p.1 = k := ⟨_, rfl⟩
        have hpl1 : 1 ≤ p.2.length := List.length_pos_iff.2 hpn
        obtain ⟨pl, hpll⟩ : ∃ m, p.2.length = m := ⟨_, rfl⟩
        obtain ⟨M, hM⟩ : ∃ M : Nat, M = cnt * (pl - 1) := ⟨_, rfl⟩
        have hMb : M ≤ 4294967296 * 5 := by rw [hM]; exact Nat.mul_le_mul hcle (by omega)
        have hprod : (cnt : Int) * ((pl : Int) - 1) = (M : Int) := by rw [hM]; push_cast; rw [Int.natCast_sub (by omega)]; rfl
        have hNb : N ≤ 4294967296 * 60 := by
          have := HNN.out
          have := growP_le (s := s) (ps := ps.reverse.take i) fun q hq => H6.out q (by have := List.mem_of_mem_take hq; simpa using this)
          have h2 : (ps.reverse.take i).length ≤ 10 := by simp; omega
          have : (ps.reverse.take i).length * (5 * s.length) ≤ 10 * (5 * s.length) := Nat.mul_le_mul_right _ h2
          omega
        rw [hpll] at hpl hpl1 hpc'
        rw [hq1] at hk hpc'
        have hkb := q1.toNat_lt
        have hk0 : ({ data := #[q1] } : ByteArray)[0]'(by simp [ByteArray.size]) = q1 := rfl
        have hk256 : (q1.toNat : Int) < 256 := by omega
        have HM := Lib.hid hM
        have HPLL := Lib.hid hpll
        have HQ1 := Lib.hid hq1
        clear hpi hmem hpn hpo htk hcnt hpc hpb hpll hM hq1
        go_wp2_with fail
        refine (Tryz.strings_Count_one ⟨s.toArray⟩ q1 _).mono ?_
        rintro e w1 ⟨rfl, rfl⟩
        rw [show (Lib.countByte (⟨s.toArray⟩ : ByteArray).data.toList q1) = cnt from by rw [HCN.out, HQ1.out]]
        by_cases h0 : cnt = 0
        · subst h0
          go_wp2_with fail
          go_roundg (gk - 1)
          case measure => omega
          case rel =>
            refine ⟨HX, i + 1, N, by go_num, by omega, rfl, (by show _ = _; rw [HTK.out, growP_snoc, ← HCN.out, ← Nat.add_assoc, ← HNN.out]; simp), ?_⟩
            rw [HTK.out, anyP_snoc, ← HCN.out]; simp
        · have h0' : ¬ (cnt : Int) = 0 := by omega
          go_wp2_with fail
          go_quiet (fail)
          have HX2 := Lib.hid (HX.out.drewN nq)
          go_wp2_with fail
          go_roundg (gk - 1)
          case measure => omega
          case rel =>
            refine ⟨HX2, i + 1, N + M, by go_num, by omega, by go_num, (by show _ = _; rw [HTK.out, growP_snoc, ← HCN.out, HPLL.out, ← HM.out, ← Nat.add_assoc, ← HNN.out]), ?_⟩
            rw [HTK.out, anyP_snoc, ← HCN.out]
            have : decide (0 < cnt) = true := by simp; omega
            rw [this]; simp
      · obtain rfl : i = n := by omega
        have hge : ¬ (i : Int) < (i : Int) := by omega
        have htk : ps.reverse.take i = ps.reverse := List.take_of_length_le (by simp; have := HN.out; omega)
        rw [htk] at HNN
        rw [htk]
        have HNN : Hid (N = s.length + growP ps s) := by show _ = _; rw [HNN.out, growP_rev]
        have HANY : Hid (anyP ps.reverse s = anyP ps s) := by show _ = _; simp [anyP]
        clear htk
        rename World => w1
        have hNb : N ≤ 4294967296 * 60 := by
          have := HNN.out
          have := growP_le (s := s) H6.out
          have h2 : ps.length ≤ 10 := by have := HN.out; omega
          have : ps.length * (5 * s.length) ≤ 10 * (5 * s.length) := Nat.mul_le_mul_right _ h2
          omega
        cases hany : anyP ps.reverse s
        · have hres : repl ps s = s := repl_same fun p hp => by
            have := HANY.out ▸ hany
            unfold anyP at this
            rw [List.any_eq_false] at this
            have := this p (by simpa using hp)
            simpa using this
          go_wp2_with fail
          go_ret
          first | exact ⟨rfl, HX.out.old⟩ | exact ⟨by rw [hres], HX.out.old⟩
        · obtain ⟨C, hC, hms⟩ := makeBytes w1 N (by omega)
          have B0 : Lib.Buf w1 (w1.alloc (.cells C 5)) w1.heap.size N [] := Lib.Buf.start w1 C 5 N 0 (by omega)
          have HB0 := Lib.hid B0
          have HT := Lib.hid (H.out.keep HX.out)
          have hNl : (repl ps s).length = N := by rw [HNN.out, repl_len HND.out HNE.out]
          have HNL := Lib.hid hNl
          clear hany B0 hC hNl
          go_wp2_with fail
          go_loopg [13, 14] s.length (fun gk v13 v14 wr => ∃ i k : Nat, v14 = .int .i64 i ∧ i + gk = s.length ∧ v13 = .int .i64 k ∧ Hid (k = (repl ps (s.take i)).length) ∧ Hid (Lib.Buf w1 wr w1.heap.size N (repl ps (s.take i))))
          case atStart => exact ⟨0, 0, rfl, by omega, rfl, rfl, HB0⟩
          case round =>
            obtain ⟨i, k, rfl, hig, rfl, HKK, HB⟩ := hrel
            by_cases hlt : i < s.length
            · have hlt' : (i : Int) < (s.length : Int) := by omega
              obtain ⟨c, hc⟩ : ∃ c : UInt8, (⟨s.toArray⟩ : ByteArray)[i]'(by simpa [ByteArray.size] using hlt) = c := ⟨_, rfl⟩
              have hcl : s[i] = c := hc
              have hcb := c.toNat_lt
              have hc256 : (c.toNat : Int) < 256 := by omega
              have hnx : repl ps (s.take (i + 1)) = repl ps (s.take i) ++ replB ps c := by
                rw [List.take_succ_eq_append_getElem hlt, hcl, repl_snoc]
              have HNX := Lib.hid hnx
              have hroom : (repl ps (s.take i)).length + (replB ps c).length ≤ N := by
                have := repl_mono (ps := ps) s (i + 1)
                rw [hnx, List.length_append, HNL.out] at this
                exact this
              have hneq0 : ∀ w, (binOp .neq 93 (.slice none 0 0) (.slice none 0 0)).run Tryz.prog w = .ok (.bool false) w := fun w => _root_.Go.run_neq_slice_nil w _ _ none 0 0 Tryz.underlying93
              have hneq1 : ∀ a n c w, (binOp .neq 93 (.slice (some a) n c) (.slice none 0 0)).run Tryz.prog w = .ok (.bool true) w := fun a n c w => _root_.Go.run_neq_slice_nil w _ _ (some a) n c Tryz.underlying93
              clear hcl hnx
              rcases HT.out.at_ HND.out HLO.out c with ⟨he, hcell⟩ | ⟨p, _, _, _, pb, pc, hcell, hhold⟩
              · have hcq := Lib.Below.cellOf HB.out.below hcell (Nat.le_refl _)
                have hkk := HKK.out
                rw [he] at hroom
                have hkl : k < N := by simp at hroom; omega
                have hkl' : (k : Int) < ((N : Nat) : Int) := by omega
                obtain ⟨u0, hthere⟩ := Option.isSome_iff_exists.1 (HB.out.there k hkl)
                have hfree := HB.out.free k hkl
                have HPB := Lib.hid (Buf.push HB.out c (by rw [← hkk]; exact hkl))
                rw [← hkk] at HPB
                have HE := Lib.hid he
                clear he hkk hcell
                go_wp2_with fail
                go_roundg (gk - 1)
                case measure => omega
                case rel => exact ⟨i + 1, k + 1, by go_num, by omega, by go_num, (by show _ = _; rw [HNX.out, HE.out, List.length_append, ← HKK.out]; rfl), (by show Lib.Buf _ _ _ _ _; rw [HNX.out, HE.out]; exact HPB.out)⟩
              · have hcq := Lib.Below.cellOf HB.out.below hcell (Nat.le_refl _)
                have hkk := HKK.out
                have hsl : ∀ W, (Instr.slice 93 (.slice (some ⟨w1.heap.size, 0, none⟩) N N) (some (.int .i64 (k : Int))) none none).run Tryz.prog W = .ok (Lib.tailV w1.heap.size N k) W := fun W => Lib.run_slice_tailV W 93 5 undBytes sizeByte w1.heap.size N k (by omega)
                obtain ⟨cb, hcb2⟩ : ∃ l, l = replB ps c := ⟨_, rfl⟩
                rw [← hcb2] at hroom hhold hcell hcq
                have HCB := Lib.hid hcb2
                have HH := Lib.hid hhold
                clear hhold hcell hcb2
                have hkl : k + cb.length ≤ N := by omega
                obtain ⟨w3, hr3, B3⟩ := Lib.copy_part (P := Tryz.prog) w1 wr.drew w1.heap.size N (repl ps (s.take i)) cb (.slice (some ⟨pb, 0, none⟩) cb.length pc) 93 3 5 undBytes sizeB (Nat.le_refl _) (Buf.drew HB.out) HH.out (by omega)
                rw [← hkk] at hr3
                have HB3 := Lib.hid B3
                clear B3 hkk
                have hcl4 : (k : Int) + (cb.length : Int) ≤ 9223372036854775807 := by omega
                go_wp2_with fail
                go_region_law
                  ((refine step_copy_run (by rfl) _ _ 93 93 (by rfl) _ _ (by rfl) (by rfl) hr3 ?_))
                all_goals
                  go_wp2_with fail
                  go_roundg (gk - 1)
                  case measure => omega
                  case rel => exact ⟨i + 1, k + cb.length, by go_num, by omega, by go_num, (by show _ = _; rw [HNX.out, List.length_append, ← HKK.out, ← HCB.out]), (by show Lib.Buf _ _ _ _ _; rw [HNX.out, ← HCB.out]; exact HB3.out)⟩
            · obtain rfl : i = s.length := by omega
              have hge : ¬ (s.length : Int) < (s.length : Int) := by omega
              have hall : s.take s.length = s := List.take_length
              have hB := HB.out
              rw [hall] at hB
              have hcv := run_convert_bytes_back (P := Tryz.prog) wr 93 9 5 ⟨w1.heap.size, 0, none⟩ N (repl ps s) Tryz.underlying93 Tryz.underlying5 Tryz.underlying9 (fun j hj => by
                rw [add0]; exact hB.holds j _ (List.getElem?_eq_getElem hj))
              rw [HNL.out] at hcv
              have hbel : Below w.heap.size w wr := HX.out.old.trans ⟨hB.below.os, hB.below.tape, hB.below.output, hB.below.size, fun k hk => hB.below.block k (Nat.lt_of_lt_of_le hk HX.out.lt)⟩
              have HBE := Lib.hid hbel
              clear hB hall hbel HB HKK
              go_wp2_with fail
              go_ret
              exact ⟨rfl, HBE.out⟩
  · go_wp2_with fail
    go_loopg [5, 6, 10] s.length (fun gk v5 v6 v10 wr => Hid (Hold w wr []) ∧ ∃ (i N : Nat), v10 = .int .i64 i ∧ i + gk = s.length ∧ v5 = .int .i64 N ∧ Hid (N + i = s.length + (repl ps (s.take i)).length) ∧ v6 = .bool ((s.take i).any fun c => decide (replB ps c ≠ [c])))
    case atStart => exact ⟨Lib.hid (Hold.start w), 0, s.length, rfl, by omega, rfl, rfl, rfl⟩
    case round =>
      obtain ⟨HX, i, N, rfl, hig, rfl, HNN, rfl⟩ := hrel
      by_cases hlt : i < s.length
      · have hlt' : (i : Int) < (s.length : Int) := by omega
        obtain ⟨c, hc⟩ : ∃ c : UInt8, (⟨s.toArray⟩ : ByteArray)[i]'(by simpa [ByteArray.size] using hlt) = c := ⟨_, rfl⟩
        have hcl : s[i] = c := hc
        have hcb := c.toNat_lt
        have hc256 : (c.toNat : Int) < 256 := by omega
        have htk : s.take (i + 1) = s.take i ++ [c] := by rw [List.take_succ_eq_append_getElem hlt, hcl]
        have HTK := Lib.hid htk
        have hneq0 : ∀ w, (binOp .neq 93 (.slice none 0 0) (.slice none 0 0)).run Tryz.prog w = .ok (.bool false) w := fun w => _root_.Go.run_neq_slice_nil w _ _ none 0 0 Tryz.underlying93
        have hneq1 : ∀ a n c w, (binOp .neq 93 (.slice (some a) n c) (.slice none 0 0)).run Tryz.prog w = .ok (.bool true) w := fun a n c w => _root_.Go.run_neq_slice_nil w _ _ (some a) n c Tryz.underlying93
        have hNb : N ≤ 4294967296 * 60 := by
          have := HNN.out
          have h2 := repl_le (ps := ps) (m := 6) (fun p hp => H6.out p hp) (by decide) (s.take i)
          have : (s.take i).length ≤ s.length := by simp; omega
          omega
        clear hcl htk
        rcases H.out.at_ HND.out HLO.out c with ⟨he, hcell⟩ | ⟨p, hpm, _, hep, pb, pc, hcell, _⟩
        · have hcq := HX.out.oldCell hcell
          have HE := Lib.hid he
          clear hcell he
          go_wp2_with fail
          go_roundg (gk - 1)
          case measure => omega
          case rel =>
            refine ⟨HX, i + 1, N, by go_num, by omega, rfl, (by show _ = _; rw [HTK.out, repl_snoc, HE.out, List.length_append]; have := HNN.out; simp; omega), ?_⟩
            rw [HTK.out, List.any_append, List.any_cons, HE.out]; simp
        · have hcq := HX.out.oldCell hcell
          have hlo := HLO.out p hpm
          have hnp := List.length_pos_iff.2 (HNE.out p hpm)
          have hp6 := H6.out p hpm
          rw [← hep] at hlo hnp hp6
          obtain ⟨cl, hcll⟩ : ∃ m, m = (replB ps c).length := ⟨_, rfl⟩
          rw [← hcll] at hcq hlo hnp hp6
          have HCL := Lib.hid hcll
          clear hcell hep hpm hcll
          go_wp2_with fail
          go_roundg (gk - 1)
          case measure => omega
          case rel =>
            refine ⟨HX, i + 1, N + cl - 1, by go_num, by omega, ?_, (by show _ = _; rw [HTK.out, repl_snoc, List.length_append, ← HCL.out]; have := HNN.out; omega), ?_⟩
            · congr 1; omega
            · rw [HTK.out, List.any_append, List.any_cons]
              have : replB ps c ≠ [c] := fun he => by have := HCL.out; rw [he] at this; simp at this; omega
              simp [this]
      · obtain rfl : i = s.length := by omega
        have hge : ¬ (s.length : Int) < (s.length : Int) := by omega
        have htk : s.take s.length = s := List.take_length
        rw [htk] at HNN
        rw [htk]
        have HANY : Hid ((s.any fun c => decide (replB ps c ≠ [c])) = anyP ps s) := by show _ = _; exact any_iff HND.out HNE.out HLO.out s
        have HNN : Hid (N = s.length + growP ps s) := by
          have := HNN.out
          rw [repl_len HND.out HNE.out] at this
          show _ = _; omega
        clear htk
        rename World => w1
        have hNb : N ≤ 4294967296 * 60 := by
          have := HNN.out
          have := growP_le (s := s) H6.out
          have h2 : ps.length ≤ 10 := by have := HN.out; omega
          have : ps.length * (5 * s.length) ≤ 10 * (5 * s.length) := Nat.mul_le_mul_right _ h2
          omega
        cases hany : (s.any fun c => decide (replB ps c ≠ [c]))
        · have hres : repl ps s = s := repl_same fun p hp => by
            have := HANY.out ▸ hany
            unfold anyP at this
            rw [List.any_eq_false] at this
            have := this p (by simpa using hp)
            simpa using this
          go_wp2_with fail
          go_ret
          first | exact ⟨rfl, HX.out.old⟩ | exact ⟨by rw [hres], HX.out.old⟩
        · obtain ⟨C, hC, hms⟩ := makeBytes w1 N (by omega)
          have B0 : Lib.Buf w1 (w1.alloc (.cells C 5)) w1.heap.size N [] := Lib.Buf.start w1 C 5 N 0 (by omega)
          have HB0 := Lib.hid B0
          have HT := Lib.hid (H.out.keep HX.out)
          have hNl : (repl ps s).length = N := by rw [HNN.out, repl_len HND.out HNE.out]
          have HNL := Lib.hid hNl
          clear hany B0 hC hNl
          go_wp2_with fail
          go_loopg [13, 14] s.length (fun gk v13 v14 wr => ∃ i k : Nat, v14 = .int .i64 i ∧ i + gk = s.length ∧ v13 = .int .i64 k ∧ Hid (k = (repl ps (s.take i)).length) ∧ Hid (Lib.Buf w1 wr w1.heap.size N (repl ps (s.take i))))
          case atStart => exact ⟨0, 0, rfl, by omega, rfl, rfl, HB0⟩
          case round =>
            obtain ⟨i, k, rfl, hig, rfl, HKK, HB⟩ := hrel
            by_cases hlt : i < s.length
            · have hlt' : (i : Int) < (s.length : Int) := by omega
              obtain ⟨c, hc⟩ : ∃ c : UInt8, (⟨s.toArray⟩ : ByteArray)[i]'(by simpa [ByteArray.size] using hlt) = c := ⟨_, rfl⟩
              have hcl : s[i] = c := hc
              have hcb := c.toNat_lt
              have hc256 : (c.toNat : Int) < 256 := by omega
              have hnx : repl ps (s.take (i + 1)) = repl ps (s.take i) ++ replB ps c := by
                rw [List.take_succ_eq_append_getElem hlt, hcl, repl_snoc]
              have HNX := Lib.hid hnx
              have hroom : (repl ps (s.take i)).length + (replB ps c).length ≤ N := by
                have := repl_mono (ps := ps) s (i + 1)
                rw [hnx, List.length_append, HNL.out] at this
                exact this
              have hneq0 : ∀ w, (binOp .neq 93 (.slice none 0 0) (.slice none 0 0)).run Tryz.prog w = .ok (.bool false) w := fun w => _root_.Go.run_neq_slice_nil w _ _ none 0 0 Tryz.underlying93
              have hneq1 : ∀ a n c w, (binOp .neq 93 (.slice (some a) n c) (.slice none 0 0)).run Tryz.prog w = .ok (.bool true) w := fun a n c w => _root_.Go.run_neq_slice_nil w _ _ (some a) n c Tryz.underlying93
              clear hcl hnx
              rcases HT.out.at_ HND.out HLO.out c with ⟨he, hcell⟩ | ⟨p, _, _, _, pb, pc, hcell, hhold⟩
              · have hcq := Lib.Below.cellOf HB.out.below hcell (Nat.le_refl _)
                have hkk := HKK.out
                rw [he] at hroom
                have hkl : k < N := by simp at hroom; omega
                have hkl' : (k : Int) < ((N : Nat) : Int) := by omega
                obtain ⟨u0, hthere⟩ := Option.isSome_iff_exists.1 (HB.out.there k hkl)
                have hfree := HB.out.free k hkl
                have HPB := Lib.hid (Buf.push HB.out c (by rw [← hkk]; exact hkl))
                rw [← hkk] at HPB
                have HE := Lib.hid he
                clear he hkk hcell
                go_wp2_with fail
                go_roundg (gk - 1)
                case measure => omega
                case rel => exact ⟨i + 1, k + 1, by go_num, by omega, by go_num, (by show _ = _; rw [HNX.out, HE.out, List.length_append, ← HKK.out]; rfl), (by show Lib.Buf _ _ _ _ _; rw [HNX.out, HE.out]; exact HPB.out)⟩
              · have hcq := Lib.Below.cellOf HB.out.below hcell (Nat.le_refl _)
                have hkk := HKK.out
                have hsl : ∀ W, (Instr.slice 93 (.slice (some ⟨w1.heap.size, 0, none⟩) N N) (some (.int .i64 (k : Int))) none none).run Tryz.prog W = .ok (Lib.tailV w1.heap.size N k) W := fun W => Lib.run_slice_tailV W 93 5 undBytes sizeByte w1.heap.size N k (by omega)
                obtain ⟨cb, hcb2⟩ : ∃ l, l = replB ps c := ⟨_, rfl⟩
                rw [← hcb2] at hroom hhold hcell hcq
                have HCB := Lib.hid hcb2
                have HH := Lib.hid hhold
                clear hhold hcell hcb2
                have hkl : k + cb.length ≤ N := by omega
                obtain ⟨w3, hr3, B3⟩ := Lib.copy_part (P := Tryz.prog) w1 wr.drew w1.heap.size N (repl ps (s.take i)) cb (.slice (some ⟨pb, 0, none⟩) cb.length pc) 93 3 5 undBytes sizeB (Nat.le_refl _) (Buf.drew HB.out) HH.out (by omega)
                rw [← hkk] at hr3
                have HB3 := Lib.hid B3
                clear B3 hkk
                have hcl4 : (k : Int) + (cb.length : Int) ≤ 9223372036854775807 := by omega
                go_wp2_with fail
                go_region_law
                  ((refine step_copy_run (by rfl) _ _ 93 93 (by rfl) _ _ (by rfl) (by rfl) hr3 ?_))
                all_goals
                  go_wp2_with fail
                  go_roundg (gk - 1)
                  case measure => omega
                  case rel => exact ⟨i + 1, k + cb.length, by go_num, by omega, by go_num, (by show _ = _; rw [HNX.out, List.length_append, ← HKK.out, ← HCB.out]), (by show Lib.Buf _ _ _ _ _; rw [HNX.out, ← HCB.out]; exact HB3.out)⟩
            · obtain rfl : i = s.length := by omega
              have hge : ¬ (s.length : Int) < (s.length : Int) := by omega
              have hall : s.take s.length = s := List.take_length
              have hB := HB.out
              rw [hall] at hB
              have hcv := run_convert_bytes_back (P := Tryz.prog) wr 93 9 5 ⟨w1.heap.size, 0, none⟩ N (repl ps s) Tryz.underlying93 Tryz.underlying5 Tryz.underlying9 (fun j hj => by
                rw [add0]; exact hB.holds j _ (List.getElem?_eq_getElem hj))
              rw [HNL.out] at hcv
              have hbel : Below w.heap.size w wr := HX.out.old.trans ⟨hB.below.os, hB.below.tape, hB.below.output, hB.below.size, fun k hk => hB.below.block k (Nat.lt_of_lt_of_le hk HX.out.lt)⟩
              have HBE := Lib.hid hbel
              clear hB hall hbel HB HKK
              go_wp2_with fail
              go_ret
              exact ⟨rfl, HBE.out⟩
end
end Go.Proofs.YtahfcgjlcdbnjaaGreatDoor

