/- entity: the declaration of one is passed. -/
import Derived.Test.YtahfcgjlcdbnjaaGreatDoorMDoc
namespace Go.Proofs.YtahfcgjlcdbnjaaGreatDoor
open Go.RowKit

section
variable {W w : World} {L : List Asn} {b : Nat} {s : ByteArray} {σ : St}

theorem run_update {m : Nat} {l : List (Bytes × Bytes)} (x : Hold W w (Ents m l :: L)) (k v : Bytes) (hl : l.lookup k = none) :
    ∃ w', (Instr.mapUpdate 69 (.map (some m)) (str k) (str v)).run Tryz.prog w = .ok () w' ∧ Hold W w' (Ents m (l ++ [(k, v)]) :: L) := by
  obtain ⟨es, c, he, y⟩ := Ents.out x
  have hu : Tryz.prog.underlying 69 = some (.map 9 9) := by kernel_rfl
  have hf := run_find es.toList l k 0 he
  have hck : ∀ em w, (Instr.checkKey em 10000 9 (str k)).run Tryz.prog w = .ok () w := fun em w => checkKey_str em 9999 k w
  refine ⟨{ w with heap := w.heap.setIfInBounds m (.map (es.push { key := str k, val := str v, born := c }) (c + 1)) }, ?_, ?_⟩
  · unfold Instr.mapUpdate
    simp only [Sem.run_bind, run_underlying hu, Result.andThen_ok, getObj, Sem.run, y.block, hck, Instr.findKey, run_underlying undString, Sem.run_pure, hf.2 hl]
    simp [setObj, Sem.run, y.block]
  · have hlt : m < w.heap.size := lt_of_block y.block
    refine Ents.mk (es := es.push { key := str k, val := str v, born := c }) (c := c + 1) ?_ (y.put rfl rfl rfl (by simp) (by simp [hlt]) fun j _ hj => by simp only [Array.getElem?_setIfInBounds]; rw [if_neg (by omega)])
    simp [he]

theorem Scn.entsUpdate (x : Hold W w (Scn b s σ :: L)) : ∃ m, w.cell? ⟨b, 7, none⟩ = some (.map (some m)) ∧
    (∀ k, (Instr.lookup 69 (.map (some m)) (str k) true).run Tryz.prog w = .ok (.tuple #[str ((σ.ents.lookup k).getD []), .bool (σ.ents.lookup k).isSome]) w) ∧
    ∀ k v, σ.ents.lookup k = none → ∃ w', (Instr.mapUpdate 69 (.map (some m)) (str k) (str v)).run Tryz.prog w = .ok () w' ∧ Hold W w' (Scn b s { σ with ents := σ.ents ++ [(k, v)] } :: L) := by
  obtain ⟨lv, ov, tp, tv, m, htp, y⟩ := Scn.out x
  refine ⟨m, y.cell 7, fun k => run_lookup y.f4 k, fun k v hk => ?_⟩
  obtain ⟨w', h1, h2⟩ := run_update y.f4 k v hk
  exact ⟨w', h1, Scn.mk htp h2.b4⟩

set_option maxHeartbeats 4000000 in
set_option maxRecDepth 100000 in
theorem entity_any (g : Glob W) (x : Hold W w (Scn b s σ :: L)) (h : Ok s σ) (hp : σ.pos + 8 ≤ s.size) (hnw : entity s σ ≠ .error wild) :
    Calls Tryz.prog 173 #[.pointer (some ⟨b, 0, none⟩)] w (Post W L b s nothing (entity s σ)) := by
  have hc1 := Scn.posCell x
  have hf := Scn.free x 1
  have h1 := h.size
  have hO := h.to hp
  have HM := Lib.hid (Scn.move x (σ.pos + 8) ((σ.pos : Int) + 8) (by push_cast; rfl))
  have HK := Lib.hid hO
  have HG := Lib.hid g
  have HNW := Lib.hid hnw
  clear x h hO g hnw
  go_enter Tryz.func173, Tryz.ntmps173
  go_wp2_with fail
  refine (blanks_any HM.out HK.out).mono ?_
  rintro e w21 ⟨rfl, z⟩
  obtain ⟨⟨ba, σ1⟩, hq⟩ : ∃ q, blanks s (σ.to (σ.pos + 8)) = q := ⟨_, rfl⟩
  have hk := HK.out.blanks
  rw [hq] at hk
  simp only [hq] at z ⊢
  have HQ1 := Lib.hid hq
  have HZ1 := Lib.hid z
  have HK1 := Lib.hid hk
  clear hq z hk
  go_wp2_with fail
  refine (name_any HG.out HZ1.out HK1.out).mono ?_
  rintro e w22 ⟨rfl, z⟩
  obtain ⟨⟨⟨nm, nok⟩, σ2⟩, hq⟩ : ∃ q, name s σ1 = q := ⟨_, rfl⟩
  have hk := HK1.out.name
  rw [hq] at hk
  simp only [hq] at z ⊢
  have HQ2 := Lib.hid hq
  have HZ2 := Lib.hid z
  have HK2 := Lib.hid hk
  clear hq z hk
  go_wp2_with fail
  refine (blanks_any HZ2.out HK2.out).mono ?_
  rintro e w23 ⟨rfl, z⟩
  obtain ⟨⟨bb, σ3⟩, hq⟩ : ∃ q, blanks s σ2 = q := ⟨_, rfl⟩
  have hk := HK2.out.blanks
  rw [hq] at hk
  simp only [hq] at z ⊢
  have HQ3 := Lib.hid hq
  have HZ3 := Lib.hid z
  have HK3 := Lib.hid hk
  clear hq z hk
  go_wp2_with fail
  refine (quoted_any HG.out HZ3.out HK3.out).mono ?_
  rintro e w24 ⟨rfl, z⟩
  obtain ⟨⟨⟨tx, qok⟩, σ4⟩, hq⟩ : ∃ q, quoted s σ3 = q := ⟨_, rfl⟩
  have hk := HK3.out.quoted
  rw [hq] at hk
  simp only [hq] at z ⊢
  have htl : tx.length ≤ 32768 := by
    have := quoted_le HK3.out
    rw [hq] at this
    exact this
  have HQ4 := Lib.hid hq
  have HZ4 := Lib.hid z
  have HK4 := Lib.hid hk
  clear hq z hk
  go_wp2_with fail
  refine (blanks_any HZ4.out HK4.out).mono ?_
  rintro e w25 ⟨rfl, z⟩
  obtain ⟨⟨bd, σ5⟩, hq⟩ : ∃ q, blanks s σ4 = q := ⟨_, rfl⟩
  have hk := HK4.out.blanks
  rw [hq] at hk
  simp only [hq] at z ⊢
  have HQ5 := Lib.hid hq
  have HZ5 := Lib.hid z
  have HK5 := Lib.hid hk
  clear hq z hk
  cases ba
  · go_wp2_with fail
    refine (must_no _).mono ?_
    rintro e w9 ⟨rfl, rfl⟩
    go_wp2_with fail
    refine ⟨rfl, ?_⟩
    rw [show entity s σ = .error (5, σ.pos) from by simp only [entity, HQ1.out, HQ2.out, HQ3.out, HQ4.out, HQ5.out]; rfl]
    exact ⟨rfl, HZ5.out.drop⟩
  · cases nok
    · go_wp2_with fail
      refine (must_no _).mono ?_
      rintro e w9 ⟨rfl, rfl⟩
      go_wp2_with fail
      refine ⟨rfl, ?_⟩
      rw [show entity s σ = .error (5, σ.pos) from by simp only [entity, HQ1.out, HQ2.out, HQ3.out, HQ4.out, HQ5.out]; rfl]
      exact ⟨rfl, HZ5.out.drop⟩
    · cases bb
      · go_wp2_with fail
        refine (must_no _).mono ?_
        rintro e w9 ⟨rfl, rfl⟩
        go_wp2_with fail
        refine ⟨rfl, ?_⟩
        rw [show entity s σ = .error (5, σ.pos) from by simp only [entity, HQ1.out, HQ2.out, HQ3.out, HQ4.out, HQ5.out]; rfl]
        exact ⟨rfl, HZ5.out.drop⟩
      · cases qok
        · go_wp2_with fail
          refine (must_no _).mono ?_
          rintro e w9 ⟨rfl, rfl⟩
          go_wp2_with fail
          refine ⟨rfl, ?_⟩
          rw [show entity s σ = .error (5, σ.pos) from by simp only [entity, HQ1.out, HQ2.out, HQ3.out, HQ4.out, HQ5.out]; rfl]
          exact ⟨rfl, HZ5.out.drop⟩
        · cases hasc : ascii tx
          · exact absurd (show entity s σ = .error wild from by simp only [entity, HQ1.out, HQ2.out, HQ3.out, HQ4.out, HQ5.out, hasc]; rfl) HNW.out
          · have HAS := Lib.hid hasc
            clear hasc
            go_wp2_with fail
            refine (containsAny_any tx [60, 37] (by omega) (by decide) HAS.out (by decide)).mono ?_
            rintro e w26 ⟨rfl, hb⟩
            have HZ6 := Lib.hid (HZ5.out.below hb)
            clear hb
            cases hha : hasAny tx [60, 37]
            · have HHA := Lib.hid hha
              clear hha
              go_wp2_with fail
              refine (eat_any HZ6.out HK5.out [62] (by decide)).mono ?_
              rintro e w27 ⟨rfl, z⟩
              obtain ⟨⟨e1, σ6⟩, hq⟩ : ∃ q, eat s σ5 [62] = q := ⟨_, rfl⟩
              have hk := HK5.out.eat [62]
              rw [hq] at hk
              simp only [hq] at z ⊢
              have HQ7 := Lib.hid hq
              have HZ7 := Lib.hid z
              have HK7 := Lib.hid hk
              clear hq z hk
              cases e1
              · go_wp2_with fail
                refine (must_no _).mono ?_
                rintro e w9 ⟨rfl, rfl⟩
                go_wp2_with fail
                refine ⟨rfl, ?_⟩
                rw [show entity s σ = .error (5, σ.pos) from by simp only [entity, HQ1.out, HQ2.out, HQ3.out, HQ4.out, HQ5.out, HAS.out, HHA.out, HQ7.out]; rfl]
                exact ⟨rfl, HZ7.out.drop⟩
              · have hfin : entity s σ = (if refsN tx = 0 then .ok ((), if (σ6.ents.lookup nm).isSome then σ6 else { σ6 with ents := σ6.ents ++ [(nm, tx)] }) else if refsN tx = 1 then .error (5, (σ.pos : Int)) else .error wild) := by
                  simp only [entity, HQ1.out, HQ2.out, HQ3.out, HQ4.out, HQ5.out, HAS.out, HHA.out, HQ7.out]; rfl
                have HFIN := Lib.hid hfin
                clear hfin
                go_wp2_with fail
                refine (must_yes _).mono ?_
                rintro e w8 ⟨rfl, rfl⟩
                go_wp2_with fail
                go_loopg [65] tx.length (fun gk v65 wr => ∃ k : Nat, v65 = .int .i64 k ∧ gk + k = tx.length ∧ Hold W wr (Scn b s σ6 :: L) ∧ Hid (refsN (tx.drop k) = refsN tx))
                case atStart =>
                  exact ⟨0, rfl, by omega, HZ7.out, rfl⟩
                case round =>
                  obtain ⟨k, rfl, hk, z, HR⟩ := hrel
                  have HZ := Lib.hid z
                  clear z
                  by_cases hlt : k < tx.length
                  · have hdr : tx.drop k = tx[k] :: tx.drop (k + 1) := List.drop_eq_getElem_cons hlt
                    have hget : (⟨tx.toArray⟩ : ByteArray)[k]'(by simpa [ByteArray.size] using hlt) = tx[k] := rfl
                    generalize hcx : tx[k] = c at *
                    have HDR := Lib.hid hdr
                    have hrn : refsN (tx.drop k) = (if c = 38 then (if refWild (tx.drop k) then 2 else match reference (tx.drop k) with | none => 1 | some _ => refsN (tx.drop (k + 1))) else refsN (tx.drop (k + 1))) := by rw [hdr]; simp only [refsN]; rfl
                    have HRN := Lib.hid hrn
                    have hlt1 : decide ((k : Int) < (tx.length : Int)) = true := by simp; omega
                    clear hdr hrn hcx
                    by_cases hc : c = 38
                    · subst hc
                      have hrn := HRN.out
                      rw [if_pos rfl] at hrn
                      cases hwi : refWild (tx.drop k)
                      · have HWI := Lib.hid hwi
                        rw [hwi, if_neg (by simp)] at hrn
                        have HRN2 := Lib.hid hrn
                        clear hrn hwi HRN
                        have h38 : (tx.drop k).head? = some 38 := by rw [HDR.out]; rfl
                        have H38 := Lib.hid h38
                        have hdl : (tx.drop k).length ≤ 1048576 := by simp; omega
                        have HDL := Lib.hid hdl
                        have hext : (⟨tx.toArray⟩ : ByteArray).extract k tx.length = ⟨(tx.drop k).toArray⟩ := extract_tail tx k
                        have HXT := Lib.hid hext
                        clear h38 hdl hext
                        go_wp2_with fail
                        rw [HXT.out]
                        refine (reference_any (HG.out.carry HZ.out) (tx.drop k) HDL.out H38.out HWI.out).mono ?_
                        rintro e w30 ⟨rfl, hb⟩
                        have HZ9 := Lib.hid (HZ.out.below hb)
                        clear hb
                        cases hrf : reference (tx.drop k) with
                        | none =>
                          have h1 : refsN tx = 1 := by rw [← HR.out, HRN2.out, hrf]
                          have hfin := HFIN.out
                          rw [h1, if_neg (by decide), if_pos rfl] at hfin
                          have HF2 := Lib.hid hfin
                          clear hfin h1 hrf HFIN
                          unfold refV
                          go_wp2_with fail
                          refine (must_no _).mono ?_
                          rintro e w9 ⟨rfl, rfl⟩
                          go_wp2_with fail
                          refine ⟨rfl, ?_⟩
                          rw [HF2.out]
                          exact ⟨rfl, HZ9.out.drop⟩
                        | some q =>
                          obtain ⟨m, t, e⟩ := q
                          obtain ⟨hm1, _⟩ := reference_size hrf
                          have HRN3 : Hid (refsN (tx.drop (k + 1)) = refsN tx) := by
                            show _ = _
                            rw [← HR.out, HRN2.out, hrf]
                          have hm0 : decide (0 < m) = true := by simp; omega
                          clear hrf
                          unfold refV
                          go_wp2_with fail
                          refine (must_yes _).mono ?_
                          rintro e w9 ⟨rfl, rfl⟩
                          go_wp2_with fail
                          go_roundg (gk - 1)
                          case measure => omega
                          case rel => exact ⟨k + 1, by go_num, by omega, HZ9.out, HRN3⟩
                      · rw [hwi, if_pos rfl] at hrn
                        exact absurd (show entity s σ = .error wild from by rw [HFIN.out, ← HR.out, hrn]; rfl) HNW.out
                    · have hrn := HRN.out
                      rw [if_neg hc] at hrn
                      have HRN2 : Hid (refsN (tx.drop (k + 1)) = refsN tx) := hrn.symm.trans HR.out
                      clear hrn HRN
                      have hc38 : c.toNat ≠ 38 := fun q => hc (UInt8.toNat_inj.mp q)
                      have hc38i : ((c.toNat : Int) == 38) = false := by rw [beq_eq_false_iff_ne]; omega
                      go_wp2_with fail
                      go_roundg (gk - 1)
                      case measure => omega
                      case rel => exact ⟨k + 1, by go_num, by omega, HZ.out, HRN2⟩
                  · have hkk : k = tx.length := by omega
                    have hlt1 : decide ((k : Int) < (tx.length : Int)) = false := by simp; omega
                    have hr0 : refsN tx = 0 := by rw [← HR.out, hkk, List.drop_length]; rfl
                    have hfin := HFIN.out
                    rw [hr0, if_pos rfl] at hfin
                    have HF2 := Lib.hid hfin
                    clear hfin hr0 hkk HFIN
                    obtain ⟨m, hc7, hlk, hup⟩ := Scn.entsUpdate HZ.out
                    have hlk0 := hlk nm
                    have HUP := Lib.hid (hup nm tx)
                    clear hlk hup
                    cases hl : σ6.ents.lookup nm with
                    | none =>
                      rw [hl] at hlk0
                      obtain ⟨w2, hmu, z⟩ := HUP.out hl
                      have HL := Lib.hid hl
                      have HZ2 := Lib.hid z
                      clear hl z
                      go_wp2_with fail
                      go_end0
                      rw [HF2.out, HL.out]
                      exact ⟨rfl, HZ2.out⟩
                    | some v =>
                      rw [hl] at hlk0
                      have HL := Lib.hid hl
                      clear hl
                      go_wp2_with fail
                      go_end0
                      rw [HF2.out, HL.out]
                      exact ⟨rfl, HZ.out⟩
            · have HHA := Lib.hid hha
              clear hha
              go_wp2_with fail
              refine (must_no _).mono ?_
              rintro e w9 ⟨rfl, rfl⟩
              go_wp2_with fail
              refine ⟨rfl, ?_⟩
              rw [show entity s σ = .error (5, σ.pos) from by simp only [entity, HQ1.out, HQ2.out, HQ3.out, HQ4.out, HQ5.out, HAS.out, HHA.out]; rfl]
              exact ⟨rfl, HZ6.out.drop⟩
end
end Go.Proofs.YtahfcgjlcdbnjaaGreatDoor

