/- XmlscanEntities, walked: what it asks of Scan. -/
import Derived.Test.YtalmkfikfmpmoaaGreatDoorMLive
namespace Go.Proofs.YtalmkfikfmpmoaaGreatDoor
open Go.RowKit

/-- A letter that the law lets in. -/
def fine (c : UInt8) : Bool := decide (32 ≤ c.toNat) && decide (c.toNat ≤ 126) && !(c == 60) && !(c == 38) && !(c == 37) && !(c == 34) && !(c == 39)

def eName (b : Bool) : Bytes := if b then [108, 116, 45, 101] else [101]
def docA (n s : Bytes) : Bytes := [60, 33, 68, 79, 67, 84, 89, 80, 69, 32, 97, 32, 91, 60, 33, 69, 78, 84, 73, 84, 89, 32] ++ n ++ [32, 34] ++ s ++ [34, 62, 93, 62, 60, 97, 32, 98, 61, 39, 38] ++ n ++ [59, 39, 62, 120, 38] ++ n ++ [59, 121, 38] ++ n ++ [59, 60, 47, 97, 62]
def docB (n s : Bytes) : Bytes := [60, 33, 68, 79, 67, 84, 89, 80, 69, 32, 97, 32, 91, 60, 33, 69, 78, 84, 73, 84, 89, 32] ++ n ++ [32, 34] ++ s ++ [38] ++ n ++ [59, 34, 62, 93, 62, 60, 97, 62, 38] ++ n ++ [59, 60, 47, 97, 62]
def toksA (s : Bytes) : List Tok := [⟨2, [97], [([98], s)], []⟩, ⟨4, [], [], [120] ++ s ++ [121] ++ s⟩, ⟨7, [97], [], []⟩]

/-- What the law says of Scan. -/
structure EntLaw (s : Bytes) : Prop where
  a : ∀ b, scan (docA (eName b) s) = .ok (toksA s)
  b : ∀ b, ∃ p, scan (docB (eName b) s) = .error (6, p)

theorem fine_of {c : UInt8} (h1 : ¬ (c.toNat : Int) < 32) (h2 : ¬ (126 : Int) < c.toNat) (h3 : ¬ (c.toNat : Int) = 60) (h4 : ¬ (c.toNat : Int) = 38) (h5 : ¬ (c.toNat : Int) = 37) (h6 : ¬ (c.toNat : Int) = 34) (h7 : ¬ (c.toNat : Int) = 39) : fine c = true := by
  have e : ∀ k : UInt8, ¬ (c.toNat : Int) = (k.toNat : Int) → (c == k) = false := fun k hk => by
    rw [beq_eq_false_iff_ne]; rintro rfl; exact hk rfl
  unfold fine
  rw [e 60 h3, e 38 h4, e 37 h5, e 34 h6, e 39 h7]
  simp
  omega

theorem catA (n s : Bytes) : ((⟨#[60, 33, 68, 79, 67, 84, 89, 80, 69, 32, 97, 32, 91, 60, 33, 69, 78, 84, 73, 84, 89, 32]⟩ : ByteArray) ++ ⟨n.toArray⟩ ++ ⟨#[32, 34]⟩ ++ ⟨s.toArray⟩ ++ ⟨#[34, 62, 93, 62, 60, 97, 32, 98, 61, 39, 38]⟩ ++ ⟨n.toArray⟩ ++ ⟨#[59, 39, 62, 120, 38]⟩ ++ ⟨n.toArray⟩ ++ ⟨#[59, 121, 38]⟩ ++ ⟨n.toArray⟩ ++ ⟨#[59, 60, 47, 97, 62]⟩) = ⟨(docA n s).toArray⟩ :=
  bytes_ext (by simp [docA, ByteArray.data_append])
theorem catB (n s : Bytes) : ((⟨#[60, 33, 68, 79, 67, 84, 89, 80, 69, 32, 97, 32, 91, 60, 33, 69, 78, 84, 73, 84, 89, 32]⟩ : ByteArray) ++ ⟨n.toArray⟩ ++ ⟨#[32, 34]⟩ ++ ⟨s.toArray⟩ ++ ⟨#[38]⟩ ++ ⟨n.toArray⟩ ++ ⟨#[59, 34, 62, 93, 62, 60, 97, 62, 38]⟩ ++ ⟨n.toArray⟩ ++ ⟨#[59, 60, 47, 97, 62]⟩) = ⟨(docB n s).toArray⟩ :=
  bytes_ext (by simp [docB, ByteArray.data_append])
theorem catT (s : Bytes) : ((⟨#[120]⟩ : ByteArray) ++ ⟨s.toArray⟩ ++ ⟨#[121]⟩ ++ ⟨s.toArray⟩) = ⟨([120] ++ s ++ [121] ++ s).toArray⟩ :=
  bytes_ext (by simp [ByteArray.data_append])

section
variable {w : World}

set_option maxHeartbeats 8000000 in
set_option maxRecDepth 100000 in
theorem entities_any (g : Glob w) (s : Bytes) (hl : s.length ≤ 9223372036854775807) (nm : Bool) (hlaw : s.all fine = true → s.length ≤ 3000 → EntLaw s) :
    Calls Tryz.prog 3 #[str s, .bool nm] w fun e w' => e = .returned (.bool true) ∧ Below w.heap.size w w' := by
  have HG := Lib.hid g
  have HLAW := Lib.hid hlaw
  clear g hlaw
  go_enter Tryz.func3, Tryz.ntmps3
  go_wp2_with fail
  go_loopg [5] s.length (fun gk v5 wr => w = wr ∧ ∃ i : Nat, v5 = .int .i64 i ∧ i + gk = s.length ∧ Hid ((s.take i).all fine = true))
  case atStart => exact ⟨rfl, 0, rfl, by omega, rfl⟩
  case round =>
    obtain ⟨rfl, i, rfl, hig, HF⟩ := hrel
    by_cases hlt : i < s.length
    · have hlt' : (i : Int) < (s.length : Int) := by omega
      obtain ⟨c, hc⟩ : ∃ c : UInt8, (⟨s.toArray⟩ : ByteArray)[i]'(by simpa [ByteArray.size] using hlt) = c := ⟨_, rfl⟩
      have hcl : s[i] = c := hc
      have hcb := c.toNat_lt
      have hnx : fine c = true → (s.take (i + 1)).all fine = true := fun h => by
        rw [List.take_succ_eq_append_getElem hlt, List.all_append, HF.out, hcl]
        simp [h]
      have HN := Lib.hid hnx
      clear hcl hnx
      go_wp2_with fail
      all_goals first
        | (refine (live_any HG.out (Hold.start w)).mono ?_
           rintro e w1 ⟨rfl, z⟩
           go_wp2_with fail
           go_ret
           exact ⟨rfl, z.old⟩)
        | (go_roundg (gk - 1)
           case measure => omega
           case rel =>
             have hfi : fine c = true := by
               clear HN HF HG HLAW
               simp only [beq_iff_eq, beq_eq_false_iff_ne, ne_eq] at *
               exact fine_of (by omega) (by omega) (by omega) (by omega) (by omega) (by omega) (by omega)
             exact ⟨rfl, i + 1, by go_num, by omega, HN.out hfi⟩)
    · have hge : ¬ (i : Int) < (s.length : Int) := by omega
      have hall : s.all fine = true := by
        have := HF.out
        rwa [List.take_of_length_le (by omega)] at this
      by_cases h3 : s.length ≤ 3000
      · have h3' : ¬ (3000 : Int) < (s.length : Int) := by omega
        have HE := Lib.hid (HLAW.out hall h3)
        clear hall
        cases nm
        · go_wp2_with fail
          rw [show _ = _ from catA [101] s]
          refine (scan_any HG.out (docA [101] s) (by simp [docA]; omega) (Hold.start w) (by have := HE.out.a false; unfold eName at this; simp only [if_true, if_false, Bool.false_eq_true] at this; rw [this]; simp)).mono ?_
          rw [show scan (docA [101] s) = .ok (toksA s) from HE.out.a false]
          rintro e w1 ⟨v, rfl, z⟩
          have HZ := Lib.hid z
          obtain ⟨pb, hpb⟩ := HE.out.b false
          have hpb : scan (docB [101] s) = .error (6, pb) := hpb
          have HPB := Lib.hid hpb
          clear z hpb
          go_wp2_with fail
          rw [show _ = _ from catB [101] s]
          refine (scan_any HG.out (docB [101] s) (by simp [docB]; omega) HZ.out (by rw [HPB.out]; simp [wild])).mono ?_
          rw [HPB.out]
          rintro e w2 ⟨rfl, z⟩
          have HZ2 := Lib.hid z
          clear z
          go_wp2_with fail
          refine (live_any HG.out HZ2.out).mono ?_
          rintro e w3 ⟨rfl, z⟩
          obtain ⟨gb, c, avs, rfl, hc1, hc2, hal, hcell, hatt⟩ := Toks.read z (by simp [toksA])
          match avs, hal with
          | [a0, a1, a2], _ =>
            obtain ⟨c00, c01, c02, c03⟩ := hcell 0 _ a0 rfl rfl
            obtain ⟨c10, c11, c12, c13⟩ := hcell 1 _ a1 rfl rfl
            obtain ⟨ha, da, rfl, hd1, hd2, hat⟩ := hatt 0 _ a0 rfl rfl (by simp)
            obtain ⟨d0, d1⟩ := hat 0 _ rfl
            simp only [Nat.zero_mul, Nat.one_mul, Nat.zero_add, Nat.reduceMul, Nat.reduceAdd] at c00 c01 c02 c03 c10 c13 d0 d1
            have HZ3 := Lib.hid z
            have hcat := catT s
            have hlen : (toksA s).length = 3 := rfl
            clear z hcell hatt hat c00 c01 c03 c10 c11 c12
            go_wp2_with fail
            go_ret
            exact ⟨rfl, HZ3.out.old⟩
        · go_wp2_with fail
          rw [show _ = _ from catA [108, 116, 45, 101] s]
          refine (scan_any HG.out (docA [108, 116, 45, 101] s) (by simp [docA]; omega) (Hold.start w) (by have := HE.out.a true; unfold eName at this; simp only [if_true, if_false, Bool.false_eq_true] at this; rw [this]; simp)).mono ?_
          rw [show scan (docA [108, 116, 45, 101] s) = .ok (toksA s) from HE.out.a true]
          rintro e w1 ⟨v, rfl, z⟩
          have HZ := Lib.hid z
          obtain ⟨pb, hpb⟩ := HE.out.b true
          have hpb : scan (docB [108, 116, 45, 101] s) = .error (6, pb) := hpb
          have HPB := Lib.hid hpb
          clear z hpb
          go_wp2_with fail
          rw [show _ = _ from catB [108, 116, 45, 101] s]
          refine (scan_any HG.out (docB [108, 116, 45, 101] s) (by simp [docB]; omega) HZ.out (by rw [HPB.out]; simp [wild])).mono ?_
          rw [HPB.out]
          rintro e w2 ⟨rfl, z⟩
          have HZ2 := Lib.hid z
          clear z
          go_wp2_with fail
          refine (live_any HG.out HZ2.out).mono ?_
          rintro e w3 ⟨rfl, z⟩
          obtain ⟨gb, c, avs, rfl, hc1, hc2, hal, hcell, hatt⟩ := Toks.read z (by simp [toksA])
          match avs, hal with
          | [a0, a1, a2], _ =>
            obtain ⟨c00, c01, c02, c03⟩ := hcell 0 _ a0 rfl rfl
            obtain ⟨c10, c11, c12, c13⟩ := hcell 1 _ a1 rfl rfl
            obtain ⟨ha, da, rfl, hd1, hd2, hat⟩ := hatt 0 _ a0 rfl rfl (by simp)
            obtain ⟨d0, d1⟩ := hat 0 _ rfl
            simp only [Nat.zero_mul, Nat.one_mul, Nat.zero_add, Nat.reduceMul, Nat.reduceAdd] at c00 c01 c02 c03 c10 c13 d0 d1
            have HZ3 := Lib.hid z
            have hcat := catT s
            have hlen : (toksA s).length = 3 := rfl
            clear z hcell hatt hat c00 c01 c03 c10 c11 c12
            go_wp2_with fail
            go_ret
            exact ⟨rfl, HZ3.out.old⟩
      · have h3' : (3000 : Int) < (s.length : Int) := by omega
        clear hall
        go_wp2_with fail
        refine (live_any HG.out (Hold.start w)).mono ?_
        rintro e w1 ⟨rfl, z⟩
        go_wp2_with fail
        go_ret
        exact ⟨rfl, z.old⟩
end
end Go.Proofs.YtalmkfikfmpmoaaGreatDoor

