/- XmlscanWrites, walked. -/
import Derived.Test.YtalmkfikfmpmoaaGreatDoorMRwr
import Derived.Test.YtalmkfikfmpmoaaGreatDoorMAgn
namespace Go.Proofs.YtalmkfikfmpmoaaGreatDoor
open Go.RowKit

section
variable {W w : World} {L : List Asn}

set_option maxHeartbeats 4000000 in
set_option maxRecDepth 100000 in
theorem writes_any (g : Glob w) (l : List Tok) (v : Value) (hv : TokRow w v l) (hl : l.length ≤ 1048576) (hs : ∀ t ∈ l, SmallTok t) :
    Calls Tryz.prog 7 #[v] w fun e w' => e = .returned (.bool true) ∧ Below w.heap.size w w' := by
  have HV := Lib.hid hv
  have HG := Lib.hid g
  have HS := Lib.hid hs
  clear g hs hv
  go_enter Tryz.func7, Tryz.ntmps7
  go_wp2_with fail
  refine (write_any HG.out l v HV.out hl HS.out).mono ?_
  rintro e w1 ⟨rfl, hb⟩
  have HX := Lib.hid ((Hold.start w).below hb)
  clear hb
  obtain ⟨D, hD⟩ : ∃ D, (writeR l).1 = D := ⟨_, rfl⟩
  obtain ⟨N, hN⟩ : ∃ N, (writeR l).2 = N := ⟨_, rfl⟩
  rw [hD, hN]
  have HD := Lib.hid hD
  have HN := Lib.hid hN
  clear hD hN
  go_wp2_with fail
  refine (refWrite_any (HG.out.carry HX.out) l v (HV.out.keep HX.out) hl HS.out).mono ?_
  rintro e w2 ⟨rfl, hb⟩
  have HX2 := Lib.hid (HX.out.below hb)
  clear hb
  rw [HD.out, HN.out]
  go_wp2_with fail
  refine (live_any (HG.out.carry HX2.out) (Hold.start w2)).mono ?_
  rintro e w3 ⟨rfl, z⟩
  have HB : Hid (Below w.heap.size w w3) := HX2.out.old.trans (z.old.mono HX2.out.old.size)
  clear z
  go_wp2_with fail
  go_ret
  exact ⟨rfl, HB.out⟩
end
end Go.Proofs.YtalmkfikfmpmoaaGreatDoor

