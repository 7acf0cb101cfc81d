/- A name with a colon, parted. -/
import Derived.Test.YtahfcgjlcdbnjaaGreatDoorMUt
namespace Go.Proofs.YtahfcgjlcdbnjaaGreatDoor
open Go.RowKit

theorem split_at {l a r : Bytes} (h : l = a ++ 58 :: r) (hc : (58 : UInt8) ∉ a) : split l = if isName r && isName a then some (a, r) else none := by
  unfold split
  rw [h, cut_at hc]
  rfl
theorem split_gone {l : Bytes} (hc : (58 : UInt8) ∉ l) : split l = if isName l then some ([], l) else none := by
  unfold split
  rw [cut_gone hc]
  rfl
end Go.Proofs.YtahfcgjlcdbnjaaGreatDoor

