/-
  A PART OF THE PROOF OF 'Rows.BgpOrderCardSaid': the closed facts of the row, piece by piece (at one go they take more memory than there is).
-/
import Derived.Test.YtdghfmbbohlcgaaGreatDoorRows
import Derived.WalkKit
import Derived.ProofKit
import Derived.OpenShut
import Derived.Stop.Joined
namespace Go.Proofs.YtdghfmbbohlcgaaGreatDoor.bgpOrder
set_option maxRecDepth 100000
theorem fa : (Rows.bgpOrderRow.inPlace == Tryz.prog.inPlace 3) = true := by kernel_rfl
theorem fb : (Rows.bgpOrderRow.unfollowed == Tryz.prog.unfollowed 3) = true := by kernel_rfl
theorem fc : (Rows.bgpOrderRow.recurses == Tryz.prog.recurses 3) = true := by kernel_rfl
theorem fd : (Rows.bgpOrderRow.named == Tryz.prog.varsNamed 3) = true := by kernel_rfl
theorem closed : joinedFacts Tryz.prog 3 Tryz.f3 Rows.bgpOrderSpec Rows.bgpOrderRow = true := by
  unfold joinedFacts
  rw [fa, fb, fc, fd]
  kernel_rfl
end Go.Proofs.YtdghfmbbohlcgaaGreatDoor.bgpOrder
