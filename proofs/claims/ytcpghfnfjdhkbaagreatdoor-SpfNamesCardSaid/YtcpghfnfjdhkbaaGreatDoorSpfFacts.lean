/-
  A PART OF THE PROOF OF 'Rows.SpfNamesCardSaid': the closed facts of the row, piece by piece (at one go they take more memory than there is).
-/
import Derived.Test.YtcpghfnfjdhkbaaGreatDoorRows
import Derived.WalkKit
import Derived.ProofKit
import Derived.OpenShut
import Derived.Stop.Joined
namespace Go.Proofs.YtcpghfnfjdhkbaaGreatDoor.spfNames
set_option maxRecDepth 100000
theorem fa : (Rows.spfNamesRow.inPlace == Tryz.prog.inPlace 5) = true := by kernel_rfl
theorem fb : (Rows.spfNamesRow.unfollowed == Tryz.prog.unfollowed 5) = true := by kernel_rfl
theorem fc : (Rows.spfNamesRow.recurses == Tryz.prog.recurses 5) = true := by kernel_rfl
theorem fd : (Rows.spfNamesRow.named == Tryz.prog.varsNamed 5) = true := by kernel_rfl
theorem closed : joinedFacts Tryz.prog 5 Tryz.f5 Rows.spfNamesSpec Rows.spfNamesRow = true := by
  unfold joinedFacts
  rw [fa, fb, fc, fd]
  kernel_rfl
end Go.Proofs.YtcpghfnfjdhkbaaGreatDoor.spfNames
