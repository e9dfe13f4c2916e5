/-
  A PART OF THE PROOF OF 'Rows.SpfNamesCardSaid': pieces of the guard's run.
-/
import Derived.Test.YtcpghfnfjdhkbaaGreatDoorAwakeA
namespace Go.Proofs.YtcpghfnfjdhkbaaGreatDoor.awake
open Go.Vm
set_option maxRecDepth 100000
theorem p4 : segB (evCode Tryz.prog (fun _ => none) (evCall Tryz.prog (fun _ => none) 1000 99) 74 1000 (lft (rgt (rgt (rgt (rgt b))))) (ofL s4) 3355 (ofL h4)) .norm s5 5904 h5 = true := by kernel_rfl
end Go.Proofs.YtcpghfnfjdhkbaaGreatDoor.awake
