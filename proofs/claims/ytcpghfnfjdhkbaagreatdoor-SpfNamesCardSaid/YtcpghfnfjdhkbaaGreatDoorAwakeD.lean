/-
  A PART OF THE PROOF OF 'Rows.SpfNamesCardSaid': pieces of the guard's run.
-/
import Derived.Test.YtcpghfnfjdhkbaaGreatDoorAwakeA
namespace Go.Proofs.YtcpghfnfjdhkbaaGreatDoor.awake
open Go.Vm
set_option maxRecDepth 100000
theorem p5 : segB (evCode Tryz.prog (fun _ => none) (evCall Tryz.prog (fun _ => none) 1000 99) 74 1000 (lft (rgt (rgt (rgt (rgt (rgt b)))))) (ofL s5) 5904 (ofL h5)) .norm s6 10223 h6 = true := by kernel_rfl
theorem p6 : segB (evCode Tryz.prog (fun _ => none) (evCall Tryz.prog (fun _ => none) 1000 99) 74 1000 (rgt (rgt (rgt (rgt (rgt (rgt b)))))) (ofL s6) 10223 (ofL h6)) .ret s7 10223 h7 = true := by kernel_rfl
end Go.Proofs.YtcpghfnfjdhkbaaGreatDoor.awake
