/-
  A PART OF THE PROOF OF 'Rows.SpfNamesCardSaid': the guard (function 15) returns true.
-/
import Derived.Test.YtcpghfnfjdhkbaaGreatDoorAwakeA
import Derived.Test.YtcpghfnfjdhkbaaGreatDoorAwakeB
import Derived.Test.YtcpghfnfjdhkbaaGreatDoorAwakeC
import Derived.Test.YtcpghfnfjdhkbaaGreatDoorAwakeD
namespace Go.Proofs.YtcpghfnfjdhkbaaGreatDoor.awake
open Go.Vm Go.RowKit
set_option maxRecDepth 100000
theorem mixed : Tryz.prog.follows .mixedOrders = true := by kernel_rfl
theorem all : SegOk Tryz.prog (fun _ => none) 74 b .nil 0 .nil .ret (ofL s7) 10223 (ofL h7) :=
  SegOk.seq' (by kernel_rfl) (seg_of mixed (evCall_ok mixed 99) p0) (SegOk.seq' (by kernel_rfl) (seg_of mixed (evCall_ok mixed 99) p1) (SegOk.seq' (by kernel_rfl) (seg_of mixed (evCall_ok mixed 99) p2) (SegOk.seq' (by kernel_rfl) (seg_of mixed (evCall_ok mixed 99) p3) (SegOk.seq' (by kernel_rfl) (seg_of mixed (evCall_ok mixed 99) p4) (SegOk.seq' (by kernel_rfl) (seg_of mixed (evCall_ok mixed 99) p5) (seg_of mixed (evCall_ok mixed 99) p6))))))
theorem body15 : Tryz.f15.body = some b := by kernel_rfl
theorem calls (w : World) : Calls Tryz.prog 15 #[] w fun e w' => e = .returned (.bool true) ∧ Below w.heap.size w w' :=
  SegOk.calls Tryz.func15 body15 (by rw [Tryz.ntmps15]; exact all) (.inl rfl) (t := 0) (by kernel_rfl) (by kernel_rfl) w
end Go.Proofs.YtcpghfnfjdhkbaaGreatDoor.awake
