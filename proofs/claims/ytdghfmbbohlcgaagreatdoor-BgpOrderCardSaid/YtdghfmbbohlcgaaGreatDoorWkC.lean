/- The closed guard returns true. -/
import Derived.Test.YtdghfmbbohlcgaaGreatDoorWkB1
import Derived.Test.YtdghfmbbohlcgaaGreatDoorWkB2
set_option linter.unusedVariables false
namespace Go.Vm
open Go.RowKit
set_option maxRecDepth 100000
theorem mixed0 : Go.Proofs.Tryz.prog.follows .mixedOrders = true := by kernel_rfl
def ansW (c : CallR) : CallR := ansR 37 tx1 p1v 1428 p1o (ansR 37 tx2 p2v 926 p2o c)
theorem ansW_ok (T : TypeId) (fz : Nat × Nat) : ∀ c, CallOk Go.Proofs.Tryz.prog (Hn T fz) c → CallOk Go.Proofs.Tryz.prog (Hn T fz) (ansW c) := fun c hc =>
  ansR_ok (evCallA_ok mixed0 (fun c hc => ansR_ok (evCall_ok mixed0 99) (l1_ran T fz) hc) 99) (p1_ran T fz) (ansR_ok (evCallA_ok mixed0 (fun c hc => ansR_ok (evCall_ok mixed0 99) (l2_ran T fz) hc) 99) (p2_ran T fz) hc)
theorem w_ran (T : TypeId) (fz : Nat × Nat) : ansB (evCallA ansW Go.Proofs.Tryz.prog (Hn T fz) 1000 99 7 [] 0 .nil) (.lit (.bool true)) 5344 [] = true := by kernel_rfl
theorem works_fn (T : TypeId) (fz : Nat × Nat) : PcFn Go.Proofs.Tryz.prog 7 (Hn T fz) [] (.lit (.bool true)) :=
  .of rfl rfl (ans_con (evCallA_ok mixed0 (ansW_ok T fz) 99) (w_ran T fz))
end Go.Vm
