/- The closed guard: a text, taken apart. -/
import Derived.Test.YtdghfmbbohlcgaaGreatDoorWkA2
set_option linter.unusedVariables false
namespace Go.Vm
open Go.RowKit
set_option maxRecDepth 100000
def p2v : V := (V.tup [(V.agg [(V.lit (Value.string (ByteArray.mk (Array.mk [98])))), (V.lit (Value.int IntKind.u8 (Int.ofNat 1))), (V.lit (Value.slice none 0 0)), (V.osl 415 0 11 1), (V.lit (Value.slice none 0 0)), (V.lit (Value.slice none 0 0)), (V.lit (Value.slice none 0 0)), (V.lit (Value.slice none 0 0)), (V.lit (Value.slice none 0 0)), (V.lit (Value.slice none 0 0)), (V.lit (Value.slice none 0 0)), (V.osl 667 0 6 1)]), (V.agg [(V.lit (Value.int IntKind.i64 (Int.ofNat 0))), (V.lit (Value.int IntKind.i64 (Int.ofNat 0)))]), (V.lit (Value.int IntKind.i64 (Int.ofNat 0)))])
def p2o : List (Nat × Ob) := [(415, (Ob.row 103 11 [(V.lit (Value.string (ByteArray.mk (Array.mk [101, 48])))), (V.lit (Value.string (ByteArray.mk (Array.mk [])))), (V.lit (Value.int IntKind.u32 (Int.ofNat 167772162))), (V.lit (Value.int IntKind.i64 (Int.ofNat 24))), (V.lit (Value.bool false)), (V.lit (Value.string (ByteArray.mk (Array.mk [])))), (V.lit (Value.string (ByteArray.mk (Array.mk [])))), (V.lit (Value.int IntKind.u8 (Int.ofNat 0))), (V.lit (Value.int IntKind.i64 (Int.negSucc 0))), (V.lit (Value.int IntKind.i64 (Int.ofNat 10))), (V.lit (Value.bool false))])),
  (667, (Ob.row 55 6 [(V.lit (Value.string (ByteArray.mk (Array.mk [])))), (V.lit (Value.int IntKind.u32 (Int.ofNat 2))), (V.lit (Value.int IntKind.u32 (Int.ofNat 33686018))), (V.lit (Value.slice none 0 0)), (V.osl 899 0 6 1), (V.lit (Value.slice none 0 0))])),
  (899, (Ob.row 70 6 [(V.lit (Value.int IntKind.u32 (Int.ofNat 167772161))), (V.lit (Value.int IntKind.u32 (Int.ofNat 1))), (V.lit (Value.string (ByteArray.mk (Array.mk [])))), (V.lit (Value.string (ByteArray.mk (Array.mk [])))), (V.lit (Value.bool false)), (V.lit (Value.bool false))]))]
theorem p2_ran (T : TypeId) (fz : Nat × Nat) : ansB (evCallA (ansR 72 tx2 l2v 292 l2o) Go.Proofs.Tryz.prog (Hn T fz) 1000 99 37 [.lit tx2] 0 .nil) p2v 926 p2o = true := by kernel_rfl
end Go.Vm
