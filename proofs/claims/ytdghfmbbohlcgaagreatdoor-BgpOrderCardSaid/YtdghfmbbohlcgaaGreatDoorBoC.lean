/- What must hold, body by body, as the kernel reckons it. -/
import Derived.Test.YtdghfmbbohlcgaaGreatDoorBoB
set_option linter.unusedVariables false
set_option linter.unusedSimpArgs false
namespace Go.Vm
open Go.RowKit
set_option maxRecDepth 100000
def idVC (H : View) (aaddr abits ahop apref ametric apeer apid aorig asess : Int) (aext : Bool) (ab1 ao1 an1 ac1 ab2 ao2 an2 ac2 ab3 ao3 an3 ac3 : Nat) (af1 af2 af3 : Nat → List V) (K : KV) : Prop :=
  K H (V.lit (Value.int IntKind.u32 (orA aorig apid))) 2
    (PT.nd
      (some
        (Ob.cells 29
          [V.lit (Value.int IntKind.u32 aaddr), V.lit (Value.int IntKind.i64 abits), V.lit (Value.int IntKind.u32 ahop), V.lit (Value.int IntKind.i64 apref), V.lit (Value.int IntKind.i64 ametric),
            V.xs ab1 ao1 0 1 an1 ac1 af1, V.xs ab2 ao2 0 1 an2 ac2 af2, V.lit (Value.int IntKind.u32 apeer), V.lit (Value.int IntKind.u32 apid), V.lit (Value.bool aext),
            V.lit (Value.int IntKind.u32 aorig), V.xs ab3 ao3 0 1 an3 ac3 af3, V.lit (Value.int IntKind.i64 asess)]))
      (PT.nd (some (Ob.cells 23 [V.lit (Value.int IntKind.u32 aorig), V.lit (Value.int IntKind.u32 apid)])) PT.nil PT.nil) PT.nil)
theorem idVC_eq (H : View) (aaddr abits ahop apref ametric apeer apid aorig asess : Int) (aext : Bool) (ab1 ao1 an1 ac1 ab2 ao2 an2 ac2 ab3 ao3 an3 ac3 : Nat) (af1 af2 af3 : Nat → List V) (K : KV) : idVC H aaddr abits ahop apref ametric apeer apid aorig asess aext ab1 ao1 an1 ac1 ab2 ao2 an2 ac2 ab3 ao3 an3 ac3 af1 af2 af3 K = (vcFn Go.Proofs.Tryz.prog pcB noCt 38 .nil H [.agg [.lit (.int .u32 aaddr), .lit (.int .i64 abits), .lit (.int .u32 ahop), .lit (.int .i64 apref), .lit (.int .i64 ametric), .xs ab1 ao1 0 1 an1 ac1 af1, .xs ab2 ao2 0 1 an2 ac2 af2, .lit (.int .u32 apeer), .lit (.int .u32 apid), .lit (.bool aext), .lit (.int .u32 aorig), .xs ab3 ao3 0 1 an3 ac3 af3, .lit (.int .i64 asess)]] 0 .nil K : Prop) := by kernel_rfl
end Go.Vm
