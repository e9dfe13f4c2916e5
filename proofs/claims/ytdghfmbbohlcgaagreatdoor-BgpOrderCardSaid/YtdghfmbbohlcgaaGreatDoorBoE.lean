/- What must hold, body by body, as the kernel reckons it. -/
import Derived.Test.YtdghfmbbohlcgaaGreatDoorBoD
set_option linter.unusedVariables false
set_option linter.unusedSimpArgs false
namespace Go.Vm
open Go.RowKit
set_option maxRecDepth 100000
def ordVC (H : View) (aaddr abits ahop apref ametric apeer apid aorig asess : Int) (aext : Bool) (ab1 ao1 an1 ac1 ab2 ao2 an2 ac2 ab3 ao3 an3 ac3 : Nat) (af1 af2 af3 : Nat → List V) (baddr bbits bhop bpref bmetric bpeer bpid borig bsess : Int) (bext : Bool) (bb1 bo1 bn1 bc1 bb2 bo2 bn2 bc2 bb3 bo3 bn3 bc3 : Nat) (bf1 bf2 bf3 : Nat → List V) (x y : Int) (K : KV) : Prop :=
  bifP (asess == -1)
    (K H (V.lit (Value.int IntKind.i64 (IntKind.i64.wrap (boolI (asess != -1) - boolI (bsess != -1))))) 12
      (PT.nd
        (some
          (Ob.cells 29
            [V.lit (Value.int IntKind.u32 aaddr), V.lit (Value.int IntKind.i64 abits), V.lit (Value.int IntKind.u32 ahop), V.lit (Value.int IntKind.i64 apref), V.lit (Value.int IntKind.i64 ametric),
              V.xs ab1 ao1 0 1 an1 ac1 af1, V.xs ab2 ao2 0 1 an2 ac2 af2, V.lit (Value.int IntKind.u32 apeer), V.lit (Value.int IntKind.u32 apid), V.lit (Value.bool aext),
              V.lit (Value.int IntKind.u32 aorig), V.xs ab3 ao3 0 1 an3 ac3 af3, V.lit (Value.int IntKind.i64 asess)]))
        (PT.nd
          (some
            (Ob.cells 29
              [V.lit (Value.int IntKind.u32 baddr), V.lit (Value.int IntKind.i64 bbits), V.lit (Value.int IntKind.u32 bhop), V.lit (Value.int IntKind.i64 bpref), V.lit (Value.int IntKind.i64 bmetric),
                V.xs bb1 bo1 0 1 bn1 bc1 bf1, V.xs bb2 bo2 0 1 bn2 bc2 bf2, V.lit (Value.int IntKind.u32 bpeer), V.lit (Value.int IntKind.u32 bpid), V.lit (Value.bool bext),
                V.lit (Value.int IntKind.u32 borig), V.xs bb3 bo3 0 1 bn3 bc3 bf3, V.lit (Value.int IntKind.i64 bsess)]))
          PT.nil PT.nil)
        PT.nil))
    (bifP (bsess == -1)
      (K H (V.lit (Value.int IntKind.i64 (IntKind.i64.wrap (boolI (asess != -1) - boolI (bsess != -1))))) 12
        (PT.nd
          (some
            (Ob.cells 29
              [V.lit (Value.int IntKind.u32 aaddr), V.lit (Value.int IntKind.i64 abits), V.lit (Value.int IntKind.u32 ahop), V.lit (Value.int IntKind.i64 apref), V.lit (Value.int IntKind.i64 ametric),
                V.xs ab1 ao1 0 1 an1 ac1 af1, V.xs ab2 ao2 0 1 an2 ac2 af2, V.lit (Value.int IntKind.u32 apeer), V.lit (Value.int IntKind.u32 apid), V.lit (Value.bool aext),
                V.lit (Value.int IntKind.u32 aorig), V.xs ab3 ao3 0 1 an3 ac3 af3, V.lit (Value.int IntKind.i64 asess)]))
          (PT.nd
            (some
              (Ob.cells 29
                [V.lit (Value.int IntKind.u32 baddr), V.lit (Value.int IntKind.i64 bbits), V.lit (Value.int IntKind.u32 bhop), V.lit (Value.int IntKind.i64 bpref), V.lit (Value.int IntKind.i64 bmetric),
                  V.xs bb1 bo1 0 1 bn1 bc1 bf1, V.xs bb2 bo2 0 1 bn2 bc2 bf2, V.lit (Value.int IntKind.u32 bpeer), V.lit (Value.int IntKind.u32 bpid), V.lit (Value.bool bext),
                  V.lit (Value.int IntKind.u32 borig), V.xs bb3 bo3 0 1 bn3 bc3 bf3, V.lit (Value.int IntKind.i64 bsess)]))
            PT.nil PT.nil)
          PT.nil))
      (K H
        (V.lit
          (Value.int IntKind.i64
            (orI
              [cmpI bpref apref, cmpI (Int.ofNat an1) (Int.ofNat bn1), cmpI ametric bmetric, IntKind.i64.wrap (boolI bext - boolI aext), cmpI x y, cmpI (orA aorig apid) (orA borig bpid),
                cmpI (Int.ofNat an3) (Int.ofNat bn3), cmpI apeer bpeer, cmpI asess bsess])))
        56
        (PT.nd
          (some
            (Ob.cells 29
              [V.lit (Value.int IntKind.u32 aaddr), V.lit (Value.int IntKind.i64 abits), V.lit (Value.int IntKind.u32 ahop), V.lit (Value.int IntKind.i64 apref), V.lit (Value.int IntKind.i64 ametric),
                V.xs ab1 ao1 0 1 an1 ac1 af1, V.xs ab2 ao2 0 1 an2 ac2 af2, V.lit (Value.int IntKind.u32 apeer), V.lit (Value.int IntKind.u32 apid), V.lit (Value.bool aext),
                V.lit (Value.int IntKind.u32 aorig), V.xs ab3 ao3 0 1 an3 ac3 af3, V.lit (Value.int IntKind.i64 asess)]))
          (PT.nd
            (some
              (Ob.cells 29
                [V.lit (Value.int IntKind.u32 baddr), V.lit (Value.int IntKind.i64 bbits), V.lit (Value.int IntKind.u32 bhop), V.lit (Value.int IntKind.i64 bpref), V.lit (Value.int IntKind.i64 bmetric),
                  V.xs bb1 bo1 0 1 bn1 bc1 bf1, V.xs bb2 bo2 0 1 bn2 bc2 bf2, V.lit (Value.int IntKind.u32 bpeer), V.lit (Value.int IntKind.u32 bpid), V.lit (Value.bool bext),
                  V.lit (Value.int IntKind.u32 borig), V.xs bb3 bo3 0 1 bn3 bc3 bf3, V.lit (Value.int IntKind.i64 bsess)]))
            PT.nil
            (PT.nd none PT.nil
              (PT.nd none
                (PT.nd none PT.nil
                  (PT.nd
                    (some
                      (Ob.cells 3
                        [V.lit (Value.int IntKind.i64 (cmpI bpref apref)), V.lit (Value.int IntKind.i64 (cmpI (Int.ofNat an1) (Int.ofNat bn1))), V.lit (Value.int IntKind.i64 (cmpI ametric bmetric)),
                          V.lit (Value.int IntKind.i64 (IntKind.i64.wrap (boolI bext - boolI aext))), V.lit (Value.int IntKind.i64 (cmpI x y)),
                          V.lit (Value.int IntKind.i64 (cmpI (orA aorig apid) (orA borig bpid))), V.lit (Value.int IntKind.i64 (cmpI (Int.ofNat an3) (Int.ofNat bn3))),
                          V.lit (Value.int IntKind.i64 (cmpI apeer bpeer)), V.lit (Value.int IntKind.i64 (cmpI asess bsess))]))
                    PT.nil PT.nil))
                PT.nil)))
          PT.nil)))
theorem ordVC_eq (H : View) (aaddr abits ahop apref ametric apeer apid aorig asess : Int) (aext : Bool) (ab1 ao1 an1 ac1 ab2 ao2 an2 ac2 ab3 ao3 an3 ac3 : Nat) (af1 af2 af3 : Nat → List V) (baddr bbits bhop bpref bmetric bpeer bpid borig bsess : Int) (bext : Bool) (bb1 bo1 bn1 bc1 bb2 bo2 bn2 bc2 bb3 bo3 bn3 bc3 : Nat) (bf1 bf2 bf3 : Nat → List V) (x y : Int) (K : KV) : ordVC H aaddr abits ahop apref ametric apeer apid aorig asess aext ab1 ao1 an1 ac1 ab2 ao2 an2 ac2 ab3 ao3 an3 ac3 af1 af2 af3 baddr bbits bhop bpref bmetric bpeer bpid borig bsess bext bb1 bo1 bn1 bc1 bb2 bo2 bn2 bc2 bb3 bo3 bn3 bc3 bf1 bf2 bf3 x y K = (vcFn Go.Proofs.Tryz.prog pcC noCt 21 .nil H [.agg [.lit (.int .u32 aaddr), .lit (.int .i64 abits), .lit (.int .u32 ahop), .lit (.int .i64 apref), .lit (.int .i64 ametric), .xs ab1 ao1 0 1 an1 ac1 af1, .xs ab2 ao2 0 1 an2 ac2 af2, .lit (.int .u32 apeer), .lit (.int .u32 apid), .lit (.bool aext), .lit (.int .u32 aorig), .xs ab3 ao3 0 1 an3 ac3 af3, .lit (.int .i64 asess)], .agg [.lit (.int .u32 baddr), .lit (.int .i64 bbits), .lit (.int .u32 bhop), .lit (.int .i64 bpref), .lit (.int .i64 bmetric), .xs bb1 bo1 0 1 bn1 bc1 bf1, .xs bb2 bo2 0 1 bn2 bc2 bf2, .lit (.int .u32 bpeer), .lit (.int .u32 bpid), .lit (.bool bext), .lit (.int .u32 borig), .xs bb3 bo3 0 1 bn3 bc3 bf3, .lit (.int .i64 bsess)], .lit (.int .i64 x), .lit (.int .i64 y)] 0 .nil K : Prop) := by kernel_rfl
end Go.Vm
