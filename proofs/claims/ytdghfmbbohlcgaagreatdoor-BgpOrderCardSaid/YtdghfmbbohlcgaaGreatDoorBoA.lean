/- What must hold, body by body, as the kernel reckons it. -/
import Derived.Test.YtdghfmbbohlcgaaGreatDoorVnC
import Derived.KernelRfl
import Derived.Test.YtdghfmbbohlcgaaGreatDoorProg
set_option linter.unusedVariables false
set_option linter.unusedSimpArgs false
namespace Go.Vm
open Go.RowKit
set_option maxRecDepth 100000
def cmpIntVC (H : View) (x y : Int) (K : KV) : Prop :=
  bifP (x != x) (bifP (y != y) (K H (V.lit (Value.int IntKind.i64 0)) 0 PT.nil) (K H (V.lit (Value.int IntKind.i64 (-1))) 0 PT.nil))
    (bifP (y != y) (K H (V.lit (Value.int IntKind.i64 1)) 0 PT.nil)
      (bifP (decide (x < y)) (K H (V.lit (Value.int IntKind.i64 (-1))) 0 PT.nil)
        (bifP (decide (y < x)) (K H (V.lit (Value.int IntKind.i64 1)) 0 PT.nil) (K H (V.lit (Value.int IntKind.i64 0)) 0 PT.nil))))
theorem cmpIntVC_eq (H : View) (x y : Int) (K : KV) : cmpIntVC H x y K = (vcFn Go.Proofs.Tryz.prog noPc (ctIn Go.Proofs.Tryz.prog noPc noCt 3) 42 .nil H [.lit (.int .i64 x), .lit (.int .i64 y)] 0 .nil K : Prop) := by kernel_rfl
def cmpAddrVC (H : View) (x y : Int) (K : KV) : Prop :=
  bifP (x != x) (bifP (y != y) (K H (V.lit (Value.int IntKind.i64 0)) 0 PT.nil) (K H (V.lit (Value.int IntKind.i64 (-1))) 0 PT.nil))
    (bifP (y != y) (K H (V.lit (Value.int IntKind.i64 1)) 0 PT.nil)
      (bifP (decide (x < y)) (K H (V.lit (Value.int IntKind.i64 (-1))) 0 PT.nil)
        (bifP (decide (y < x)) (K H (V.lit (Value.int IntKind.i64 1)) 0 PT.nil) (K H (V.lit (Value.int IntKind.i64 0)) 0 PT.nil))))
theorem cmpAddrVC_eq (H : View) (x y : Int) (K : KV) : cmpAddrVC H x y K = (vcFn Go.Proofs.Tryz.prog noPc (ctIn Go.Proofs.Tryz.prog noPc noCt 3) 43 .nil H [.lit (.int .u32 x), .lit (.int .u32 y)] 0 .nil K : Prop) := by kernel_rfl
def boolVC (H : View) (x : Bool) (K : KV) : Prop :=
  bifP x (K H (V.lit (Value.int IntKind.i64 1)) 0 PT.nil) (K H (V.lit (Value.int IntKind.i64 0)) 0 PT.nil)
theorem boolVC_eq (H : View) (x : Bool) (K : KV) : boolVC H x K = (vcFn Go.Proofs.Tryz.prog noPc noCt 40 .nil H [.lit (.bool x)] 0 .nil K : Prop) := by kernel_rfl
def orAVC (H : View) (x y : Int) (K : KV) : Prop :=
  bifP (x != 0) (K H (V.lit (Value.int IntKind.u32 x)) 1 (PT.nd (some (Ob.cells 23 [V.lit (Value.int IntKind.u32 x), V.lit (Value.int IntKind.u32 y)])) PT.nil PT.nil))
    (bifP (y != 0) (K H (V.lit (Value.int IntKind.u32 y)) 1 (PT.nd (some (Ob.cells 23 [V.lit (Value.int IntKind.u32 x), V.lit (Value.int IntKind.u32 y)])) PT.nil PT.nil))
      (K H (V.lit (Value.int IntKind.u32 0)) 1 (PT.nd (some (Ob.cells 23 [V.lit (Value.int IntKind.u32 x), V.lit (Value.int IntKind.u32 y)])) PT.nil PT.nil)))
theorem orAVC_eq (H : View) (x y : Int) (K : KV) : orAVC H x y K = (vcFn Go.Proofs.Tryz.prog noPc noCt 39 (.two .nil (.two .nil (.two (.two .nil (.one (.unroll 3 (.two .nil (.two (.known .nil .nil) .nil))))) .nil))) H [.sl 0 0 2 2] 1 (ofL [(0, .cells 23 [.lit (.int .u32 x), .lit (.int .u32 y)])]) K : Prop) := by kernel_rfl
def fst9VC (H : View) (a b c d e f g h i : Int) (K : KV) : Prop :=
  bifP (a != 0)
    (K H (V.lit (Value.int IntKind.i64 a)) 1
      (PT.nd
        (some
          (Ob.cells 3
            [V.lit (Value.int IntKind.i64 a), V.lit (Value.int IntKind.i64 b), V.lit (Value.int IntKind.i64 c), V.lit (Value.int IntKind.i64 d), V.lit (Value.int IntKind.i64 e),
              V.lit (Value.int IntKind.i64 f), V.lit (Value.int IntKind.i64 g), V.lit (Value.int IntKind.i64 h), V.lit (Value.int IntKind.i64 i)]))
        PT.nil PT.nil))
    (bifP (b != 0)
      (K H (V.lit (Value.int IntKind.i64 b)) 1
        (PT.nd
          (some
            (Ob.cells 3
              [V.lit (Value.int IntKind.i64 a), V.lit (Value.int IntKind.i64 b), V.lit (Value.int IntKind.i64 c), V.lit (Value.int IntKind.i64 d), V.lit (Value.int IntKind.i64 e),
                V.lit (Value.int IntKind.i64 f), V.lit (Value.int IntKind.i64 g), V.lit (Value.int IntKind.i64 h), V.lit (Value.int IntKind.i64 i)]))
          PT.nil PT.nil))
      (bifP (c != 0)
        (K H (V.lit (Value.int IntKind.i64 c)) 1
          (PT.nd
            (some
              (Ob.cells 3
                [V.lit (Value.int IntKind.i64 a), V.lit (Value.int IntKind.i64 b), V.lit (Value.int IntKind.i64 c), V.lit (Value.int IntKind.i64 d), V.lit (Value.int IntKind.i64 e),
                  V.lit (Value.int IntKind.i64 f), V.lit (Value.int IntKind.i64 g), V.lit (Value.int IntKind.i64 h), V.lit (Value.int IntKind.i64 i)]))
            PT.nil PT.nil))
        (bifP (d != 0)
          (K H (V.lit (Value.int IntKind.i64 d)) 1
            (PT.nd
              (some
                (Ob.cells 3
                  [V.lit (Value.int IntKind.i64 a), V.lit (Value.int IntKind.i64 b), V.lit (Value.int IntKind.i64 c), V.lit (Value.int IntKind.i64 d), V.lit (Value.int IntKind.i64 e),
                    V.lit (Value.int IntKind.i64 f), V.lit (Value.int IntKind.i64 g), V.lit (Value.int IntKind.i64 h), V.lit (Value.int IntKind.i64 i)]))
              PT.nil PT.nil))
          (bifP (e != 0)
            (K H (V.lit (Value.int IntKind.i64 e)) 1
              (PT.nd
                (some
                  (Ob.cells 3
                    [V.lit (Value.int IntKind.i64 a), V.lit (Value.int IntKind.i64 b), V.lit (Value.int IntKind.i64 c), V.lit (Value.int IntKind.i64 d), V.lit (Value.int IntKind.i64 e),
                      V.lit (Value.int IntKind.i64 f), V.lit (Value.int IntKind.i64 g), V.lit (Value.int IntKind.i64 h), V.lit (Value.int IntKind.i64 i)]))
                PT.nil PT.nil))
            (bifP (f != 0)
              (K H (V.lit (Value.int IntKind.i64 f)) 1
                (PT.nd
                  (some
                    (Ob.cells 3
                      [V.lit (Value.int IntKind.i64 a), V.lit (Value.int IntKind.i64 b), V.lit (Value.int IntKind.i64 c), V.lit (Value.int IntKind.i64 d), V.lit (Value.int IntKind.i64 e),
                        V.lit (Value.int IntKind.i64 f), V.lit (Value.int IntKind.i64 g), V.lit (Value.int IntKind.i64 h), V.lit (Value.int IntKind.i64 i)]))
                  PT.nil PT.nil))
              (bifP (g != 0)
                (K H (V.lit (Value.int IntKind.i64 g)) 1
                  (PT.nd
                    (some
                      (Ob.cells 3
                        [V.lit (Value.int IntKind.i64 a), V.lit (Value.int IntKind.i64 b), V.lit (Value.int IntKind.i64 c), V.lit (Value.int IntKind.i64 d), V.lit (Value.int IntKind.i64 e),
                          V.lit (Value.int IntKind.i64 f), V.lit (Value.int IntKind.i64 g), V.lit (Value.int IntKind.i64 h), V.lit (Value.int IntKind.i64 i)]))
                    PT.nil PT.nil))
                (bifP (h != 0)
                  (K H (V.lit (Value.int IntKind.i64 h)) 1
                    (PT.nd
                      (some
                        (Ob.cells 3
                          [V.lit (Value.int IntKind.i64 a), V.lit (Value.int IntKind.i64 b), V.lit (Value.int IntKind.i64 c), V.lit (Value.int IntKind.i64 d), V.lit (Value.int IntKind.i64 e),
                            V.lit (Value.int IntKind.i64 f), V.lit (Value.int IntKind.i64 g), V.lit (Value.int IntKind.i64 h), V.lit (Value.int IntKind.i64 i)]))
                      PT.nil PT.nil))
                  (bifP (i != 0)
                    (K H (V.lit (Value.int IntKind.i64 i)) 1
                      (PT.nd
                        (some
                          (Ob.cells 3
                            [V.lit (Value.int IntKind.i64 a), V.lit (Value.int IntKind.i64 b), V.lit (Value.int IntKind.i64 c), V.lit (Value.int IntKind.i64 d), V.lit (Value.int IntKind.i64 e),
                              V.lit (Value.int IntKind.i64 f), V.lit (Value.int IntKind.i64 g), V.lit (Value.int IntKind.i64 h), V.lit (Value.int IntKind.i64 i)]))
                        PT.nil PT.nil))
                    (K H (V.lit (Value.int IntKind.i64 0)) 1
                      (PT.nd
                        (some
                          (Ob.cells 3
                            [V.lit (Value.int IntKind.i64 a), V.lit (Value.int IntKind.i64 b), V.lit (Value.int IntKind.i64 c), V.lit (Value.int IntKind.i64 d), V.lit (Value.int IntKind.i64 e),
                              V.lit (Value.int IntKind.i64 f), V.lit (Value.int IntKind.i64 g), V.lit (Value.int IntKind.i64 h), V.lit (Value.int IntKind.i64 i)]))
                        PT.nil PT.nil))))))))))
theorem fst9VC_eq (H : View) (a b c d e f g h i : Int) (K : KV) : fst9VC H a b c d e f g h i K = (vcFn Go.Proofs.Tryz.prog noPc noCt 41 (.two .nil (.two (.two .nil (.one (.unroll 10 (.two .nil (.two (.known .nil .nil) .nil))))) .nil)) H [.sl 0 0 9 9] 1 (ofL [(0, .cells 3 [.lit (.int .i64 a), .lit (.int .i64 b), .lit (.int .i64 c), .lit (.int .i64 d), .lit (.int .i64 e), .lit (.int .i64 f), .lit (.int .i64 g), .lit (.int .i64 h), .lit (.int .i64 i)])]) K : Prop) := by kernel_rfl
end Go.Vm
