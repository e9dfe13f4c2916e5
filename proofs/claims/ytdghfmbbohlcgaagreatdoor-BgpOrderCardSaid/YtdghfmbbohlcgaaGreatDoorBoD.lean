/- Adverts: who told it. -/
import Derived.Test.YtdghfmbbohlcgaaGreatDoorBoC
set_option linter.unusedVariables false
set_option linter.unusedSimpArgs false
namespace Go.Vm
open Go.RowKit
set_option maxRecDepth 100000
theorem id_fn (H : View) (aaddr abits ahop apref ametric apeer apid aorig asess : Int) (aext : Bool) (ab1 ao1 an1 ac1 ab2 ao2 an2 ac2 ab3 ao3 an3 ac3 : Nat) (af1 af2 af3 : Nat → List V) : PcFn Go.Proofs.Tryz.prog 38 H [.agg [.lit (.int .u32 aaddr), .lit (.int .i64 abits), .lit (.int .u32 ahop), .lit (.int .i64 apref), .lit (.int .i64 ametric), .xs ab1 ao1 0 1 an1 ac1 af1, .xs ab2 ao2 0 1 an2 ac2 af2, .lit (.int .u32 apeer), .lit (.int .u32 apid), .lit (.bool aext), .lit (.int .u32 aorig), .xs ab3 ao3 0 1 an3 ac3 af3, .lit (.int .i64 asess)]] (.lit (.int .u32 (orA aorig apid))) := by
  refine .of rfl rfl ?_
  have h : idVC H aaddr abits ahop apref ametric apeer apid aorig asess aext ab1 ao1 an1 ac1 ab2 ao2 an2 ac2 ab3 ao3 an3 ac3 af1 af2 af3 fun H' u _ _ => u = .lit (.int .u32 (orA aorig apid)) := rfl
  exact vcFn_of mixed pcB_ok (noCt_ok _) (idVC_eq ..) h
def c124 : List V → View → Option (Option Prop × V)
  | [.agg [.lit (.int .u32 aaddr), .lit (.int .i64 abits), .lit (.int .u32 ahop), .lit (.int .i64 apref), .lit (.int .i64 ametric), .xs ab1 ao1 0 1 an1 ac1 af1, .xs ab2 ao2 0 1 an2 ac2 af2, .lit (.int .u32 apeer), .lit (.int .u32 apid), .lit (.bool aext), .lit (.int .u32 aorig), .xs ab3 ao3 0 1 an3 ac3 af3, .lit (.int .i64 asess)]], _ => some (none, .lit (.int .u32 (orA aorig apid)))
  | _, _ => none
def pcC : Pc := pcOn 38 c124 pcB
theorem pcC_ok : PcOk Go.Proofs.Tryz.prog pcC := by
  refine pcOn_ok pcB_ok ?_
  intro args H p v h _
  unfold c124 at h
  split at h
  · simp only [Option.some.injEq, Prod.mk.injEq] at h; obtain ⟨-, rfl⟩ := h; exact id_fn _ _ _ _ _ _ _ _ _ _ _ _ _ _ _ _ _ _ _ _ _ _ _ _ _ _
  · cases h
end Go.Vm
