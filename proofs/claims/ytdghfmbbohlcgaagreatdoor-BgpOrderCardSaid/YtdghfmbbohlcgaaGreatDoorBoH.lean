/- Adverts: which is better. -/
import Derived.Test.YtdghfmbbohlcgaaGreatDoorBoG
set_option linter.unusedVariables false
set_option linter.unusedSimpArgs false
namespace Go.Vm
open Go.RowKit
set_option maxRecDepth 100000
theorem bet_fn (H : View) (aaddr abits ahop apref ametric apeer apid aorig asess : Int) (aext : Bool) (ab1 ao1 an1 ac1 ab2 ao2 an2 ac2 ab3 ao3 an3 ac3 : Nat) (af1 af2 af3 : Nat → List V) (baddr bbits bhop bpref bmetric bpeer bpid borig bsess : Int) (bext : Bool) (bb1 bo1 bn1 bc1 bb2 bo2 bn2 bc2 bb3 bo3 bn3 bc3 : Nat) (bf1 bf2 bf3 : Nat → List V) (x y : Int) : PcFn Go.Proofs.Tryz.prog 8 H [.agg [.lit (.int .u32 aaddr), .lit (.int .i64 abits), .lit (.int .u32 ahop), .lit (.int .i64 apref), .lit (.int .i64 ametric), .xs ab1 ao1 0 1 an1 ac1 af1, .xs ab2 ao2 0 1 an2 ac2 af2, .lit (.int .u32 apeer), .lit (.int .u32 apid), .lit (.bool aext), .lit (.int .u32 aorig), .xs ab3 ao3 0 1 an3 ac3 af3, .lit (.int .i64 asess)], .agg [.lit (.int .u32 baddr), .lit (.int .i64 bbits), .lit (.int .u32 bhop), .lit (.int .i64 bpref), .lit (.int .i64 bmetric), .xs bb1 bo1 0 1 bn1 bc1 bf1, .xs bb2 bo2 0 1 bn2 bc2 bf2, .lit (.int .u32 bpeer), .lit (.int .u32 bpid), .lit (.bool bext), .lit (.int .u32 borig), .xs bb3 bo3 0 1 bn3 bc3 bf3, .lit (.int .i64 bsess)], .lit (.int .i64 x), .lit (.int .i64 y)] (.lit (.bool (decide (ordK ⟨asess, apref, Int.ofNat an1, ametric, aext, orA aorig apid, Int.ofNat an3, apeer⟩ ⟨bsess, bpref, Int.ofNat bn1, bmetric, bext, orA borig bpid, Int.ofNat bn3, bpeer⟩ x y < 0)))) := by
  refine .of rfl rfl ?_
  have h : betVC H aaddr abits ahop apref ametric apeer apid aorig asess aext ab1 ao1 an1 ac1 ab2 ao2 an2 ac2 ab3 ao3 an3 ac3 af1 af2 af3 baddr bbits bhop bpref bmetric bpeer bpid borig bsess bext bb1 bo1 bn1 bc1 bb2 bo2 bn2 bc2 bb3 bo3 bn3 bc3 bf1 bf2 bf3 x y fun H' u _ _ => u = .lit (.bool (decide (ordK ⟨asess, apref, Int.ofNat an1, ametric, aext, orA aorig apid, Int.ofNat an3, apeer⟩ ⟨bsess, bpref, Int.ofNat bn1, bmetric, bext, orA borig bpid, Int.ofNat bn3, bpeer⟩ x y < 0))) := rfl
  exact vcFn_of mixed pcD_ok (noCt_ok _) (betVC_eq ..) h
def c14 : List V → View → Option (Option Prop × V)
  | [.agg [.lit (.int .u32 aaddr), .lit (.int .i64 abits), .lit (.int .u32 ahop), .lit (.int .i64 apref), .lit (.int .i64 ametric), .xs ab1 ao1 0 1 an1 ac1 af1, .xs ab2 ao2 0 1 an2 ac2 af2, .lit (.int .u32 apeer), .lit (.int .u32 apid), .lit (.bool aext), .lit (.int .u32 aorig), .xs ab3 ao3 0 1 an3 ac3 af3, .lit (.int .i64 asess)], .agg [.lit (.int .u32 baddr), .lit (.int .i64 bbits), .lit (.int .u32 bhop), .lit (.int .i64 bpref), .lit (.int .i64 bmetric), .xs bb1 bo1 0 1 bn1 bc1 bf1, .xs bb2 bo2 0 1 bn2 bc2 bf2, .lit (.int .u32 bpeer), .lit (.int .u32 bpid), .lit (.bool bext), .lit (.int .u32 borig), .xs bb3 bo3 0 1 bn3 bc3 bf3, .lit (.int .i64 bsess)], .lit (.int .i64 x), .lit (.int .i64 y)], _ => some (none, .lit (.bool (decide (ordK ⟨asess, apref, Int.ofNat an1, ametric, aext, orA aorig apid, Int.ofNat an3, apeer⟩ ⟨bsess, bpref, Int.ofNat bn1, bmetric, bext, orA borig bpid, Int.ofNat bn3, bpeer⟩ x y < 0))))
  | _, _ => none
def pcE (pc : Pc) : Pc := pcOn 8 c14 pc
theorem pcE_ok (pc : Pc) (h : PcOk Go.Proofs.Tryz.prog pc) : PcOk Go.Proofs.Tryz.prog (pcE pc) := by
  refine pcOn_ok h ?_
  intro args H p v h _
  unfold c14 at h
  split at h
  · simp only [Option.some.injEq, Prod.mk.injEq] at h; obtain ⟨-, rfl⟩ := h; exact bet_fn _ _ _ _ _ _ _ _ _ _ _ _ _ _ _ _ _ _ _ _ _ _ _ _ _ _ _ _ _ _ _ _ _ _ _ _ _ _ _ _ _ _ _ _ _ _ _ _ _ _ _ _ _
  · cases h
end Go.Vm
