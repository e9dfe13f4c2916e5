/- Adverts: their order. -/
import Derived.Test.YtdghfmbbohlcgaaGreatDoorBoE
set_option linter.unusedVariables false
set_option linter.unusedSimpArgs false
namespace Go.Vm
open Go.RowKit
set_option maxRecDepth 100000
structure AKey where
  sess : Int
  pref : Int
  plen : Int
  metric : Int
  ext : Bool
  ident : Int
  clen : Int
  peer : Int
def ordK (a b : AKey) (x y : Int) : Int :=
  if a.sess = -1 ∨ b.sess = -1 then boolI (a.sess != -1) - boolI (b.sess != -1)
  else orI [cmpI b.pref a.pref, cmpI a.plen b.plen, cmpI a.metric b.metric, boolI b.ext - boolI a.ext, cmpI x y, cmpI a.ident b.ident, cmpI a.clen b.clen, cmpI a.peer b.peer, cmpI a.sess b.sess]
theorem wrap_b (p q : Bool) : IntKind.i64.wrap (boolI p - boolI q) = boolI p - boolI q := by cases p <;> cases q <;> rfl
theorem ord_fn (H : View) (aaddr abits ahop apref ametric apeer apid aorig asess : Int) (aext : Bool) (ab1 ao1 an1 ac1 ab2 ao2 an2 ac2 ab3 ao3 an3 ac3 : Nat) (af1 af2 af3 : Nat → List V) (baddr bbits bhop bpref bmetric bpeer bpid borig bsess : Int) (bext : Bool) (bb1 bo1 bn1 bc1 bb2 bo2 bn2 bc2 bb3 bo3 bn3 bc3 : Nat) (bf1 bf2 bf3 : Nat → List V) (x y : Int) : PcFn Go.Proofs.Tryz.prog 21 H [.agg [.lit (.int .u32 aaddr), .lit (.int .i64 abits), .lit (.int .u32 ahop), .lit (.int .i64 apref), .lit (.int .i64 ametric), .xs ab1 ao1 0 1 an1 ac1 af1, .xs ab2 ao2 0 1 an2 ac2 af2, .lit (.int .u32 apeer), .lit (.int .u32 apid), .lit (.bool aext), .lit (.int .u32 aorig), .xs ab3 ao3 0 1 an3 ac3 af3, .lit (.int .i64 asess)], .agg [.lit (.int .u32 baddr), .lit (.int .i64 bbits), .lit (.int .u32 bhop), .lit (.int .i64 bpref), .lit (.int .i64 bmetric), .xs bb1 bo1 0 1 bn1 bc1 bf1, .xs bb2 bo2 0 1 bn2 bc2 bf2, .lit (.int .u32 bpeer), .lit (.int .u32 bpid), .lit (.bool bext), .lit (.int .u32 borig), .xs bb3 bo3 0 1 bn3 bc3 bf3, .lit (.int .i64 bsess)], .lit (.int .i64 x), .lit (.int .i64 y)] (IV (ordK ⟨asess, apref, Int.ofNat an1, ametric, aext, orA aorig apid, Int.ofNat an3, apeer⟩ ⟨bsess, bpref, Int.ofNat bn1, bmetric, bext, orA borig bpid, Int.ofNat bn3, bpeer⟩ x y)) := by
  refine .of rfl rfl ?_
  have h : ordVC H aaddr abits ahop apref ametric apeer apid aorig asess aext ab1 ao1 an1 ac1 ab2 ao2 an2 ac2 ab3 ao3 an3 ac3 af1 af2 af3 baddr bbits bhop bpref bmetric bpeer bpid borig bsess bext bb1 bo1 bn1 bc1 bb2 bo2 bn2 bc2 bb3 bo3 bn3 bc3 bf1 bf2 bf3 x y fun H' u _ _ => u = IV (ordK ⟨asess, apref, Int.ofNat an1, ametric, aext, orA aorig apid, Int.ofNat an3, apeer⟩ ⟨bsess, bpref, Int.ofNat bn1, bmetric, bext, orA borig bpid, Int.ofNat bn3, bpeer⟩ x y) := by
    simp only [ordVC, bifP_eq, wrap_b, beq_iff_eq, beq_eq_false_iff_ne, true_implies, Bool.true_eq_false, false_implies, and_true, ne_eq]
    refine ⟨fun h => ?_, fun h => ⟨fun h2 => ?_, fun h2 => ?_⟩⟩
    · simp [ordK, h]
    · simp [ordK, h2]
    · simp only [ordK, h, h2, or_self, if_false]
  exact vcFn_of mixed pcC_ok (noCt_ok _) (ordVC_eq ..) h
def c60 : List V → View → Option (Option Prop × V)
  | [.agg [.lit (.int .u32 aaddr), .lit (.int .i64 abits), .lit (.int .u32 ahop), .lit (.int .i64 apref), .lit (.int .i64 ametric), .xs ab1 ao1 0 1 an1 ac1 af1, .xs ab2 ao2 0 1 an2 ac2 af2, .lit (.int .u32 apeer), .lit (.int .u32 apid), .lit (.bool aext), .lit (.int .u32 aorig), .xs ab3 ao3 0 1 an3 ac3 af3, .lit (.int .i64 asess)], .agg [.lit (.int .u32 baddr), .lit (.int .i64 bbits), .lit (.int .u32 bhop), .lit (.int .i64 bpref), .lit (.int .i64 bmetric), .xs bb1 bo1 0 1 bn1 bc1 bf1, .xs bb2 bo2 0 1 bn2 bc2 bf2, .lit (.int .u32 bpeer), .lit (.int .u32 bpid), .lit (.bool bext), .lit (.int .u32 borig), .xs bb3 bo3 0 1 bn3 bc3 bf3, .lit (.int .i64 bsess)], .lit (.int .i64 x), .lit (.int .i64 y)], _ => some (none, IV (ordK ⟨asess, apref, Int.ofNat an1, ametric, aext, orA aorig apid, Int.ofNat an3, apeer⟩ ⟨bsess, bpref, Int.ofNat bn1, bmetric, bext, orA borig bpid, Int.ofNat bn3, bpeer⟩ x y))
  | _, _ => none
def pcD : Pc := pcOn 21 c60 noPc
theorem pcD_ok : PcOk Go.Proofs.Tryz.prog pcD := by
  refine pcOn_ok (noPc_ok _) ?_
  intro args H p v h _
  unfold c60 at h
  split at h
  · simp only [Option.some.injEq, Prod.mk.injEq] at h; obtain ⟨-, rfl⟩ := h; exact ord_fn _ _ _ _ _ _ _ _ _ _ _ _ _ _ _ _ _ _ _ _ _ _ _ _ _ _ _ _ _ _ _ _ _ _ _ _ _ _ _ _ _ _ _ _ _ _ _ _ _ _ _ _ _
  · cases h
end Go.Vm
