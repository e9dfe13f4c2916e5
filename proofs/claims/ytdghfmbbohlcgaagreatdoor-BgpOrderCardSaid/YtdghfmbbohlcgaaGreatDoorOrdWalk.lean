/-
  A PART OF THE PROOF OF 'Rows.BgpOrderCardSaid': the arguments opened, the law's call.
-/
import Derived.Test.YtdghfmbbohlcgaaGreatDoorBoK
import Derived.Test.YtdghfmbbohlcgaaGreatDoorWkC
namespace Go.Proofs.YtdghfmbbohlcgaaGreatDoor.bgpOrder
open Go Go.Vm Go.RowKit
set_option linter.unusedVariables false
set_option maxRecDepth 100000
def adK : List CK := [.i .u32, .i .i64, .i .u32, .i .i64, .i .i64, .sl [.i .u32], .sl [.i .u32], .i .u32, .i .u32, .b, .i .u32, .sl [.i .u32], .i .i64]
theorem ck29 : ckOf Tryz.prog 20 29 = some adK := by kernel_rfl
theorem ck3 : ckOf Tryz.prog 20 3 = some [.i .i64] := by kernel_rfl
theorem int_open {w : World} {k : IntKind} {v : Value} (h : OpK w (.i k) v) : ∃ n, v = .int k n := by
  cases h with
  | i _ n _ => exact ⟨n, rfl⟩
theorem bool_open {w : World} {v : Value} (h : OpK w .b v) : ∃ x, v = .bool x := by
  cases h with
  | b x => exact ⟨x, rfl⟩
theorem ad_open {w : World} {cs : List Value} (h : OpL w adK cs) : ∃ aaddr abits ahop apref ametric ab1 ao1 an1 ac1 af1 ab2 ao2 an2 ac2 af2 apeer apid aext aorig ab3 ao3 an3 ac3 af3 asess, VRs R0 [.lit (.int .u32 aaddr), .lit (.int .i64 abits), .lit (.int .u32 ahop), .lit (.int .i64 apref), .lit (.int .i64 ametric), .xs ab1 ao1 0 1 an1 ac1 af1, .xs ab2 ao2 0 1 an2 ac2 af2, .lit (.int .u32 apeer), .lit (.int .u32 apid), .lit (.bool aext), .lit (.int .u32 aorig), .xs ab3 ao3 0 1 an3 ac3 af3, .lit (.int .i64 asess)] cs := by
  unfold adK at h
  cases h with
  | cons h1 h => cases h with
  | cons h2 h => cases h with
  | cons h3 h => cases h with
  | cons h4 h => cases h with
  | cons h5 h => cases h with
  | cons h6 h => cases h with
  | cons h7 h => cases h with
  | cons h8 h => cases h with
  | cons h9 h => cases h with
  | cons h10 h => cases h with
  | cons h11 h => cases h with
  | cons h12 h => cases h with
  | cons h13 h => cases h with
  | nil =>
    obtain ⟨addr, rfl⟩ := int_open h1
    obtain ⟨bits, rfl⟩ := int_open h2
    obtain ⟨hop, rfl⟩ := int_open h3
    obtain ⟨pref, rfl⟩ := int_open h4
    obtain ⟨metric, rfl⟩ := int_open h5
    obtain ⟨b1, o1, n1, c1, f1, k1⟩ := nums_open (R := R0) h6
    obtain ⟨b2, o2, n2, c2, f2, k2⟩ := nums_open (R := R0) h7
    obtain ⟨peer, rfl⟩ := int_open h8
    obtain ⟨pid, rfl⟩ := int_open h9
    obtain ⟨ext, rfl⟩ := bool_open h10
    obtain ⟨orig, rfl⟩ := int_open h11
    obtain ⟨b3, o3, n3, c3, f3, k3⟩ := nums_open (R := R0) h12
    obtain ⟨sess, rfl⟩ := int_open h13
    exact ⟨addr, bits, hop, pref, metric, b1, o1, n1, c1, f1, b2, o2, n2, c2, f2, peer, pid, ext, orig, b3, o3, n3, c3, f3, sess, .cons (.lit _) (.cons (.lit _) (.cons (.lit _) (.cons (.lit _) (.cons (.lit _) (.cons k1 (.cons k2 (.cons (.lit _) (.cons (.lit _) (.cons (.lit _) (.cons (.lit _) (.cons k3 (.cons (.lit _) .nil))))))))))))⟩
theorem pcW_ok : PcOk Tryz.prog pcW := by
  refine pcOn_ok (noPc_ok _) ?_
  intro args H p v h hp
  unfold cW at h
  split at h
  · simp only [Option.some.injEq, Prod.mk.injEq] at h
    obtain ⟨rfl, rfl⟩ := h
    obtain ⟨T, fz, hN⟩ := hp
    exact (works_fn T fz).le (oneB_le hN)
  · cases h
/-- The law's call. -/
theorem walk {W : World} (hN : NetIn (hv W)) {c1 c2 c3 : List Value} {x y z : Int} (h1 : OpL W adK c1) (h2 : OpL W adK c2) (h3 : OpL W adK c3) :
    Calls Tryz.prog 3 #[.agg c1.toArray, .agg c2.toArray, .agg c3.toArray, .int .i64 x, .int .i64 y, .int .i64 z] W fun e w' => e = .returned (.bool true) ∧ Below W.heap.size W w' := by
  obtain ⟨aaddr, abits, ahop, apref, ametric, ab1, ao1, an1, ac1, af1, ab2, ao2, an2, ac2, af2, apeer, apid, aext, aorig, ab3, ao3, an3, ac3, af3, asess, q1⟩ := ad_open h1
  obtain ⟨baddr, bbits, bhop, bpref, bmetric, bb1, bo1, bn1, bc1, bf1, bb2, bo2, bn2, bc2, bf2, bpeer, bpid, bext, borig, bb3, bo3, bn3, bc3, bf3, bsess, q2⟩ := ad_open h2
  obtain ⟨caddr, cbits, chop, cpref, cmetric, cb1, co1, cn1, cc1, cf1, cb2, co2, cn2, cc2, cf2, cpeer, cpid, cext, corig, cb3, co3, cn3, cc3, cf3, csess, q3⟩ := ad_open h3
  exact (law_fn pcW_ok (hv W) aaddr abits ahop apref ametric apeer apid aorig asess aext ab1 ao1 an1 ac1 ab2 ao2 an2 ac2 ab3 ao3 an3 ac3 af1 af2 af3 baddr bbits bhop bpref bmetric bpeer bpid borig bsess bext bb1 bo1 bn1 bc1 bb2 bo2 bn2 bc2 bb3 bo3 bn3 bc3 bf1 bf2 bf3 caddr cbits chop cpref cmetric cpeer cpid corig csess cext cb1 co1 cn1 cc1 cb2 co2 cn2 cc2 cb3 co3 cn3 cc3 cf1 cf2 cf3 x y z hN).calls (hv_agree W) (.cons (.agg q1) (.cons (.agg q2) (.cons (.agg q3) (.cons (.lit _) (.cons (.lit _) (.cons (.lit _) .nil))))))
end Go.Proofs.YtdghfmbbohlcgaaGreatDoor.bgpOrder
