/- The law that what is better is an order: what its body comes to. -/
import Derived.Test.YtdghfmbbohlcgaaGreatDoorBoJ
set_option linter.unusedVariables false
set_option linter.unusedSimpArgs false
namespace Go.Vm
open Go.RowKit
set_option maxRecDepth 100000
theorem bifP_intro {b : Bool} {T F : Prop} (h : b = true → T) (h' : b = false → F) : bifP b T F := by
  rw [bifP_eq]; exact ⟨h, h'⟩
theorem law_vc (H : View) (aaddr abits ahop apref ametric apeer apid aorig asess : Int) (aext : Bool) (ab1 ao1 an1 ac1 ab2 ao2 an2 ac2 ab3 ao3 an3 ac3 : Nat) (af1 af2 af3 : Nat → List V) (baddr bbits bhop bpref bmetric bpeer bpid borig bsess : Int) (bext : Bool) (bb1 bo1 bn1 bc1 bb2 bo2 bn2 bc2 bb3 bo3 bn3 bc3 : Nat) (bf1 bf2 bf3 : Nat → List V) (caddr cbits chop cpref cmetric cpeer cpid corig csess : Int) (cext : Bool) (cb1 co1 cn1 cc1 cb2 co2 cn2 cc2 cb3 co3 cn3 cc3 : Nat) (cf1 cf2 cf3 : Nat → List V) (x y z : Int) (hN : NetIn H) : lawVC H aaddr abits ahop apref ametric apeer apid aorig asess aext ab1 ao1 an1 ac1 ab2 ao2 an2 ac2 ab3 ao3 an3 ac3 af1 af2 af3 baddr bbits bhop bpref bmetric bpeer bpid borig bsess bext bb1 bo1 bn1 bc1 bb2 bo2 bn2 bc2 bb3 bo3 bn3 bc3 bf1 bf2 bf3 caddr cbits chop cpref cmetric cpeer cpid corig csess cext cb1 co1 cn1 cc1 cb2 co2 cn2 cc2 cb3 co3 cn3 cc3 cf1 cf2 cf3 x y z fun H' u _ _ => u = .lit (.bool true) := by
  obtain ⟨t1, t2, t3, t4, t5, t6, t7⟩ := T3.ord (⟨asess, apref, Int.ofNat an1, ametric, aext, orA aorig apid, Int.ofNat an3, apeer⟩ : AKey) (⟨bsess, bpref, Int.ofNat bn1, bmetric, bext, orA borig bpid, Int.ofNat bn3, bpeer⟩ : AKey) (⟨csess, cpref, Int.ofNat cn1, cmetric, cext, orA corig cpid, Int.ofNat cn3, cpeer⟩ : AKey) x y z
  have hz := fun h => @ordK_zero (⟨asess, apref, Int.ofNat an1, ametric, aext, orA aorig apid, Int.ofNat an3, apeer⟩ : AKey) (⟨bsess, bpref, Int.ofNat bn1, bmetric, bext, orA borig bpid, Int.ofNat bn3, bpeer⟩ : AKey) x y h
  unfold lawVC
  refine ⟨hN, ?_⟩
  generalize ordK (⟨asess, apref, Int.ofNat an1, ametric, aext, orA aorig apid, Int.ofNat an3, apeer⟩ : AKey) (⟨asess, apref, Int.ofNat an1, ametric, aext, orA aorig apid, Int.ofNat an3, apeer⟩ : AKey) x x = oaa at *
  generalize ordK (⟨asess, apref, Int.ofNat an1, ametric, aext, orA aorig apid, Int.ofNat an3, apeer⟩ : AKey) (⟨bsess, bpref, Int.ofNat bn1, bmetric, bext, orA borig bpid, Int.ofNat bn3, bpeer⟩ : AKey) x y = oab at *
  generalize ordK (⟨bsess, bpref, Int.ofNat bn1, bmetric, bext, orA borig bpid, Int.ofNat bn3, bpeer⟩ : AKey) (⟨asess, apref, Int.ofNat an1, ametric, aext, orA aorig apid, Int.ofNat an3, apeer⟩ : AKey) y x = oba at *
  generalize ordK (⟨bsess, bpref, Int.ofNat bn1, bmetric, bext, orA borig bpid, Int.ofNat bn3, bpeer⟩ : AKey) (⟨csess, cpref, Int.ofNat cn1, cmetric, cext, orA corig cpid, Int.ofNat cn3, cpeer⟩ : AKey) y z = obc at *
  generalize ordK (⟨asess, apref, Int.ofNat an1, ametric, aext, orA aorig apid, Int.ofNat an3, apeer⟩ : AKey) (⟨csess, cpref, Int.ofNat cn1, cmetric, cext, orA corig cpid, Int.ofNat cn3, cpeer⟩ : AKey) x z = oac at *
  simp only [] at hz
  have hz' : ¬ oab < 0 → ¬ oba < 0 → asess ≠ -1 → _ := fun h1 h2 h3 => hz h3 (by omega)
  clear hz
  repeat' (refine bifP_intro (fun _ => ?_) (fun _ => ?_))
  all_goals (simp only [decide_eq_true_eq, decide_eq_false_iff_not, beq_iff_eq, beq_eq_false_iff_ne, bne_iff_ne, Bool.not_eq_true', Bool.not_eq_false', bne_eq_false_iff_eq, ne_eq, Decidable.not_not] at *)
  all_goals first
    | (exfalso; clear hz'; omega)
    | (obtain ⟨e1, e2, e3, e4, e5, e6, e7, e8⟩ := hz' (by assumption) (by assumption) (by assumption); exfalso; simp only [Int.ofNat_eq_natCast, Int.natCast_inj] at *; first | contradiction | omega)
    | (obtain ⟨e1, e2, e3, e4, e5, e6, e7, e8⟩ := hz' (by assumption) (by assumption) (by assumption); rw [e8, beq_self_eq_true])
theorem law_fn (hpc : PcOk Go.Proofs.Tryz.prog pcW) (H : View) (aaddr abits ahop apref ametric apeer apid aorig asess : Int) (aext : Bool) (ab1 ao1 an1 ac1 ab2 ao2 an2 ac2 ab3 ao3 an3 ac3 : Nat) (af1 af2 af3 : Nat → List V) (baddr bbits bhop bpref bmetric bpeer bpid borig bsess : Int) (bext : Bool) (bb1 bo1 bn1 bc1 bb2 bo2 bn2 bc2 bb3 bo3 bn3 bc3 : Nat) (bf1 bf2 bf3 : Nat → List V) (caddr cbits chop cpref cmetric cpeer cpid corig csess : Int) (cext : Bool) (cb1 co1 cn1 cc1 cb2 co2 cn2 cc2 cb3 co3 cn3 cc3 : Nat) (cf1 cf2 cf3 : Nat → List V) (x y z : Int) (hN : NetIn H) : PcFn Go.Proofs.Tryz.prog 3 H [.agg [.lit (.int .u32 aaddr), .lit (.int .i64 abits), .lit (.int .u32 ahop), .lit (.int .i64 apref), .lit (.int .i64 ametric), .xs ab1 ao1 0 1 an1 ac1 af1, .xs ab2 ao2 0 1 an2 ac2 af2, .lit (.int .u32 apeer), .lit (.int .u32 apid), .lit (.bool aext), .lit (.int .u32 aorig), .xs ab3 ao3 0 1 an3 ac3 af3, .lit (.int .i64 asess)], .agg [.lit (.int .u32 baddr), .lit (.int .i64 bbits), .lit (.int .u32 bhop), .lit (.int .i64 bpref), .lit (.int .i64 bmetric), .xs bb1 bo1 0 1 bn1 bc1 bf1, .xs bb2 bo2 0 1 bn2 bc2 bf2, .lit (.int .u32 bpeer), .lit (.int .u32 bpid), .lit (.bool bext), .lit (.int .u32 borig), .xs bb3 bo3 0 1 bn3 bc3 bf3, .lit (.int .i64 bsess)], .agg [.lit (.int .u32 caddr), .lit (.int .i64 cbits), .lit (.int .u32 chop), .lit (.int .i64 cpref), .lit (.int .i64 cmetric), .xs cb1 co1 0 1 cn1 cc1 cf1, .xs cb2 co2 0 1 cn2 cc2 cf2, .lit (.int .u32 cpeer), .lit (.int .u32 cpid), .lit (.bool cext), .lit (.int .u32 corig), .xs cb3 co3 0 1 cn3 cc3 cf3, .lit (.int .i64 csess)], .lit (.int .i64 x), .lit (.int .i64 y), .lit (.int .i64 z)] (.lit (.bool true)) :=
  .of rfl rfl (vcFn_of mixed (pcE_ok _ hpc) (noCt_ok _) (lawVC_eq ..) (law_vc H _ _ _ _ _ _ _ _ _ _ _ _ _ _ _ _ _ _ _ _ _ _ _ _ _ _ _ _ _ _ _ _ _ _ _ _ _ _ _ _ _ _ _ _ _ _ _ _ _ _ _ _ _ _ _ _ _ _ _ _ _ _ _ _ _ _ _ _ _ _ _ _ _ _ _ x y z hN))
end Go.Vm
