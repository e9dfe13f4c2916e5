/- A variable that is listed; a closed function that reads it. -/
import Derived.Test.YtdghfmbbohlcgaaGreatDoorVnC
import Derived.Lib.LaidU8
set_option linter.unusedVariables false
namespace Go.Vm
open Go.RowKit Go.ChangeShapes Go.WideShapes
/-- A listed variable of two numbers. -/
theorem two_in {P : Program} {w : World} {l : List (String × DataW Unit)} {n : String} {g : Nat} {t : TypeId} {f0 f1 : Field} {k0 k1 : IntKind} {A B : Int} (h : laidMet P l w) (hm : (n, DataW.agg [.lit (.int k0 A), .lit (.int k1 B)]) ∈ l)
    (hg : P.globalNamed n = some g) (ht : (P.globals[g]?).map (·.type) = some t) (hu : P.underlying t = some (.struct #[f0, f1])) (hc : P.cellsOf t = 2)
    (h0 : f0.offset = 0 ∧ P.cellsOf f0.type = 1 ∧ P.underlying f0.type = some (.int k0)) (h1 : f1.offset = 1 ∧ P.cellsOf f1.type = 1 ∧ P.underlying f1.type = some (.int k1)) :
    ∃ T fz, w.heap[g]? = some (.cells #[.int k0 A, .int k1 B] T fz) := by
  obtain ⟨g', t', cs, fuel, p, e1, e2, e3, e4⟩ := Go.Lib.laidMet.reads h hm
  rw [hg] at e1
  obtain rfl := Option.some.inj e1
  rw [ht] at e2
  obtain rfl := Option.some.inj e2
  unfold World.var? at e3
  rw [hg] at e3
  simp only [Option.bind_some] at e3
  split at e3
  · rename_i cs' T fz hh
    simp only [Option.some.injEq] at e3
    subst e3
    refine ⟨T, fz, ?_⟩
    rw [hh]
    obtain ⟨y0, y1, m, hx, hl, q0, q1⟩ := trod_struct2 hu e4
    rw [h0.1, h0.2.1] at q0
    rw [h1.1, h1.2.1] at q1
    rw [hc] at hl
    obtain ⟨n0, a0, b0, -⟩ := DataW.trod_int h0.2.2 q0
    obtain ⟨n1, a1, b1, -⟩ := DataW.trod_int h1.2.2 q1
    subst b0 b1
    simp only [Prod.mk.injEq, DataW.agg.injEq, List.cons.injEq, DataW.lit.injEq, Lit.int.injEq, true_and, and_true] at hx
    obtain ⟨⟨rfl, rfl⟩, -⟩ := hx
    obtain ⟨L⟩ := cs'
    match L, hl, a0, a1 with
    | [u, v], _, a0, a1 =>
      simp only [List.drop_zero, List.take_succ_cons, List.take_zero, List.cons.injEq, and_true, List.drop_succ_cons] at a0 a1
      rw [a0, a1]
  · cases e3
/-- A view that shows one block. -/
def oneB (g : Nat) (o : Obj) : View := fun b => match Nat.beq b g with
  | true => some o
  | false => none
theorem oneB_le {g : Nat} {o : Obj} {H : View} (h : H g = some o) : Vle (oneB g o) H := by
  intro b x hx
  unfold oneB at hx
  split at hx
  · rename_i hb
    obtain rfl := Nat.eq_of_beq_eq_true hb
    rw [h, ← hx]
  · cases hx
theorem PcFn.le {P : Program} {g : FuncId} {H H' : View} {args : List V} {v : V} (hle : Vle H H') (h : PcFn P g H args v) : PcFn P g H' args v :=
  fun R w ys hA hys => h R w ys (fun b o hb => hA b o (hle b o hb)) hys
theorem PcFn.ev {P : Program} (hm : P.follows .mixedOrders = true) {g : FuncId} {H : View} {v : Value} {n k n' : Nat} {hp' : PT Ob} (h : evCall P H n k g [] 0 .nil = some (.lit v, n', hp')) (hv : noId (.lit v) = true) : PcFn P g H [] (.lit v) :=
  .of rfl hv ((Con.ev hm h).mono fun _ _ _ _ q => q.2.1)
/-- A call that yields a literal, and what stood stands. -/
theorem PcFn.calls {P : Program} {g : FuncId} {H : View} {args : List V} {ys : List Value} {v : Value} {w : World} (h : PcFn P g H args (.lit v)) (hA : Agree w H) (hys : VRs R0 args ys) : Calls P g ys.toArray w fun e w' => e = .returned v ∧ Below w.heap.size w w' := by
  refine Calls.mono (h R0 w ys hA hys) ?_
  rintro e w' ⟨y, rfl, hy, hg⟩
  rw [hy.lit_inv]
  refine ⟨rfl, hg.2.os, hg.2.tape, hg.2.output, hg.2.size, fun b hb => ?_⟩
  have hx : w.heap[b]? = some (w.heap[b]'hb) := Array.getElem?_eq_getElem hb
  rw [hx, hg.1 _ _ hx]
end Go.Vm
