/- Operations one behind the other. -/
import Derived.Test.YtdghfmbbohlcgaaGreatDoorVmG
set_option linter.unusedVariables false
set_option linter.unusedSimpArgs false
namespace Go.Vm
open Go.RowKit

abbrev CallR := FuncId → List V → Nat → PT Ob → Option (V × Nat × PT Ob)
def callOf (ρ : Rho) (o : Oper) : Option (FuncId × List V) :=
  match o.op with
  | .call { callee, args, argTypes } => match callee with
    | .value f => match ρ f with
      | some (.fn g first caps) => match vals ρ args.toList with
        | some l => some (g, first ++ l ++ caps)
        | none => none
      | _ => none
    | _ => none
  | _ => none
def entersB (P : Program) (g : FuncId) : Bool :=
  match P.funcs[g]? with
  | some fn => match fn.body with
    | some _ => !(fn.name == "runtime.NumGoroutine")
    | none => false
  | none => false
theorem run_enters {P : Program} {g : FuncId} (h : entersB P g = true) (args : Array Value) (w : World) : (callFunc g args).run P w = .ok (.enter g args) w := by
  unfold entersB at h
  split at h
  · rename_i fn hf
    split at h
    · rename_i c hb
      have h1 : fn.name ≠ "runtime.NumGoroutine" := by simpa using h
      simp [callFunc, hf, h1, hb, mark]
    · cases h
  · cases h
def stepV (P : Program) (H : View) (callR : CallR) (ρ : Rho) (nx : Nat) (hp : PT Ob) (o : Oper) : Option (V × Nat × PT Ob) :=
  match callOf ρ o with
  | some (g, args) => match entersB P g with
    | true => callR g args nx hp
    | false => match evP P ρ o with
      | some v => some (v, nx, hp)
      | none => none
  | none => match evP P ρ o with
    | some v => some (v, nx, hp)
    | none => match evR P H hp ρ o with
      | some v => some (v, nx, hp)
      | none => match evA P ρ o with
        | some (ob, f) => some (f nx, Nat.succ nx, hp.put nx (some ob))
        | none => evW P H ρ nx hp o
def CallOk (P : Program) (H : View) (callR : CallR) : Prop :=
  ∀ g args nx hp v nx' hp', callR g args nx hp = some (v, nx', hp') → ∀ R w ys, Cn H R hp w → (∀ i b c, R i b c → i < nx) → VRs R args ys →
    Calls P g ys.toArray w fun e w' => ∃ R' y, e = .returned y ∧ VR R' v y ∧ Cn H R' hp' w' ∧ St R nx hp w R' nx' hp' w'
section
variable {P : Program} {H : View} {callR : CallR} {R : Rel} {nx nx' : Nat} {hp hp' : PT Ob} {w : World} {ρ : Rho} {a : Act} {o : Oper} {v : V}
theorem Cn.dead (hC : Cn H R hp w) (hnx : ∀ i b c, R i b c → i < nx) {i : Nat} (hi : nx ≤ i) : hp.get i = none := by
  cases h : hp.get i with
  | none => rfl
  | some o =>
    rcases hC.all i o h with ⟨_, b, h1⟩ | ⟨b, c, x, h1, _⟩ <;>
    · have := hnx _ _ _ h1
      omega
theorem callOf_run {g : FuncId} {args : List V} (hr : RhoR R ρ a) (h : callOf ρ o = some (g, args)) (he : entersB P g = true) : ∃ ys, VRs R args ys ∧ ∀ w, (execOp a.eval o).run P w = .ok (.enter g ys.toArray) w := by
  unfold callOf at h
  split at h
  · rename_i callee as aT ho
    split at h
    · rename_i f
      split at h
      · rename_i g' first caps hf
        split at h
        · rename_i l hl
          simp only [Option.some.injEq, Prod.mk.injEq] at h
          obtain ⟨rfl, rfl⟩ := h
          have hv := hr _ _ hf
          have hvs := vals_ok hr hl
          generalize hff : a.eval f = ff at hv
          cases hv with
          | @fn _ _ _ xs ys h1 h2 =>
            refine ⟨_, (h1.append hvs).append h2, fun w => ?_⟩
            have e1 : as.map a.eval = (as.toList.map a.eval).toArray := by apply Array.ext'; simp
            simp only [execOp, ho, resolve, hff, Deferred.ofValue, Sem.run_bind, Sem.run_pure, Result.andThen_ok, invoke, e1]
            rw [run_enters he]
            simp
        · cases h
      · cases h
    · cases h
  · cases h
/-- One operation, computed: what comes behind it. -/
theorem stepV_wp (hcall : CallOk P H callR) (hr : RhoR R ρ a) (hC : Cn H R hp w) (hnx : ∀ i b c, R i b c → i < nx) (h : stepV P H callR ρ nx hp o = some (v, nx', hp')) {K : Act → World → Prop} {Q : Exit → Act → World → Prop}
    (hk : ∀ R' y w', VR R' v y → Cn H R' hp' w' → St R nx hp w R' nx' hp' w' → K (a.put o.dst y) w') : o.wp P a w K Q := by
  unfold stepV at h
  split at h
  · rename_i g args hco
    split at h
    · rename_i he
      obtain ⟨ys, hys, hrun⟩ := callOf_run hr hco he
      unfold Oper.wp
      rw [hrun w, Oper.upon_enter]
      refine Calls.mono (hcall _ _ _ _ _ _ _ h R w ys hC hnx hys) ?_
      rintro e w' ⟨R', y, rfl, h1, h2, h3⟩
      exact hk R' y w' h1 h2 h3
    · split at h
      · rename_i v' hv'
        simp only [Option.some.injEq, Prod.mk.injEq] at h
        obtain ⟨rfl, rfl, rfl⟩ := h
        obtain ⟨y, hy, hrun⟩ := evP_ok hr hv'
        unfold Oper.wp
        rw [hrun w, Oper.upon_value]
        exact hk R y w hy hC (St.refl _ _ _ _)
      · cases h
  · split at h
    · rename_i v' hv'
      simp only [Option.some.injEq, Prod.mk.injEq] at h
      obtain ⟨rfl, rfl, rfl⟩ := h
      obtain ⟨y, hy, hrun⟩ := evP_ok hr hv'
      unfold Oper.wp
      rw [hrun w, Oper.upon_value]
      exact hk R y w hy hC (St.refl _ _ _ _)
    · split at h
      · rename_i v' hv'
        simp only [Option.some.injEq, Prod.mk.injEq] at h
        obtain ⟨rfl, rfl, rfl⟩ := h
        obtain ⟨y, hy, hrun⟩ := evR_ok hr hC hv'
        unfold Oper.wp
        rw [hrun, Oper.upon_value]
        exact hk R y w hy hC (St.refl _ _ _ _)
      · split at h
        · rename_i ob f hA
          simp only [Option.some.injEq, Prod.mk.injEq] at h
          obtain ⟨rfl, rfl, rfl⟩ := h
          obtain ⟨x, c, g, hx, hrun, hf⟩ := evA_ok hr hA
          obtain ⟨r1, r2⟩ := newOb hC hnx (hC.dead hnx (Nat.le_refl _)) hx
          unfold Oper.wp
          rw [hrun w, Oper.upon_value]
          exact hk _ _ _ (hf nx (addR R nx w.heap.size (some c)) w.heap.size (.inr ⟨rfl, rfl, rfl⟩)) r1 r2
        · obtain ⟨R', n, y, w', hrun, hn, hy, h1, h2⟩ := evW_ok hr hC hnx (hC.dead hnx (Nat.le_refl _)) h
          unfold Oper.wp
          rw [hrun]
          rcases hn with rfl | ⟨rfl, rfl⟩
          · rw [Oper.upon_value]; exact hk R' y w' hy h1 h2
          · rw [Oper.upon_skip]; exact hk R' undef w' hy h1 h2
end

/-! ### guards, slots -/
def wantV (ops : List Oper) (sl : PT V) (o : Oper) : Option Bool :=
  match o.guard with
  | none => some true
  | some (j, want) => match ops[j]? with
    | some oj => match oj.dst with
      | some t => match sl.get t with
        | some (.lit (.bool b)) => some (match b with
          | true => want
          | false => !want)
        | some (.lit (.tuple _)) => some false
        | _ => none
      | none => none
    | none => none
theorem wantV_ok {R : Rel} {ops : List Oper} {sl : PT V} {o : Oper} {a : Act} (hs : ∀ j want oj t v, o.guard = some (j, want) → ops[j]? = some oj → oj.dst = some t → sl.get t = some v → VR R v (a.tmps.getD t undef)) {b : Bool} (h : wantV ops sl o = some b) : Region.wanted o (yielded ops.toArray a.tmps) = b := by
  unfold wantV at h
  split at h
  · rename_i hg
    simp only [Option.some.injEq] at h; subst h
    simp [Region.wanted, hg]
  · rename_i j want hg
    split at h
    · rename_i oj hj
      split at h
      · rename_i t ht
        have key : ∀ y : Value, a.tmps.getD t undef = y → yielded ops.toArray a.tmps j = match y with
            | .bool b => some b
            | _ => none := by
          intro y hy
          unfold yielded
          simp only [List.getElem?_toArray, hj, Option.bind_some, ht]
          cases hx : a.tmps[t]? with
          | none =>
            rw [Array.getD_eq_getD_getElem?, hx] at hy
            simp only [Option.getD_none] at hy
            subst hy
            rfl
          | some z =>
            rw [Array.getD_eq_getD_getElem?, hx] at hy
            simp only [Option.getD_some] at hy
            subst hy
            cases z <;> rfl
        split at h
        · rename_i b' hv
          have := (hs _ _ _ _ _ hg hj ht hv).lit_inv
          have hy := key _ this
          simp only [Region.wanted, hg, hy]
          simp only [Option.some.injEq] at h; subst h
          cases b' <;> cases want <;> rfl
        · rename_i q hv
          have := (hs _ _ _ _ _ hg hj ht hv).lit_inv
          have hy := key _ this
          simp only [Region.wanted, hg, hy]
          simp only [Option.some.injEq] at h; subst h
          rfl
        · cases h
      · cases h
    · cases h
def putD (nt : Nat) (sl : PT V) (dst : Option Nat) (v : V) : Option (PT V) :=
  match dst with
  | none => some sl
  | some d => match Nat.ble (Nat.succ d) nt with
    | true => some (sl.put d (some v))
    | false => none
structure AcR (R : Rel) (sl : PT V) (nt : Nat) (a : Act) : Prop extends SlR R sl nt a where
  nodef : a.defers = []
theorem AcR.mono {R R' : Rel} {sl : PT V} {nt : Nat} {a : Act} (hr : ∀ i b c, R i b c → R' i b c) (h : AcR R sl nt a) : AcR R' sl nt a := ⟨h.toSlR.mono hr, h.nodef⟩
theorem AcR.putD {R : Rel} {sl sl' : PT V} {nt : Nat} {a : Act} (h : AcR R sl nt a) {dst : Option Nat} {v : V} {y : Value} (hv : VR R v y) (hp : putD nt sl dst v = some sl') : AcR R sl' nt (a.put dst y) := by
  unfold Vm.putD at hp
  split at hp
  · simp only [Option.some.injEq] at hp; subst hp; exact h
  · split at hp
    · rename_i hd
      simp only [Option.some.injEq] at hp; subst hp
      exact ⟨h.toSlR.put hd hv, h.nodef⟩
    · cases hp
/-- Operations in the order of the text. -/
def evOps (P : Program) (H : View) (callR : CallR) (nt : Nat) (ops : List Oper) : List Oper → PT V → Nat → PT Ob → Option (PT V × Nat × PT Ob)
  | [], sl, nx, hp => some (sl, nx, hp)
  | o :: l, sl, nx, hp => match wantV ops sl o with
    | some true => match stepV P H callR (evO sl) nx hp o with
      | some (v, nx', hp') => match putD nt sl o.dst v with
        | some sl' => evOps P H callR nt ops l sl' nx' hp'
        | none => none
      | none => none
    | some false => match putD nt sl o.dst (.lit undef) with
      | some sl' => evOps P H callR nt ops l sl' nx hp
      | none => none
    | none => none
theorem evOps_wp {P : Program} {H : View} {callR : CallR} (hcall : CallOk P H callR) {nt : Nat} {ops : List Oper} {Q : Exit → Act → World → Prop} : ∀ (l : List Oper) {sl sl' : PT V} {nx nx' : Nat} {hp hp' : PT Ob} {R : Rel} {a : Act} {w : World},
    evOps P H callR nt ops l sl nx hp = some (sl', nx', hp') → AcR R sl nt a → Cn H R hp w → (∀ i b c, R i b c → i < nx) → (∀ R' a' w', AcR R' sl' nt a' → Cn H R' hp' w' → St R nx hp w R' nx' hp' w' → Q .normal a' w') → wpList P ops.toArray Q l a w
  | [], sl, sl', nx, nx', hp, hp', R, a, w, h, ha, hC, hnx, hq => by
    simp only [evOps, Option.some.injEq, Prod.mk.injEq] at h
    obtain ⟨rfl, rfl, rfl⟩ := h
    exact hq R a w ha hC (St.refl _ _ _ _)
  | o :: l, sl, sl', nx, nx', hp, hp', R, a, w, h, ha, hC, hnx, hq => by
    simp only [evOps] at h
    refine wpList_step fun K hK => ?_
    have hwant : ∀ b, wantV ops sl o = some b → Region.wanted o (yielded ops.toArray a.tmps) = b := fun b hb => wantV_ok (fun _ _ _ t v _ _ _ hv => ha.slots t v hv) hb
    split at h
    · rename_i hw
      rw [hwant _ hw, if_pos rfl]
      split at h
      · rename_i v nx1 hp1 hst
        split at h
        · rename_i sl1 hput
          refine stepV_wp hcall ha.rho hC hnx hst fun R' y w' hy hC' hSt => hK _ _ ?_
          refine evOps_wp hcall l h ((ha.mono hSt.grow).putD hy hput) hC' (hSt.nxlt hnx) fun R2 a2 w2 h1 h2 h3 => hq R2 a2 w2 h1 h2 (hSt.trans h3 hnx)
        · cases h
      · cases h
    · rename_i hw
      rw [hwant _ hw, if_neg (by simp)]
      split at h
      · rename_i sl1 hput
        exact hK _ _ (evOps_wp hcall l h (ha.putD (.lit undef) hput) hC hnx hq)
      · cases h
    · cases h
end Go.Vm
