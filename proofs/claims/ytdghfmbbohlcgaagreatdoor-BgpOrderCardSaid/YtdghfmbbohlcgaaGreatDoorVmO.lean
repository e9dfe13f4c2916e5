/- Bodies, calls. -/
import Derived.Test.YtdghfmbbohlcgaaGreatDoorVmN
import Derived.LoopN
import Derived.Scope
set_option linter.unusedVariables false
set_option linter.unusedSimpArgs false
namespace Go.Vm
open Go.RowKit

inductive Out where
  | norm
  | exit (id : Nat)
  | ret
def Out.ex : Out → Exit
  | .norm => .normal
  | .exit i => .exit i
  | .ret => .ret
abbrev Res := Option (Out × PT V × Nat × PT Ob)
def loopN (f : PT V → Nat → PT Ob → Res) (k : Nat) : PT V → Nat → PT Ob → Res :=
  Nat.rec (fun _ _ _ => none) (fun _ ih sl nx hp => match f sl nx hp with
    | some (.norm, sl', nx', hp') => ih sl' nx' hp'
    | r => r) k
def asNorm : Option (PT V × Nat × PT Ob) → Res
  | some (sl, nx, hp) => some (.norm, sl, nx, hp)
  | none => none
def evCode (P : Program) (H : View) (callR : CallR) (nt fuel : Nat) : Code → PT V → Nat → PT Ob → Res
  | .skip, sl, nx, hp => some (.norm, sl, nx, hp)
  | .label _, sl, nx, hp => some (.norm, sl, nx, hp)
  | .region _ ops draw, sl, nx, hp => match draw with
    | true => asNorm (evDraw P H callR nt ops.toList sl nx hp)
    | false => asNorm (evOps P H callR nt ops.toList ops.toList sl nx hp)
  | .seq x y, sl, nx, hp => match evCode P H callR nt fuel x sl nx hp with
    | some (.norm, sl', nx', hp') => evCode P H callR nt fuel y sl' nx' hp'
    | r => r
  | .cond c x y, sl, nx, hp => match evO sl c with
    | some (.lit (.bool b)) => match b with
      | true => evCode P H callR nt fuel x sl nx hp
      | false => evCode P H callR nt fuel y sl nx hp
    | _ => none
  | .block id c, sl, nx, hp => match evCode P H callR nt fuel c sl nx hp with
    | some (.exit i, sl', nx', hp') => match Nat.beq i id with
      | true => some (.norm, sl', nx', hp')
      | false => some (.exit i, sl', nx', hp')
    | r => r
  | .loop c, sl, nx, hp => loopN (evCode P H callR nt fuel c) fuel sl nx hp
  | .exit i, sl, nx, hp => some (.exit i, sl, nx, hp)
  | .scope c, sl, nx, hp => evCode P H callR nt fuel c sl nx hp
  | .ret, sl, nx, hp => some (.ret, sl, nx, hp)
  | _, _, _, _ => none
section
variable {P : Program} {H : View} {callR : CallR} {nt fuel : Nat}
def CodeOk (P : Program) (H : View) (nt : Nat) (c : Code) (f : PT V → Nat → PT Ob → Res) : Prop :=
  ∀ sl nx hp e sl' nx' hp' R a w Q, f sl nx hp = some (e, sl', nx', hp') → AcR R sl nt a → Cn H R hp w → (∀ i b c, R i b c → i < nx) →
    (∀ R' a' w', AcR R' sl' nt a' → Cn H R' hp' w' → St R nx hp w R' nx' hp' w' → Q (Out.ex e) a' w') → c.wp P Q a w
theorem loopN_ok {c : Code} {f : PT V → Nat → PT Ob → Res} (hc : CodeOk P H nt c f) {e : Out} {sl' : PT V} {nx' : Nat} {hp' : PT Ob} {Q : Exit → Act → World → Prop} : ∀ (k : Nat) (sl : PT V) (nx : Nat) (hp : PT Ob) (R : Rel) (a : Act) (w : World), loopN f k sl nx hp = some (e, sl', nx', hp') → AcR R sl nt a → Cn H R hp w → (∀ i b c, R i b c → i < nx) →
    (∀ R' a' w', AcR R' sl' nt a' → Cn H R' hp' w' → St R nx hp w R' nx' hp' w' → Q (Out.ex e) a' w') → Code.rounds P c Q k a w
  | 0, sl, nx, hp, R, a, w, h, ha, hC, hnx, hq => by cases h
  | k + 1, sl, nx, hp, R, a, w, h, ha, hC, hnx, hq => by
    rw [rounds_succ]
    have h : (match f sl nx hp with
      | some (.norm, sl', nx', hp') => loopN f k sl' nx' hp'
      | r => r) = some (e, sl', nx', hp') := h
    cases hx : f sl nx hp with
    | none => rw [hx] at h; cases h
    | some r =>
      obtain ⟨e1, sl1, n1, h1⟩ := r
      rw [hx] at h
      refine hc _ _ _ _ _ _ _ _ _ _ _ hx ha hC hnx fun R' a' w' k1 k2 k3 => ?_
      cases e1 with
      | norm => exact loopN_ok hc k sl1 n1 h1 R' a' w' h k1 k2 (k3.nxlt hnx) (fun R2 a2 w2 m1 m2 m3 => hq R2 a2 w2 m1 m2 (k3.trans m3 hnx))
      | exit i =>
        simp only [Option.some.injEq, Prod.mk.injEq] at h
        obtain ⟨rfl, rfl, rfl, rfl⟩ := h
        exact hq R' a' w' k1 k2 k3
      | ret =>
        simp only [Option.some.injEq, Prod.mk.injEq] at h
        obtain ⟨rfl, rfl, rfl, rfl⟩ := h
        exact hq R' a' w' k1 k2 k3
theorem evCode_ok (hm : P.follows .mixedOrders = true) (hcall : CallOk P H callR) : ∀ c, CodeOk P H nt c (evCode P H callR nt fuel c)
  | .skip, sl, nx, hp, e, sl', nx', hp', R, a, w, Q, h, ha, hC, hnx, hq => by
    simp only [evCode, Option.some.injEq, Prod.mk.injEq] at h
    obtain ⟨rfl, rfl, rfl, rfl⟩ := h
    exact wp_skip (hq R a w ha hC (St.refl _ _ _ _))
  | .label _, sl, nx, hp, e, sl', nx', hp', R, a, w, Q, h, ha, hC, hnx, hq => by
    simp only [evCode, Option.some.injEq, Prod.mk.injEq] at h
    obtain ⟨rfl, rfl, rfl, rfl⟩ := h
    exact wp_label (hq R a w ha hC (St.refl _ _ _ _))
  | .exit _, sl, nx, hp, e, sl', nx', hp', R, a, w, Q, h, ha, hC, hnx, hq => by
    simp only [evCode, Option.some.injEq, Prod.mk.injEq] at h
    obtain ⟨rfl, rfl, rfl, rfl⟩ := h
    exact wp_exit (hq R a w ha hC (St.refl _ _ _ _))
  | .ret, sl, nx, hp, e, sl', nx', hp', R, a, w, Q, h, ha, hC, hnx, hq => by
    simp only [evCode, Option.some.injEq, Prod.mk.injEq] at h
    obtain ⟨rfl, rfl, rfl, rfl⟩ := h
    exact wp_ret (hq R a w ha hC (St.refl _ _ _ _))
  | .region id ops draw, sl, nx, hp, e, sl', nx', hp', R, a, w, Q, h, ha, hC, hnx, hq => by
    cases draw with
    | true =>
      simp only [evCode, asNorm] at h
      split at h
      · rename_i sl1 n1 h1 hg
        simp only [Option.some.injEq, Prod.mk.injEq] at h
        obtain ⟨rfl, rfl, rfl, rfl⟩ := h
        have := evDraw_wp (id := id) hm hcall hg ha hC hnx hq
        simpa using this
      · cases h
    | false =>
      simp only [evCode, asNorm] at h
      split at h
      · rename_i sl1 n1 h1 hg
        simp only [Option.some.injEq, Prod.mk.injEq] at h
        obtain ⟨rfl, rfl, rfl, rfl⟩ := h
        have := wp_region_lit (id := id) (evOps_wp hcall ops.toList hg ha hC hnx hq)
        simpa using this
      · cases h
  | .seq x y, sl, nx, hp, e, sl', nx', hp', R, a, w, Q, h, ha, hC, hnx, hq => by
    simp only [evCode] at h
    refine wp_seq ?_
    cases hx : evCode P H callR nt fuel x sl nx hp with
    | none => rw [hx] at h; cases h
    | some r =>
      obtain ⟨e1, sl1, n1, h1⟩ := r
      rw [hx] at h
      refine evCode_ok hm hcall x _ _ _ _ _ _ _ _ _ _ _ hx ha hC hnx fun R' a' w' k1 k2 k3 => ?_
      cases e1 with
      | norm => exact evCode_ok hm hcall y _ _ _ _ _ _ _ _ _ _ _ h k1 k2 (k3.nxlt hnx) fun R2 a2 w2 m1 m2 m3 => hq R2 a2 w2 m1 m2 (k3.trans m3 hnx)
      | exit i =>
        simp only [Option.some.injEq, Prod.mk.injEq] at h
        obtain ⟨rfl, rfl, rfl, rfl⟩ := h
        exact hq R' a' w' k1 k2 k3
      | ret =>
        simp only [Option.some.injEq, Prod.mk.injEq] at h
        obtain ⟨rfl, rfl, rfl, rfl⟩ := h
        exact hq R' a' w' k1 k2 k3
  | .cond c x y, sl, nx, hp, e, sl', nx', hp', R, a, w, Q, h, ha, hC, hnx, hq => by
    simp only [evCode] at h
    split at h
    · rename_i b hb
      have hv := (ha.rho _ _ hb).lit_inv
      cases b with
      | true => exact wp_cond_true hv (evCode_ok hm hcall x _ _ _ _ _ _ _ _ _ _ _ h ha hC hnx hq)
      | false => exact wp_cond_false hv (evCode_ok hm hcall y _ _ _ _ _ _ _ _ _ _ _ h ha hC hnx hq)
    · cases h
  | .block id c, sl, nx, hp, e, sl', nx', hp', R, a, w, Q, h, ha, hC, hnx, hq => by
    simp only [evCode] at h
    refine wp_block ?_
    cases hx : evCode P H callR nt fuel c sl nx hp with
    | none => rw [hx] at h; cases h
    | some r =>
      obtain ⟨e1, sl1, n1, h1⟩ := r
      rw [hx] at h
      refine evCode_ok hm hcall c _ _ _ _ _ _ _ _ _ _ _ hx ha hC hnx fun R' a' w' k1 k2 k3 => ?_
      cases e1 with
      | norm =>
        simp only [Option.some.injEq, Prod.mk.injEq] at h
        obtain ⟨rfl, rfl, rfl, rfl⟩ := h
        exact hq R' a' w' k1 k2 k3
      | exit i =>
        simp only at h
        split at h
        · rename_i hb
          simp only [Option.some.injEq, Prod.mk.injEq] at h
          obtain ⟨rfl, rfl, rfl, rfl⟩ := h
          have := Nat.eq_of_beq_eq_true hb
          subst this
          simp only [Exit.inBlock, Out.ex, if_true]
          exact hq R' a' w' k1 k2 k3
        · rename_i hb
          simp only [Option.some.injEq, Prod.mk.injEq] at h
          obtain ⟨rfl, rfl, rfl, rfl⟩ := h
          have : i ≠ id := fun e => by subst e; simp at hb
          simp only [Exit.inBlock, Out.ex, if_neg this]
          exact hq R' a' w' k1 k2 k3
      | ret =>
        simp only [Option.some.injEq, Prod.mk.injEq] at h
        obtain ⟨rfl, rfl, rfl, rfl⟩ := h
        exact hq R' a' w' k1 k2 k3
  | .scope c, sl, nx, hp, e, sl', nx', hp', R, a, w, Q, h, ha, hC, hnx, hq => by
    simp only [evCode] at h
    refine wp_scope_straight (evCode_ok hm hcall c _ _ _ _ _ _ _ _ _ _ _ h ha hC hnx fun R' a' w' k1 k2 k3 => ?_)
    have := hq R' a' w' k1 k2 k3
    cases e <;> exact this
  | .loop c, sl, nx, hp, e, sl', nx', hp', R, a, w, Q, h, ha, hC, hnx, hq => by
    simp only [evCode] at h
    refine wp_loop_rounds fuel ?_
    exact loopN_ok (evCode_ok hm hcall c) _ _ _ _ _ _ _ h ha hC hnx hq
  | .rangeFunc _ _ _ _, sl, nx, hp, e, sl', nx', hp', R, a, w, Q, h, ha, hC, hnx, hq => by simp [evCode] at h
  | .goto _, sl, nx, hp, e, sl', nx', hp', R, a, w, Q, h, ha, hC, hnx, hq => by simp [evCode] at h
  | .refuse _, sl, nx, hp, e, sl', nx', hp', R, a, w, Q, h, ha, hC, hnx, hq => by simp [evCode] at h

/-! ### a call -/
def slotsOf : List V → Nat → PT V → PT V
  | [], _, t => t
  | v :: l, k, t => slotsOf l (Nat.succ k) (t.put k (some v))
theorem slotsOf_get : ∀ {l : List V} {k j : Nat} {t : PT V} {v : V}, (slotsOf l k t).get j = some v → (∃ i, l[i]? = some v ∧ j = k + i) ∨ t.get j = some v
  | [], k, j, t, v, h => .inr h
  | x :: l, k, j, t, v, h => by
    simp only [slotsOf] at h
    rcases slotsOf_get h with ⟨i, h1, h2⟩ | h1
    · exact .inl ⟨i + 1, by simpa using h1, by simp only [Nat.succ_eq_add_one] at h2; omega⟩
    · rw [PT.get_put] at h1
      split at h1
      · rename_i hj
        simp only [Option.some.injEq] at h1
        subst h1
        exact .inl ⟨0, by simp, by omega⟩
      · exact .inr h1
def resV (P : Program) (H : View) (hp : PT Ob) (sl : PT V) : List ResultVar → Option (List V)
  | [] => some []
  | r :: l => match (match r with
      | .tmp t => sl.get t
      | .cell a t => loadV P H hp t (sl.get a)) with
    | some v => match resV P H hp sl l with
      | some vs => some (v :: vs)
      | none => none
    | none => none
def retV : List V → V
  | [v] => v
  | l => .tup l
theorem loadAt_var {t : TypeId} {y z : Value} {w : World} (h : (Instr.loadAt t y).run P w = .ok z w) : (do loadVar t (← asAddr y)).run P w = .ok z w := by
  unfold Instr.loadAt Instr.sureAddr at h
  unfold asAddr
  split at h
  · simpa using h
  · rename_i hy
    simp [stuck] at h
def rdR (tmps : Array Value) : ResultVar → Sem Value
  | .tmp t => pure (tmps.getD t undef)
  | .cell x t => do loadVar t (← asAddr (tmps.getD x undef))
theorem resV_ok {R : Rel} {hp : PT Ob} {w : World} {sl : PT V} {a : Act} (hC : Cn H R hp w) (ha : AcR R sl nt a) : ∀ {l : List ResultVar} {vs : List V}, resV P H hp sl l = some vs →
    ∃ ys, VRs R vs ys ∧ (l.mapM (rdR a.tmps)).run P w = .ok ys w
  | [], vs, h => by simp only [resV, Option.some.injEq] at h; subst h; exact ⟨[], .nil, by simp⟩
  | r :: l, vs, h => by
    simp only [resV] at h
    split at h
    · rename_i v hv
      split at h
      · rename_i vs' hvs
        simp only [Option.some.injEq] at h; subst h
        obtain ⟨ys, h1, h2⟩ := resV_ok hC ha hvs
        have : ∃ y, VR R v y ∧ (rdR a.tmps r).run P w = .ok y w := by
          cases r with
          | tmp t => exact ⟨_, ha.slots t v hv, rfl⟩
          | cell x t =>
            obtain ⟨z, h3, h4⟩ := loadV_ok hC (fun u hu => ha.slots x u hu) hv
            exact ⟨z, h3, loadAt_var h4⟩
        obtain ⟨y, h3, h4⟩ := this
        refine ⟨y :: ys, .cons h3 h1, ?_⟩
        rw [List.mapM_cons, Sem.run_bind, h4]
        simp only [Result.andThen_ok, Sem.run_bind, h2, Sem.run_pure]
      · cases h
    · cases h
theorem results_ok {R : Rel} {hp : PT Ob} {w : World} {sl : PT V} {a : Act} (hC : Cn H R hp w) (ha : AcR R sl nt a) {fn : Func} {vs : List V} (h : resV P H hp sl fn.results.toList = some vs) : ∃ y, VR R (retV vs) y ∧ (results fn a.tmps).run P w = .ok y w := by
  obtain ⟨ys, h1, h2⟩ := resV_ok hC ha h
  have e : results fn a.tmps = (do
      let vs ← fn.results.mapM (rdR a.tmps)
      pure (if h : vs.size = 1 then vs[0] else .tuple vs)) := by
    unfold results
    congr 1
  rw [e, Array.mapM_eq_mapM_toList, Sem.run_bind, Sem.run_map, h2]
  simp only [Result.andThen_ok, Sem.run_pure]
  cases h1 with
  | nil => exact ⟨_, .tup .nil, rfl⟩
  | cons q t =>
    cases t with
    | nil => exact ⟨_, q, rfl⟩
    | cons q' t' =>
      refine ⟨_, .tup (.cons q (.cons q' t')), ?_⟩
      rw [dif_neg (by simp)]
def evCall (P : Program) (H : View) (fuel : Nat) (k : Nat) : CallR :=
  Nat.rec (fun _ _ _ _ => none) (fun _ ih g args nx hp => match P.funcs[g]? with
    | some fn => match fn.body with
      | some c => match Nat.ble args.length fn.ntmps with
        | true => match evCode P H ih fn.ntmps fuel c (slotsOf args 0 .nil) nx hp with
          | some (e, sl, nx', hp') => match e with
            | .exit _ => none
            | _ => match resV P H hp' sl fn.results.toList with
              | some vs => some (retV vs, nx', hp')
              | none => none
          | none => none
        | false => none
      | none => none
    | none => none) k
theorem evCall_ok (hm : P.follows .mixedOrders = true) (k : Nat) : CallOk P H (evCall P H fuel k) := by
  induction k with
  | zero => intro g args nx hp v nx' hp' h; cases h
  | succ k ih =>
    intro g args nx hp v nx' hp' h R w ys hC hnx hys
    have h : (match P.funcs[g]? with
      | some fn => match fn.body with
        | some c => match Nat.ble args.length fn.ntmps with
          | true => match evCode P H (evCall P H fuel k) fn.ntmps fuel c (slotsOf args 0 .nil) nx hp with
            | some (e, sl, nx', hp') => match e with
              | .exit _ => none
              | _ => match resV P H hp' sl fn.results.toList with
                | some vs => some (retV vs, nx', hp')
                | none => none
            | none => none
          | false => none
        | none => none
      | none => none) = some (v, nx', hp') := h
    split at h
    · rename_i fn hf
      split at h
      · rename_i c hb
        split at h
        · rename_i hle
          split at h
          · rename_i e sl n1 hp1 hcode
            refine calls_of_wp hf hb ?_
            have hlen := hys.length
            have hle := Nat.le_of_ble_eq_true hle
            refine evCode_ok hm ih c _ _ _ _ _ _ _ R _ _ _ hcode ⟨⟨?_, ?_⟩, rfl⟩ hC hnx fun R' a' w' k1 k2 k3 => ?_
            · simp only [Array.size_append, List.size_toArray, Array.size_replicate]; omega
            · intro t u hu
              rcases slotsOf_get hu with ⟨i, h1, h2⟩ | h1
              · obtain ⟨y, h3, h4⟩ := hys.get h1
                rw [Array.getD_eq_getD_getElem?]
                have hlt := (List.getElem?_eq_some_iff.1 h3).1
                rw [Array.getElem?_append_left (by simp; omega)]
                rw [h2]
                simp only [Nat.zero_add, List.getElem?_toArray, h3, Option.getD_some]
                exact h4
              · cases h1
            · split at h
              · cases h
              · rename_i hne
                split at h
                · rename_i vs hvs
                  simp only [Option.some.injEq, Prod.mk.injEq] at h
                  obtain ⟨rfl, rfl, rfl⟩ := h
                  obtain ⟨y, hy, hrun⟩ := results_ok k2 k1 hvs
                  cases e with
                  | norm => exact ⟨k1.nodef, y, hrun, R', y, rfl, hy, k2, k3⟩
                  | ret => exact ⟨k1.nodef, y, hrun, R', y, rfl, hy, k2, k3⟩
                  | exit i => exact absurd rfl (hne i)
                · cases h
          · cases h
        · cases h
      · cases h
    · cases h
/-- A closed call. -/
theorem closed_call (hm : P.follows .mixedOrders = true) {f : FuncId} {v : Value} {nx' : Nat} {hp' : PT Ob} {k : Nat} (h : evCall P (fun _ => none) fuel k f [] 0 .nil = some (.lit v, nx', hp')) (w : World) : Calls P f #[] w fun e w' => e = .returned v ∧ Below w.heap.size w w' := by
  refine Calls.mono (evCall_ok hm k f [] 0 .nil _ _ _ h (fun _ _ _ => False) w [] ⟨(fun b o h => by cases h), (fun id o h => by cases h), (fun id b c b' c' h => h.elim), (fun id id' o o' b c c' h => by cases h)⟩ (fun _ _ _ h => h.elim) .nil) ?_
  rintro e w' ⟨R', y, rfl, h1, h2, h3⟩
  rw [h1.lit_inv]
  refine ⟨rfl, h3.below.os, h3.below.tape, h3.below.output, h3.below.size, fun b hb => ?_⟩
  have : w.heap[b]? = some (w.heap[b]'hb) := Array.getElem?_eq_getElem hb
  rw [this]
  exact h3.fr b _ this fun i c h => h.elim
end
end Go.Vm
