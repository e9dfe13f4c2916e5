/- Calls that were run once are answered: what they come to is laid into the caller's memory under names of its own. -/
import Derived.Test.YtdghfmbbohlcgaaGreatDoorVnD
set_option linter.unusedVariables false
namespace Go.Vm
open Go.RowKit
/-- A body, its calls by 'callR'. -/
def evBody (P : Program) (H : View) (fuel : Nat) (ih : CallR) : CallR := fun g args nx hp => match P.funcs[g]? with
    | some fn => match fn.body with
      | some c => match Nat.ble args.length fn.ntmps with
        | true => match evCode P H ih fn.ntmps fuel c (slotsOf args 0 .nil) nx hp with
          | some (e, sl, nx', hp') => match e with
            | .exit _ => none
            | _ => match resV P H hp' sl fn.results.toList with
              | some vs => some (retV vs, nx', hp')
              | none => none
          | none => none
        | false => none
      | none => none
    | none => none
theorem evBody_ok {P : Program} {H : View} {fuel : Nat} (hm : P.follows .mixedOrders = true) {ih : CallR} (hih : CallOk P H ih) : CallOk P H (evBody P H fuel ih) := by
  intro g args nx hp v nx' hp' h R w ys hC hnx hys
  unfold evBody at h
  split at h
  · rename_i fn hf
    split at h
    · rename_i c hb
      split at h
      · rename_i hle
        split at h
        · rename_i e sl n1 hp1 hcode
          refine calls_of_wp hf hb ?_
          have hlen := hys.length
          have hle := Nat.le_of_ble_eq_true hle
          refine evCode_ok hm hih c _ _ _ _ _ _ _ R _ _ _ hcode ⟨⟨?_, ?_⟩, rfl⟩ hC hnx fun R' a' w' k1 k2 k3 => ?_
          · simp only [Array.size_append, List.size_toArray, Array.size_replicate]; omega
          · intro t u hu
            rcases slotsOf_get hu with ⟨i, h1, h2⟩ | h1
            · obtain ⟨y, h3, h4⟩ := hys.get h1
              rw [Array.getD_eq_getD_getElem?]
              have hlt := (List.getElem?_eq_some_iff.1 h3).1
              rw [Array.getElem?_append_left (by simp; omega)]
              rw [h2]
              simp only [Nat.zero_add, List.getElem?_toArray, h3, Option.getD_some]
              exact h4
            · cases h1
          · split at h
            · cases h
            · rename_i hne
              split at h
              · rename_i vs hvs
                simp only [Option.some.injEq, Prod.mk.injEq] at h
                obtain ⟨rfl, rfl, rfl⟩ := h
                obtain ⟨y, hy, hrun⟩ := results_ok k2 k1 hvs
                cases e with
                | norm => exact ⟨k1.nodef, y, hrun, R', y, rfl, hy, k2, k3⟩
                | ret => exact ⟨k1.nodef, y, hrun, R', y, rfl, hy, k2, k3⟩
                | exit i => exact absurd rfl (hne i)
              · cases h
        · cases h
      · cases h
    · cases h
  · cases h
/-- Calls, some of which are answered. -/
def evCallA (ans : CallR → CallR) (P : Program) (H : View) (fuel : Nat) (k : Nat) : CallR :=
  Nat.rec (fun _ _ _ _ => none) (fun _ ih => ans (evBody P H fuel ih)) k
theorem evCallA_ok {P : Program} {H : View} {fuel : Nat} {ans : CallR → CallR} (hm : P.follows .mixedOrders = true) (hans : ∀ c, CallOk P H c → CallOk P H (ans c)) : ∀ k, CallOk P H (evCallA ans P H fuel k)
  | 0 => fun g args nx hp v nx' hp' h => by cases h
  | k + 1 => hans _ (evBody_ok hm (evCallA_ok hm hans k))
def noAns (c : CallR) : CallR := c
/-! ### an answer -/
def keysB (n : Nat) : List (Nat × Ob) → Bool
  | [] => true
  | (k, _) :: l => match Nat.ble (Nat.succ k) n with
    | true => keysB n l
    | false => false
theorem keysB_spec {n : Nat} : ∀ {l : List (Nat × Ob)}, keysB n l = true → ∀ k o, (k, o) ∈ l → k < n
  | [], _, k, o, h => by simp at h
  | (j, x) :: l, hb, k, o, h => by
    simp only [keysB] at hb
    split at hb
    · rename_i hle
      rcases List.mem_cons.1 h with e | h
      · simp only [Prod.mk.injEq] at e; obtain ⟨rfl, rfl⟩ := e; exact Nat.le_of_ble_eq_true hle
      · exact keysB_spec hb k o h
    · cases hb
def sameVs : List V → List V → Bool
  | [], [] => true
  | a :: l, b :: m => match sameV a b with
    | true => sameVs l m
    | false => false
  | _, _ => false
theorem sameVs_eq : ∀ {a b : List V}, sameVs a b = true → a = b
  | [], [], _ => rfl
  | a :: l, b :: m, h => by
    simp only [sameVs] at h
    split at h
    · rename_i hb
      rw [sameV_eq hb, sameVs_eq h]
    · cases h
  | [], _ :: _, h => by cases h
  | _ :: _, [], h => by cases h
def sameW : V → V → Bool
  | .tup a, .tup b => sameVs a b
  | a, b => sameV a b
theorem sameW_eq {a b : V} (h : sameW a b = true) : a = b := by
  unfold sameW at h
  split at h
  · rw [sameVs_eq h]
  · exact sameV_eq h
/-- Did it come to this? -/
def ansB (r : Option (V × Nat × PT Ob)) (v : V) (n : Nat) (objs : List (Nat × Ob)) : Bool := match r with
  | some (v', n', hp') => match sameW v' v with
    | true => match Nat.beq n' n with
      | true => match keysB n objs with
        | true => keptO hp' objs
        | false => false
      | false => false
    | false => false
  | none => false
def addO (nx : Nat) : List (Nat × Ob) → PT Ob → PT Ob
  | [], hp => hp
  | (k, o) :: l, hp => (addO nx l hp).put (Nat.add nx k) (some (o.ren (Nat.add nx)))
def ansR (g0 : FuncId) (x : Value) (v : V) (n : Nat) (objs : List (Nat × Ob)) (callR : CallR) : CallR := fun g args nx hp => match Nat.beq g g0 with
  | true => match args with
    | [.lit y] => match sameY y x with
      | true => some (ren (Nat.add nx) v, Nat.add nx n, addO nx objs hp)
      | false => callR g args nx hp
    | _ => callR g args nx hp
  | false => callR g args nx hp
theorem addO_get {nx : Nat} {hp : PT Ob} : ∀ {l : List (Nat × Ob)} {j : Nat} {ob : Ob}, (addO nx l hp).get j = some ob → (∃ k o, (k, o) ∈ l ∧ j = Nat.add nx k ∧ ob = o.ren (Nat.add nx)) ∨ hp.get j = some ob
  | [], j, ob, h => .inr h
  | (k, o) :: l, j, ob, h => by
    simp only [addO] at h
    rw [PT.get_put] at h
    split at h
    · rename_i e
      simp only [Option.some.injEq] at h
      exact .inl ⟨k, o, .head _, e, h.symm⟩
    · rcases addO_get h with ⟨k', o', h1, h2, h3⟩ | h1
      · exact .inl ⟨k', o', .tail _ h1, h2, h3⟩
      · exact .inr h1
theorem ansR_ok {P : Program} {H : View} {g0 : FuncId} {x : Value} {v : V} {n : Nat} {objs : List (Nat × Ob)} {call0 : CallR} (h0 : CallOk P H call0) (hb : ansB (call0 g0 [.lit x] 0 .nil) v n objs = true) {callR : CallR} (hc : CallOk P H callR) : CallOk P H (ansR g0 x v n objs callR) := by
  have hcon : Con P g0 H [.lit x] 0 .nil fun H' u n' hp' => H' = H ∧ u = v ∧ n' = n ∧ ∀ k o, (k, o) ∈ objs → k < n ∧ hp'.get k = some o := by
    unfold ansB at hb
    split at hb
    · rename_i v' n' hp' hr
      split at hb
      · rename_i e1
        split at hb
        · rename_i e2
          split at hb
          · rename_i e3
            intro R w ys hC hfr hys
            refine Calls.mono (h0 _ _ _ _ _ _ _ hr R w ys hC hfr hys) ?_
            rintro e w' ⟨R', y, rfl, k1, k2, k3⟩
            have e1 := sameW_eq e1
            obtain rfl := Nat.eq_of_beq_eq_true e2
            subst e1
            exact ⟨H, R', v', y, n', hp', rfl, k1, Fin.still hfr k2 k3, rfl, rfl, rfl, fun k o h => ⟨keysB_spec e3 k o h, keptO_spec hb k o h⟩⟩
          · cases hb
        · cases hb
      · cases hb
    · cases hb
  intro g args nx hp u nx' hp' h R w ys hC hnx hys
  unfold ansR at h
  split at h
  · rename_i hg
    obtain rfl := Nat.eq_of_beq_eq_true hg
    split at h
    · rename_i y
      split at h
      · rename_i hy
        obtain rfl := sameY_eq hy
        simp only [Option.some.injEq, Prod.mk.injEq] at h
        obtain ⟨rfl, rfl, rfl⟩ := h
        have hname : names (fun i => i) 0 nx = Nat.add nx := by funext i; simp [names]
        have hfin : Con P g H (renL (fun i => i) [.lit y]) nx hp fun H' u n' hp' => H' = H ∧ u = ren (Nat.add nx) v ∧ n' = Nat.add nx n ∧ hp' = addO nx objs hp := by
          refine call_frame hcon (ρ := fun i => i) ⟨trivial, trivial⟩ (fun i o ho => by cases ho) (fun i j hi => by omega) (fun i hi => by omega) ?_
          rintro H' v' n' hp0 ⟨rfl, rfl, rfl, hk⟩ _
          refine ⟨addO nx objs hp, fun j ob hj => ?_, rfl, by rw [hname], by simp, rfl⟩
          rcases addO_get hj with ⟨k, o, h1, h2, h3⟩ | h1
          · obtain ⟨q1, q2⟩ := hk k o h1
            exact .inl ⟨k, o, q1, by rw [hname]; exact h2, q2, by rw [hname]; exact h3⟩
          · exact .inr ⟨h1, fun i o ho => by cases ho⟩
        refine Calls.mono (hfin R w ys hC hnx hys) ?_
        rintro e w' ⟨H', R', v', y', n', hp', rfl, hv, F, rfl, rfl, rfl, rfl⟩
        exact ⟨R', y', rfl, hv, F.cn, F.st⟩
      · exact hc _ _ _ _ _ _ _ h R w ys hC hnx hys
    · exact hc _ _ _ _ _ _ _ h R w ys hC hnx hys
  · exact hc _ _ _ _ _ _ _ h R w ys hC hnx hys
theorem ans_con {P : Program} {H : View} {g : FuncId} {args : List V} {v : V} {n : Nat} {objs : List (Nat × Ob)} {call0 : CallR} (h0 : CallOk P H call0) (hb : ansB (call0 g args 0 .nil) v n objs = true) : Con P g H args 0 .nil fun H' u _ _ => u = v := by
  unfold ansB at hb
  split at hb
  · rename_i v' n' hp' hr
    split at hb
    · rename_i e1
      intro R w ys hC hfr hys
      refine Calls.mono (h0 _ _ _ _ _ _ _ hr R w ys hC hfr hys) ?_
      rintro e w' ⟨R', y, rfl, k1, k2, k3⟩
      exact ⟨H, R', v', y, n', hp', rfl, k1, Fin.still hfr k2 k3, sameW_eq e1⟩
    · cases hb
  · cases hb
end Go.Vm
