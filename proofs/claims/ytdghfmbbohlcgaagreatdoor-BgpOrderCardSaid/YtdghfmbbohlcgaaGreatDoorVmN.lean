/- Regions that draw their order: the whole region. -/
import Derived.Test.YtdghfmbbohlcgaaGreatDoorVmM
set_option linter.unusedVariables false
set_option linter.unusedSimpArgs false
namespace Go.Vm
open Go.RowKit

section
variable {P : Program} {H : View} {callR : CallR} {ops : List Oper} {sl0 : PT V} {hp0 : PT Ob} {nx0 nt : Nat} {tr : List En} {R0 : Rel} {w0 : World}
theorem RInv.start {a : Act} (ha : AcR R0 sl0 nt a) (hC : Cn H R0 hp0 w0) (hnx : ∀ i b c, R0 i b c → i < nx0) : RInv H ops sl0 hp0 nx0 nt tr R0 w0 (fun _ => False) none R0 a w0 := by
  have hg : gM ops hp0 nx0 tr (fun _ => False) none = hp0.mem := by
    funext id o
    apply propext
    constructor
    · rintro (h | ⟨_, _, h, _⟩)
      · exact h
      · exact h.elim
    · exact fun h => .inl h
  refine ⟨fun k o e h => h.elim, fun k h => h.elim, fun p h => (by cases h), fun k _ h => h.elim, ha.size, ha.nodef, fun k o d e h => h.elim, fun t v _ h => ha.slots t v h, by rw [hg]; exact hC.toR, by rw [hg]; exact StR.refl _ _ _ _ _, ?_, ?_, Nat.le_refl _⟩
  · intro k b c _ h
    have := hnx _ _ _ h
    omega
  · intro k _ _
    exact hC.dead hnx (Nat.le_add_right _ _)
theorem ready_spec {listed : Array Bool} (hs : listed.size = ops.length) {i : Nat} : i ∈ Region.ready .any ops.toArray listed ↔ ∃ o, ops[i]? = some o ∧ listed.getD i false = false ∧ ∀ e ∈ o.after, Region.binds .any e = true → listed.getD e.on false = true := by
  unfold Region.ready
  simp only [List.mem_filter, List.mem_range, Bool.and_eq_true, Bool.not_eq_true', List.size_toArray, List.getElem?_toArray]
  constructor
  · rintro ⟨h1, h2, h3⟩
    have ho : ops[i]? = some (ops[i]'h1) := List.getElem?_eq_getElem h1
    rw [ho] at h3
    refine ⟨_, ho, ?_, ?_⟩
    · have hi : i < listed.size := by omega
      rw [Array.getD_eq_getD_getElem?, Array.getElem?_eq_getElem hi] at h2 ⊢
      exact h2
    · intro e he hb
      simp only [Option.map_some, Option.getD_some] at h3
      rw [Array.all_eq_true_iff_forall_mem] at h3
      have := h3 e he
      rw [hb] at this
      simpa using this
  · rintro ⟨o, ho, h2, h3⟩
    have h1 := (List.getElem?_eq_some_iff.1 ho).1
    refine ⟨h1, ?_, ?_⟩
    · have hi : i < listed.size := by omega
      rw [Array.getD_eq_getD_getElem?, Array.getElem?_eq_getElem hi] at h2 ⊢
      exact h2
    · rw [ho]
      simp only [Option.map_some, Option.getD_some]
      rw [Array.all_eq_true_iff_forall_mem]
      intro e he
      cases hb : Region.binds .any e with
      | false => simp
      | true => simpa using h3 e he hb
theorem ready_nil (hR : RegOk ops) {listed : Array Bool} (hs : listed.size = ops.length) (h : Region.ready .any ops.toArray listed = []) : ∀ k, k < ops.length → listed.getD k false = true := by
  intro k
  induction k using Nat.strongRecOn with
  | _ k ih =>
    intro hk
    cases hl : listed.getD k false with
    | true => rfl
    | false =>
      have ho : ops[k]? = some (ops[k]'hk) := List.getElem?_eq_getElem hk
      have : k ∈ Region.ready .any ops.toArray listed := (ready_spec hs).2 ⟨_, ho, hl, fun e he hb => by
        have := hR.back k _ e ho he hb
        exact ih _ this (by omega)⟩
      rw [h] at this
      cases this
theorem getD_set {listed : Array Bool} {i k : Nat} (hi : i < listed.size) : (listed.setIfInBounds i true).getD k false = true ↔ (listed.getD k false = true ∨ k = i) := by
  simp only [Array.getD_eq_getD_getElem?]
  by_cases h : k = i
  · subst h
    rw [Array.getElem?_setIfInBounds_self_of_lt hi]
    simp
  · rw [Array.getElem?_setIfInBounds_ne (fun e => h e.symm)]
    simp [h]
def left : List Bool → Nat
  | [] => 0
  | true :: l => left l
  | false :: l => left l + 1
theorem left_set : ∀ {l : List Bool} {i : Nat}, l[i]? = some false → left (l.set i true) + 1 = left l
  | [], i, h => by simp at h
  | b :: l, 0, h => by
    simp only [List.getElem?_cons_zero, Option.some.injEq] at h
    subst h
    simp [left]
  | b :: l, i + 1, h => by
    simp only [List.getElem?_cons_succ] at h
    have := left_set h
    cases b <;> simp only [List.set_cons_succ, left] <;> omega
theorem left_zero : ∀ {l : List Bool}, left l = 0 → ∀ i : Nat, l[i]? ≠ some false
  | [], _, i => by simp
  | true :: l, h, 0 => by simp
  | true :: l, h, i + 1 => by simpa using left_zero (l := l) h i
  | false :: l, h, _ => by simp [left] at h
theorem left_rep : ∀ n, left (List.replicate n false) = n
  | 0 => rfl
  | n + 1 => by simp [List.replicate_succ, left, left_rep n]
theorem RInv.congr {E E' : Nat → Prop} {c : Option Nat} {R : Rel} {a : Act} {w : World} (h : ∀ k, E k ↔ E' k) (I : RInv H ops sl0 hp0 nx0 nt tr R0 w0 E c R a w) : RInv H ops sl0 hp0 nx0 nt tr R0 w0 E' c R a w := by
  have : E = E' := funext fun k => propext (h k)
  subst this
  exact I
/-- The operations come up in any order. -/
theorem any_ok (hR : RegOk ops) (hdst : ∀ (k : Nat) (o : Oper) (d : Nat), ops[k]? = some o → o.dst = some d → d < nt) {sl' : PT V} {pv : Option Nat} {hh : PT Ob} {n : Nat} {as : List (Nat × Ob)} {hist : List (Nat × PT Ob)} {rds : Rds}
    (T : TInv P H ops sl0 hp0 nx0 ops.length sl' pv hh n as hist rds tr) (hR0 : ∀ i b c, R0 i b c → i < nx0) {Q : Exit → Act → World → Prop}
    (hQ : ∀ c R a w, RInv H ops sl0 hp0 nx0 nt tr R0 w0 (fun k => k < ops.length) c R a w → Q .normal a w) : ∀ (fuel : Nat) (listed : Array Bool) (c : Option Nat) (R : Rel) (a : Act) (w : World), listed.size = ops.length → left listed.toList = fuel →
    RInv H ops sl0 hp0 nx0 nt tr R0 w0 (fun k => listed.getD k false = true) c R a w → wpAny P .any ops.toArray Q fuel listed a w := by
  have fin : ∀ (listed : Array Bool) (c : Option Nat) (R : Rel) (a : Act) (w : World), listed.size = ops.length → Region.ready .any ops.toArray listed = [] →
      RInv H ops sl0 hp0 nx0 nt tr R0 w0 (fun k => listed.getD k false = true) c R a w → Q .normal a w := by
    intro listed c R a w hs hr I
    exact hQ c R a w (I.congr fun k => ⟨fun h => I.sub k h, fun h => ready_nil hR hs hr k h⟩)
  intro fuel
  induction fuel with
  | zero =>
    intro listed c R a w hs hl I
    have hr : Region.ready .any ops.toArray listed = [] := by
      rw [List.eq_nil_iff_forall_not_mem]
      intro i hi
      obtain ⟨o, ho, h1, _⟩ := (ready_spec hs).1 hi
      have hlt := (List.getElem?_eq_some_iff.1 ho).1
      refine left_zero hl i ?_
      have hi : i < listed.size := by omega
      rw [Array.getD_eq_getD_getElem?, Array.getElem?_eq_getElem hi] at h1
      rw [Array.getElem?_toList, Array.getElem?_eq_getElem hi]
      simpa using h1
    exact ⟨hr, fin listed c R a w hs hr I⟩
  | succ fuel ih =>
    intro listed c R a w hs hl I
    refine ⟨fun hr => fin listed c R a w hs hr I, fun i hi => ?_⟩
    obtain ⟨o, ho, h1, h2⟩ := (ready_spec hs).1 hi
    have hlt := (List.getElem?_eq_some_iff.1 ho).1
    refine rstep hR hdst T hR0 I ho (by rw [h1]; simp) h2 fun c' R' a' w' I' => ?_
    refine ih _ c' R' a' w' (by simp [hs]) ?_ (I'.congr fun k => (getD_set (by omega)).symm)
    have hi' : i < listed.size := by omega
    have : left (listed.toList.set i true) + 1 = left listed.toList := left_set (by
      rw [Array.getD_eq_getD_getElem?, Array.getElem?_eq_getElem hi'] at h1
      rw [Array.getElem?_toList, Array.getElem?_eq_getElem hi']
      simpa using h1)
    rw [Array.toList_setIfInBounds]
    omega
theorem draw_wp (hm : P.follows .mixedOrders = true) (hR : RegOk ops) (hdst : ∀ (k : Nat) (o : Oper) (d : Nat), ops[k]? = some o → o.dst = some d → d < nt) {sl sl1 : PT V} {nx n1 : Nat} {hp : PT Ob} {pv : Option Nat} {hh : PT Ob} {as : List (Nat × Ob)} {hist : List (Nat × PT Ob)} {rds : Rds} {tr : List En} {R : Rel} {a : Act} {w : World} {id : Nat} {Q : Exit → Act → World → Prop}
    (T : TInv P H ops sl hp nx ops.length sl1 pv hh n1 as hist rds tr) (ha : AcR R sl nt a) (hC : Cn H R hp w) (hnx : ∀ i b c, R i b c → i < nx)
    (hq : ∀ R' a' w', AcR R' sl1 nt a' → Cn H R' (commitAll nx as hh) w' → St R nx hp w R' n1 (commitAll nx as hh) w' → Q .normal a' w') : (Code.region id ops.toArray true).wp P Q a w := by
  refine wp_region_any hm ?_
  have hC' : Cn H R hp { w with drawn := w.drawn + 1 } := ⟨hC.agree, hC.all, hC.fn, hC.inj⟩
  refine any_ok (w0 := { w with drawn := w.drawn + 1 }) hR hdst T hnx ?_ _ _ none R a _ (by simp) (by simp [left_rep]) ((RInv.start ha hC' hnx).congr fun k => ⟨fun h => h.elim, fun h => by
    rw [Array.getD_eq_getD_getElem?] at h
    by_cases hk : k < ops.toArray.size
    · rw [Array.getElem?_replicate, if_pos hk] at h; simp at h
    · rw [Array.getElem?_replicate, if_neg hk] at h; simp at h⟩)
  intro c R' a' w' I
  have hlen := T.len
  have hc : c = pv := by
    cases hp : pv with
    | none =>
      cases hc : c with
      | none => rfl
      | some p =>
        obtain ⟨p', q1, _⟩ := T.last p (I.cnode p hc).1
        rw [hp] at q1; cases q1
    | some p =>
      have hp1 := T.node p hp
      obtain ⟨p1, q1, q2⟩ := I.clast p hp1 (by have := isL_lt hp1; omega)
      obtain ⟨p2, q3, q4⟩ := T.last p1 (I.cnode p1 q1).1
      rw [hp] at q3
      simp only [Option.some.injEq] at q3
      rw [q1]
      congr 1
      omega
  subst hc
  have hEall : ∀ j, isL tr j → j < ops.length := fun j hj => by have := isL_lt hj; omega
  have hg : gM ops hp nx tr (fun k => k < ops.length) c = (commitAll nx as hh).mem := by
    have hheq := T.heq
    funext id o
    apply propext
    unfold PT.mem gM
    rcases commitAll_get (nx0 := nx) as hh id with ⟨k, ob, q1, q2, q3⟩ | ⟨q1, q2⟩
    · rw [q3]
      obtain ⟨r1, r2⟩ := (T.asOk k ob).1 q2
      have hk : k < ops.length := by have := kdAt_lt r1; omega
      have hn : (hAt hp tr c).get (nx + k) = none := I.d1 k hk fun ⟨_, _, j, p2, _, p4⟩ => by rw [r2 j p2] at p4; cases p4
      constructor
      · rintro (h | ⟨k', p1, p2, p3, p4⟩)
        · rw [q1, hn] at h; cases h
        · have : k' = k := by omega
          subst this
          unfold isA at p3 r1
          rw [r1] at p3
          simp only [Option.some.injEq, Kd.a.injEq] at p3
          rw [p3]
      · intro h
        simp only [Option.some.injEq] at h
        subst h
        exact .inr ⟨k, q1, hk, r1, fun j hj _ => r2 j hj⟩
    · rw [q2, hheq]
      constructor
      · rintro (h | ⟨k', p1, p2, p3, p4⟩)
        · exact h
        · exact absurd ⟨k', o, p1, (T.asOk k' o).2 ⟨p3, fun j hj => p4 j hj (hEall j hj)⟩⟩ q1
      · exact fun h => .inl h
  have hcn := I.cn
  have hst := I.st
  rw [hg] at hcn hst
  have hnle := I.nle
  rw [← T.neq] at hst hnle
  refine hq R' a' w' ⟨⟨I.size, fun t v hv => ?_⟩, I.nodef⟩ (hcn.sub fun _ _ h => h) ?_
  · rw [T.slots] at hv
    unfold slotAt at hv
    split at hv
    · rename_i j hj
      obtain ⟨-, o', ho', hd'⟩ := dstIx_some hj
      simp only [Nat.sub_zero] at ho'
      have hlt := (List.getElem?_eq_some_iff.1 ho').1
      rw [if_pos hlt] at hv
      obtain ⟨e, he, rfl⟩ := Option.map_eq_some_iff.1 hv
      exact I.done j o' t e hlt ho' hd' he
    · rename_i hj
      refine I.rest t v (fun k' o2 hE ho2 hd2 => ?_) hv
      obtain ⟨i, hi⟩ := dstIx_mem (k := 0) ho2 hd2
      rw [hj] at hi
      cases hi
  · refine ⟨hst.grow, hst.dom, fun i hi hn => ?_, by omega, ⟨hst.below.os, hst.below.tape, hst.below.output, hst.below.size, hst.below.block⟩, fun b o hb hd => hst.fr b o hb fun i c' hr o' ho' => ?_⟩
    · cases hx : (commitAll nx as hh).get i with
      | none => rfl
      | some o => exact absurd hx (hst.dead i hi (fun o ho => by unfold PT.mem at ho; rw [hn] at ho; cases ho) o)
    · have := hd i c' hr
      unfold PT.mem at ho'
      rw [this] at ho'; cases ho'
theorem evDraw_wp (hm : P.follows .mixedOrders = true) (hcall : CallOk P H callR) {sl sl' : PT V} {nx nx' : Nat} {hp hp' : PT Ob} {R : Rel} {a : Act} {w : World} {id : Nat} {Q : Exit → Act → World → Prop} (h : evDraw P H callR nt ops sl nx hp = some (sl', nx', hp')) (ha : AcR R sl nt a) (hC : Cn H R hp w) (hnx : ∀ i b c, R i b c → i < nx)
    (hq : ∀ R' a' w', AcR R' sl' nt a' → Cn H R' hp' w' → St R nx hp w R' nx' hp' w' → Q .normal a' w') : (Code.region id ops.toArray true).wp P Q a w := by
  unfold evDraw at h
  split at h
  · rename_i hok
    rw [Bool.and_eq_true] at hok
    have hR := regOk_spec hok.1
    have hdst := dstsOk_spec hok.2
    split at h
    · rename_i sl1 n1 h1 tr hg
      simp only [Option.some.injEq, Prod.mk.injEq] at h
      obtain ⟨rfl, rfl, rfl⟩ := h
      obtain ⟨pv, hh, as, hist, rds, T, rfl⟩ := go_ok hcall hR ops (by simp) (Nat.zero_le _) TInv.start hg
      exact draw_wp hm hR hdst T ha hC hnx hq
    · cases h
  · cases h
end
end Go.Vm
