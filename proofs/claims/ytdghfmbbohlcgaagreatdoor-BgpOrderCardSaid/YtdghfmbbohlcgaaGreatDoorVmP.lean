/- Long closed runs, piece by piece: what is kept between the pieces is looked at, the rest is let go; calls that are answered by what was proved of them. -/
import Derived.Test.YtdghfmbbohlcgaaGreatDoorVmO
set_option linter.unusedVariables false
set_option linter.unusedSimpArgs false
namespace Go.Vm
open Go.RowKit

/-! ### less is known -/
section
variable {P : Program} {H : View} {R R' : Rel} {nx nx' nt fuel : Nat} {hp hp0 hp' : PT Ob} {w w' : World} {sl sl0 : PT V} {a : Act}
theorem Cn.less (h : Cn H R hp w) (hs : ∀ id o, hp0.get id = some o → hp.get id = some o) : Cn H R hp0 w :=
  ⟨h.agree, fun id o ho => h.all id o (hs _ _ ho), h.fn, fun id id' o o' b c c' h1 h2 => h.inj id id' o o' b c c' (hs _ _ h1) (hs _ _ h2)⟩
theorem AcR.less (h : AcR R sl nt a) (hs : ∀ t v, sl0.get t = some v → sl.get t = some v) : AcR R sl0 nt a := ⟨⟨h.size, fun t v hv => h.slots t v (hs t v hv)⟩, h.nodef⟩
theorem St.more (h : St R nx hp0 w R' nx' hp' w') (hs : ∀ id o, hp0.get id = some o → hp.get id = some o) : St R nx hp w R' nx' hp' w' := by
  have none' : ∀ i, hp.get i = none → hp0.get i = none := by
    intro i hi
    cases h0 : hp0.get i with
    | none => rfl
    | some o => rw [hs i o h0] at hi; cases hi
  exact ⟨h.grow, fun i b c x => (h.dom i b c x).imp id fun ⟨h1, h2, h3⟩ => ⟨h1, h2, h3.imp id fun h3 => h3.imp id fun ⟨i0, c0, o, h4, h5⟩ => ⟨i0, c0, o, h4, hs _ _ h5⟩⟩, fun i hi hn => h.dead i hi (none' i hn), h.le, h.below, fun b o hb hd => h.fr b o hb fun i c hr => none' i (hd i c hr)⟩
theorem St.fewer {hp1 : PT Ob} (h : St R nx hp w R' nx' hp' w') (hs : ∀ id o, hp1.get id = some o → hp'.get id = some o) : St R nx hp w R' nx' hp1 w' := by
  refine ⟨h.grow, h.dom, fun i hi hn => ?_, h.le, h.below, h.fr⟩
  cases h0 : hp1.get i with
  | none => rfl
  | some o =>
    have := h.dead i hi hn
    rw [hs i o h0] at this; cases this
end

/-! ### lists as maps from numbers -/
def ofL {α : Type} : List (Nat × α) → PT α
  | [] => .nil
  | (k, x) :: l => (ofL l).put k (some x)
theorem ofL_get {α : Type} : ∀ {l : List (Nat × α)} {k : Nat} {x : α}, (ofL l).get k = some x → (k, x) ∈ l
  | [], k, x, h => by cases h
  | (j, y) :: l, k, x, h => by
    simp only [ofL] at h
    rw [PT.get_put] at h
    split at h
    · rename_i e
      simp only [Option.some.injEq] at h
      subst h; subst e
      simp
    · exact List.mem_cons_of_mem _ (ofL_get h)
def sameXs : List Value → List Value → Bool
  | [], [] => true
  | a :: l, b :: m => match sameX a b with
    | true => sameXs l m
    | false => false
  | _, _ => false
theorem sameXs_eq : ∀ {a b : List Value}, sameXs a b = true → a = b
  | [], [], _ => rfl
  | a :: l, b :: m, h => by
    simp only [sameXs] at h
    split at h
    · rename_i hb
      rw [sameX_eq hb, sameXs_eq h]
    · cases h
  | [], _ :: _, h => by cases h
  | _ :: _, [], h => by cases h
def sameY : Value → Value → Bool
  | .agg a, .agg b => sameXs a.toList b.toList
  | a, b => sameX a b
theorem sameY_eq {a b : Value} (h : sameY a b = true) : a = b := by
  unfold sameY at h
  split at h
  · rw [Array.ext' (sameXs_eq h)]
  · exact sameX_eq h
def sameE : List Ent → List Ent → Bool
  | [], [] => true
  | a :: l, b :: m => match sameY a.key b.key with
    | true => match sameV a.val b.val with
      | true => match Nat.beq a.born b.born with
        | true => sameE l m
        | false => false
      | false => false
    | false => false
  | _, _ => false
theorem sameE_eq : ∀ {a b : List Ent}, sameE a b = true → a = b
  | [], [], _ => rfl
  | ⟨k, v, n⟩ :: l, ⟨k', v', n'⟩ :: m, h => by
    simp only [sameE] at h
    split at h
    · rename_i h1
      split at h
      · rename_i h2
        split at h
        · rename_i h3
          rw [sameE_eq h, sameY_eq h1, sameV_eq h2, Nat.eq_of_beq_eq_true h3]
        · cases h
      · cases h
    · cases h
  | [], _ :: _, h => by cases h
  | _ :: _, [], h => by cases h
def sameO : Option Ob → Ob → Bool
  | some (.cells T cs), .cells T' cs' => match Nat.beq T T' with
    | true => sames cs cs'
    | false => false
  | some (.row T z cs), .row T' z' cs' => match Nat.beq T T' && Nat.beq z z' with
    | true => sames cs cs'
    | false => false
  | some (.ro T z cs), .ro T' z' cs' => match Nat.beq T T' && Nat.beq z z' with
    | true => sames cs cs'
    | false => false
  | some (.map es n), .map es' n' => match Nat.beq n n' with
    | true => sameE es es'
    | false => false
  | _, _ => false
theorem sameO_eq {x : Option Ob} {y : Ob} (h : sameO x y = true) : x = some y := by
  unfold sameO at h
  split at h
  · split at h
    · rename_i hb
      rw [Nat.eq_of_beq_eq_true hb, sames_eq h]
    · cases h
  · split at h
    · rename_i hb
      rw [Bool.and_eq_true] at hb
      rw [Nat.eq_of_beq_eq_true hb.1, Nat.eq_of_beq_eq_true hb.2, sames_eq h]
    · cases h
  · split at h
    · rename_i hb
      rw [Bool.and_eq_true] at hb
      rw [Nat.eq_of_beq_eq_true hb.1, Nat.eq_of_beq_eq_true hb.2, sames_eq h]
    · cases h
  · split at h
    · rename_i hb
      rw [Nat.eq_of_beq_eq_true hb, sameE_eq h]
    · cases h
  · cases h
def keptO (hp : PT Ob) : List (Nat × Ob) → Bool
  | [] => true
  | (k, x) :: l => match sameO (hp.get k) x with
    | true => keptO hp l
    | false => false
theorem keptO_spec {hp : PT Ob} : ∀ {l : List (Nat × Ob)}, keptO hp l = true → ∀ k x, (k, x) ∈ l → hp.get k = some x
  | [], _, k, x, h => by simp at h
  | (j, y) :: l, hb, k, x, h => by
    simp only [keptO] at hb
    split at hb
    · rename_i hs
      rcases List.mem_cons.1 h with h | h
      · cases h; exact sameO_eq hs
      · exact keptO_spec hb k x h
    · cases hb
def keptV (sl : PT V) : List (Nat × V) → Bool
  | [] => true
  | (k, x) :: l => match isSame (sl.get k) x with
    | true => keptV sl l
    | false => false
theorem keptV_spec {sl : PT V} : ∀ {l : List (Nat × V)}, keptV sl l = true → ∀ k x, (k, x) ∈ l → sl.get k = some x
  | [], _, k, x, h => by simp at h
  | (j, y) :: l, hb, k, x, h => by
    simp only [keptV] at hb
    split at hb
    · rename_i hs
      rcases List.mem_cons.1 h with h | h
      · cases h; exact isSame_eq hs
      · exact keptV_spec hb k x h
    · cases hb
def sameOut : Out → Out → Bool
  | .norm, .norm => true
  | .ret, .ret => true
  | .exit i, .exit j => Nat.beq i j
  | _, _ => false
theorem sameOut_eq {a b : Out} (h : sameOut a b = true) : a = b := by
  unfold sameOut at h
  split at h
  · rfl
  · rfl
  · rw [Nat.eq_of_beq_eq_true h]
  · cases h
/-! ### a piece -/
def SegOk (P : Program) (H : View) (nt : Nat) (c : Code) (sl : PT V) (nx : Nat) (hp : PT Ob) (e : Out) (sl' : PT V) (nx' : Nat) (hp' : PT Ob) : Prop :=
  ∀ R a w Q, AcR R sl nt a → Cn H R hp w → (∀ i b c, R i b c → i < nx) → (∀ R' a' w', AcR R' sl' nt a' → Cn H R' hp' w' → St R nx hp w R' nx' hp' w' → Q (Out.ex e) a' w') → c.wp P Q a w
def segB (r : Res) (e : Out) (sl : List (Nat × V)) (nx : Nat) (hp : List (Nat × Ob)) : Bool := match r with
  | some (e', sl', nx', hp') => match sameOut e' e with
    | true => match Nat.beq nx' nx with
      | true => match keptV sl' sl with
        | true => keptO hp' hp
        | false => false
      | false => false
    | false => false
  | none => false
section
variable {P : Program} {H : View} {nt fuel : Nat} {callR : CallR}
theorem seg_of (hm : P.follows .mixedOrders = true) (hcall : CallOk P H callR) {c : Code} {sl : PT V} {nx : Nat} {hp : PT Ob} {e : Out} {sl' : List (Nat × V)} {nx' : Nat} {hp' : List (Nat × Ob)} (h : segB (evCode P H callR nt fuel c sl nx hp) e sl' nx' hp' = true) :
    SegOk P H nt c sl nx hp e (ofL sl') nx' (ofL hp') := by
  unfold segB at h
  split at h
  · rename_i e1 sl1 nx1 hp1 hev
    split at h
    · rename_i h1
      split at h
      · rename_i h2
        split at h
        · rename_i h3
          have e1 := sameOut_eq h1
          have e2 := Nat.eq_of_beq_eq_true h2
          subst e1; subst e2
          intro R a w Q ha hC hnx hq
          refine evCode_ok hm hcall c _ _ _ _ _ _ _ R a w Q hev ha hC hnx fun R' a' w' k1 k2 k3 => ?_
          have s1 : ∀ t v, (ofL sl').get t = some v → sl1.get t = some v := fun t v hv => keptV_spec h3 t v (ofL_get hv)
          have s2 : ∀ t v, (ofL hp').get t = some v → hp1.get t = some v := fun t v hv => keptO_spec h t v (ofL_get hv)
          exact hq R' a' w' (k1.less s1) (k2.less s2) (k3.fewer s2)
        · cases h
      · cases h
    · cases h
  · cases h
theorem SegOk.seq {x y : Code} {sl sl1 sl2 : PT V} {nx nx1 nx2 : Nat} {hp hp1 hp2 : PT Ob} {e : Out} (h : SegOk P H nt x sl nx hp .norm sl1 nx1 hp1) (k : SegOk P H nt y sl1 nx1 hp1 e sl2 nx2 hp2) : SegOk P H nt (.seq x y) sl nx hp e sl2 nx2 hp2 := by
  intro R a w Q ha hC hnx hq
  refine wp_seq (h R a w _ ha hC hnx fun R' a' w' k1 k2 k3 => ?_)
  exact k R' a' w' Q k1 k2 (k3.nxlt hnx) fun R2 a2 w2 m1 m2 m3 => hq R2 a2 w2 m1 m2 (k3.trans m3 hnx)
def isSeq : Code → Bool
  | .seq _ _ => true
  | _ => false
def lft : Code → Code
  | .seq x _ => x
  | c => c
def rgt : Code → Code
  | .seq _ y => y
  | c => c
theorem SegOk.seq' {c : Code} {sl sl1 sl2 : PT V} {nx nx1 nx2 : Nat} {hp hp1 hp2 : PT Ob} {e : Out} (hs : isSeq c = true) (h : SegOk P H nt (lft c) sl nx hp .norm sl1 nx1 hp1) (k : SegOk P H nt (rgt c) sl1 nx1 hp1 e sl2 nx2 hp2) : SegOk P H nt c sl nx hp e sl2 nx2 hp2 := by
  cases c with
  | seq x y => exact SegOk.seq h k
  | _ => cases hs
/-- A body without arguments, that comes to a plain value. -/
theorem SegOk.calls {f : FuncId} {fn : Func} {c : Code} (hf : P.funcs[f]? = some fn) (hb : fn.body = some c) {e : Out} {sl : PT V} {nx : Nat} {hp : PT Ob} (hk : SegOk P (fun _ => none) fn.ntmps c .nil 0 .nil e sl nx hp) (he : e = .ret ∨ e = .norm) {t : Nat} {v : Value} (hr : fn.results = #[.tmp t]) (hv : sl.get t = some (.lit v)) (w : World) :
    Calls P f #[] w fun e w' => e = .returned v ∧ Below w.heap.size w w' := by
  refine calls_of_wp hf hb ?_
  refine hk (fun _ _ _ => False) _ w _ ⟨⟨by simp, fun t u h => by cases h⟩, rfl⟩ ⟨(fun b o h => by cases h), (fun id o h => by cases h), (fun id b c b' c' h => h.elim), (fun id id' o o' b c c' h => by cases h)⟩ (fun _ _ _ h => h.elim) fun R' a' w' k1 k2 k3 => ?_
  have h1 : (results fn a'.tmps).run P w' = .ok v w' := by
    rw [results_tmp hr]
    rw [(k1.slots t _ hv).lit_inv]
  have h2 : Below w.heap.size w w' := by
    refine ⟨k3.below.os, k3.below.tape, k3.below.output, k3.below.size, fun b hb => ?_⟩
    have : w.heap[b]? = some (w.heap[b]'hb) := Array.getElem?_eq_getElem hb
    rw [this]
    exact k3.fr b _ this fun i c h => h.elim
  rcases he with rfl | rfl
  · exact ⟨k1.nodef, v, h1, rfl, h2⟩
  · exact ⟨k1.nodef, v, h1, rfl, h2⟩
/-! ### calls that are answered by what was proved -/
def withC (f : FuncId) (v : Value) (callR : CallR) : CallR := fun g args nx hp => match Nat.beq g f with
  | true => match args with
    | [] => some (.lit v, nx, hp)
    | _ :: _ => none
  | false => callR g args nx hp
theorem withC_ok {f : FuncId} {v : Value} (hcall : CallOk P (fun _ => none) callR) (hf : ∀ w, Calls P f #[] w fun e w' => e = .returned v ∧ Below w.heap.size w w') : CallOk P (fun _ => none) (withC f v callR) := by
  intro g args nx hp u nx' hp' h R w ys hC hnx hys
  unfold withC at h
  split at h
  · rename_i hb
    have := Nat.eq_of_beq_eq_true hb
    subst this
    split at h
    · simp only [Option.some.injEq, Prod.mk.injEq] at h
      obtain ⟨rfl, rfl, rfl⟩ := h
      cases hys
      refine Calls.mono (hf w) ?_
      rintro e w' ⟨rfl, hB⟩
      have stay : ∀ b x, w.heap[b]? = some x → w'.heap[b]? = some x := fun b x hx => by rw [hB.block b (lt_of_some hx)]; exact hx
      refine ⟨R, v, rfl, .lit v, ⟨(fun b o h => by cases h), fun id o ho => ?_, hC.fn, hC.inj⟩, ⟨fun _ _ _ h => h, fun _ _ _ h => .inl h, fun _ _ h => h, Nat.le_refl _, ⟨hB.os, hB.tape, hB.output, hB.size, fun k hk => by omega⟩, fun b o hb _ => stay b o hb⟩⟩
      rcases hC.all id o ho with k | ⟨b, c, x, q1, q2, q3, q4⟩
      · exact .inl k
      · exact .inr ⟨b, c, x, q1, q2, stay b x q3, q4⟩
    · cases h
  · exact hcall _ _ _ _ _ _ _ h R w ys hC hnx hys
end
end Go.Vm
