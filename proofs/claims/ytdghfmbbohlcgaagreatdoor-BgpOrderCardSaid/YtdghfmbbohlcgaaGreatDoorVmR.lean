/- Bodies with open values: rules over the evaluator's states. -/
import Derived.Test.YtdghfmbbohlcgaaGreatDoorVmQ
set_option linter.unusedVariables false
set_option linter.unusedSimpArgs false
namespace Go.Vm
open Go.RowKit

/-- A state, against the one in which the function began. -/
structure Good (nt : Nat) (Hb : View) (Rb : Rel) (nb : Nat) (hb : PT Ob) (wb : World) (H : View) (R : Rel) (sl : PT V) (nx : Nat) (hp : PT Ob) (a : Act) (w : World) : Prop where
  ac : AcR R sl nt a
  fin : Fin Hb Rb nb hb wb H R nx hp w
abbrev Post := Out → View → PT V → Nat → PT Ob → Prop
abbrev PostL := View → PT V → Nat → PT Ob → Prop
def W (P : Program) (nt nb : Nat) (hb : PT Ob) (c : Code) (H : View) (sl : PT V) (nx : Nat) (hp : PT Ob) (Q : Post) : Prop :=
  ∀ Hb Rb wb R a w Q', (∀ i b c, Rb i b c → i < nb) → Good nt Hb Rb nb hb wb H R sl nx hp a w →
    (∀ o H' sl' nx' hp' R' a' w', Q o H' sl' nx' hp' → Good nt Hb Rb nb hb wb H' R' sl' nx' hp' a' w' → Q' (Out.ex o) a' w') → c.wp P Q' a w
def WL (P : Program) (nt nb : Nat) (hb : PT Ob) (ops l : List Oper) (H : View) (sl : PT V) (nx : Nat) (hp : PT Ob) (K : PostL) : Prop :=
  ∀ Hb Rb wb R a w Q', (∀ i b c, Rb i b c → i < nb) → Good nt Hb Rb nb hb wb H R sl nx hp a w →
    (∀ H' sl' nx' hp' R' a' w', K H' sl' nx' hp' → Good nt Hb Rb nb hb wb H' R' sl' nx' hp' a' w' → Q' .normal a' w') → wpList P ops.toArray Q' l a w
section
variable {P : Program} {nt nb fuel : Nat} {hb : PT Ob} {H : View} {sl : PT V} {nx : Nat} {hp : PT Ob} {Q : Post}
theorem Fin.step {Hb H H' : View} {Rb R R' : Rel} {wb w w' : World} {nx' : Nat} {hp' : PT Ob} (hfr : ∀ i b c, Rb i b c → i < nb) (h : Fin Hb Rb nb hb wb H R nx hp w) (k : Fin H R nx hp w H' R' nx' hp' w') : Fin Hb Rb nb hb wb H' R' nx' hp' w' := by
  refine ⟨k.cn, k.fresh, h.st.trans k.st hfr, fun b o hb => k.le b o (h.le b o hb), fun b o hb' => ?_⟩
  rcases k.hdom b o hb' with q | q | ⟨i, c, o', q1, q2⟩
  · exact h.hdom b o q
  · exact .inr (.inl (Nat.le_trans h.st.below.size q))
  · rcases h.st.dom i b _ q1 with r | ⟨_, _, r⟩
    · cases h0 : hb.get i with
      | some o0 => exact .inr (.inr ⟨i, c, o0, r, h0⟩)
      | none =>
        have := h.st.dead i (hfr _ _ _ r) h0
        rw [this] at q2; cases q2
    · rcases r with r | r
      · cases r
      · exact .inr r
theorem Fin.still {R R' : Rel} {w w' : World} {nx' : Nat} {hp' : PT Ob} (hfr : ∀ i b c, R i b c → i < nx) (hC : Cn H R' hp' w') (hS : St R nx hp w R' nx' hp' w') : Fin H R nx hp w H R' nx' hp' w' :=
  ⟨hC, hS.nxlt hfr, hS, fun _ _ h => h, fun _ _ h => .inl h⟩
theorem W.mono {c : Code} {Q1 : Post} (h : W P nt nb hb c H sl nx hp Q) (hq : ∀ o H' sl' nx' hp', Q o H' sl' nx' hp' → Q1 o H' sl' nx' hp') : W P nt nb hb c H sl nx hp Q1 :=
  fun Hb Rb wb R a w Q' hfr g k => h Hb Rb wb R a w Q' hfr g fun o H' sl' nx' hp' R' a' w' q g' => k o H' sl' nx' hp' R' a' w' (hq _ _ _ _ _ q) g'
/-- A part that the evaluator runs. -/
theorem W.ev (hm : P.follows .mixedOrders = true) {callR : CallR} (hcall : CallOk P H callR) {c : Code} {o : Out} {sl' : PT V} {nx' : Nat} {hp' : PT Ob} (h : evCode P H callR nt fuel c sl nx hp = some (o, sl', nx', hp')) (hq : Q o H sl' nx' hp') : W P nt nb hb c H sl nx hp Q := by
  intro Hb Rb wb R a w Q' hfr g k
  refine evCode_ok hm hcall c _ _ _ _ _ _ _ R a w Q' h g.ac g.fin.cn g.fin.fresh fun R' a' w' k1 k2 k3 => ?_
  exact k _ _ _ _ _ _ _ _ hq ⟨k1, Fin.step hfr g.fin (Fin.still g.fin.fresh k2 k3)⟩
theorem W.skip (h : Q .norm H sl nx hp) : W P nt nb hb .skip H sl nx hp Q := fun _ _ _ _ _ _ _ _ g k => wp_skip (k _ _ _ _ _ _ _ _ h g)
theorem W.exit {i : Nat} (h : Q (.exit i) H sl nx hp) : W P nt nb hb (.exit i) H sl nx hp Q := fun _ _ _ _ _ _ _ _ g k => wp_exit (k _ _ _ _ _ _ _ _ h g)
theorem W.ret (h : Q .ret H sl nx hp) : W P nt nb hb .ret H sl nx hp Q := fun _ _ _ _ _ _ _ _ g k => wp_ret (k _ _ _ _ _ _ _ _ h g)
theorem W.seq {x y : Code} (h : W P nt nb hb x H sl nx hp fun o H' sl' nx' hp' => match o with
    | .norm => W P nt nb hb y H' sl' nx' hp' Q
    | o => Q o H' sl' nx' hp') : W P nt nb hb (.seq x y) H sl nx hp Q := by
  intro Hb Rb wb R a w Q' hfr g k
  refine wp_seq (h Hb Rb wb R a w _ hfr g fun o H' sl' nx' hp' R' a' w' q g' => ?_)
  cases o with
  | norm => exact q Hb Rb wb R' a' w' Q' hfr g' k
  | exit i => exact k _ _ _ _ _ _ _ _ q g'
  | ret => exact k _ _ _ _ _ _ _ _ q g'
theorem W.cond {c : Operand} {x y : Code} {b : Bool} (hc : evO sl c = some (.lit (.bool b))) (hx : b = true → W P nt nb hb x H sl nx hp Q) (hy : b = false → W P nt nb hb y H sl nx hp Q) : W P nt nb hb (.cond c x y) H sl nx hp Q := by
  intro Hb Rb wb R a w Q' hfr g k
  have hv := (g.ac.rho _ _ hc).lit_inv
  cases b with
  | true => exact wp_cond_true hv (hx rfl Hb Rb wb R a w Q' hfr g k)
  | false => exact wp_cond_false hv (hy rfl Hb Rb wb R a w Q' hfr g k)
def inB (id : Nat) (Q : Post) : Post := fun o => match o with
  | .exit i => if i = id then Q .norm else Q (.exit i)
  | o => Q o
theorem W.block {id : Nat} {c : Code} (h : W P nt nb hb c H sl nx hp (inB id Q)) : W P nt nb hb (.block id c) H sl nx hp Q := by
  intro Hb Rb wb R a w Q' hfr g k
  refine wp_block (h Hb Rb wb R a w _ hfr g fun o H' sl' nx' hp' R' a' w' q g' => ?_)
  cases o with
  | norm => exact k _ _ _ _ _ _ _ _ q g'
  | ret => exact k _ _ _ _ _ _ _ _ q g'
  | exit i =>
    simp only [Exit.inBlock, Out.ex]
    simp only [inB] at q
    by_cases hi : i = id
    · rw [if_pos hi] at q ⊢
      exact k _ _ _ _ _ _ _ _ q g'
    · rw [if_neg hi] at q ⊢
      exact k _ _ _ _ _ _ _ _ q g'
theorem W.scope {c : Code} (h : W P nt nb hb c H sl nx hp Q) : W P nt nb hb (.scope c) H sl nx hp Q := by
  intro Hb Rb wb R a w Q' hfr g k
  refine wp_scope_straight (h Hb Rb wb R a w _ hfr g fun o H' sl' nx' hp' R' a' w' q g' => ?_)
  have := k _ _ _ _ _ _ _ _ q g'
  cases o <;> exact this
/-- A loop: a family of states, and how many rounds are left. -/
theorem W.loop {c : Code} {ι : Type} (S : ι → View × PT V × Nat × PT Ob) (μ : ι → Nat) (round : ∀ i, W P nt nb hb c (S i).1 (S i).2.1 (S i).2.2.1 (S i).2.2.2 fun o H' sl' nx' hp' => match o with
    | .norm => ∃ j, μ j < μ i ∧ S j = (H', sl', nx', hp')
    | o => Q o H' sl' nx' hp') (i : ι) : W P nt nb hb (.loop c) (S i).1 (S i).2.1 (S i).2.2.1 (S i).2.2.2 Q := by
  intro Hb Rb wb R a w Q' hfr g k
  refine wp_loop_rounds (μ i + 1) ?_
  generalize hn : μ i = n
  induction n using Nat.strongRecOn generalizing i R a w with
  | _ n ih =>
    rw [rounds_succ]
    refine round i Hb Rb wb R a w _ hfr g fun o H' sl' nx' hp' R' a' w' q g' => ?_
    cases o with
    | norm =>
      obtain ⟨j, h1, h2⟩ := q
      have h3 := ih (μ j) (by omega) j R' a' w' (by rw [h2]; exact g') rfl
      have mono : ∀ m n a w, m ≤ n → Code.rounds P c Q' m a w → Code.rounds P c Q' n a w := by
        intro m
        induction m with
        | zero => intro n a w _ h; exact h.elim
        | succ m ihm =>
          intro n a w hmn h
          obtain ⟨n', rfl⟩ : ∃ n', n = n' + 1 := ⟨n - 1, by omega⟩
          rw [rounds_succ] at h ⊢
          refine wp_mono h fun e a w he => ?_
          cases e with
          | normal => exact ihm n' a w (by omega) he
          | _ => exact he
      exact mono _ _ _ _ (by omega) h3
    | exit i => exact k _ _ _ _ _ _ _ _ q g'
    | ret => exact k _ _ _ _ _ _ _ _ q g'
/-- Less is known. -/
theorem W.less {c : Code} {sl0 : PT V} {hp0 : PT Ob} (h : W P nt nb hb c H sl0 nx hp0 Q) (hs : ∀ t v, sl0.get t = some v → sl.get t = some v) (ho : ∀ i o, hp0.get i = some o → hp.get i = some o) : W P nt nb hb c H sl nx hp Q := by
  intro Hb Rb wb R a w Q' hfr g k
  refine h Hb Rb wb R a w Q' hfr ⟨g.ac.less hs, g.fin.cn.less ho, g.fin.fresh, g.fin.st.fewer ho, g.fin.le, g.fin.hdom⟩ k
/-! ### operations -/
section
variable {ops l : List Oper} {K : PostL}
theorem WL.nil (h : K H sl nx hp) : WL P nt nb hb ops [] H sl nx hp K := fun _ _ _ _ _ _ _ _ g k => k _ _ _ _ _ _ _ h g
theorem AcR.want {R : Rel} {a : Act} (ha : AcR R sl nt a) {o : Oper} {b : Bool} (hb : wantV ops sl o = some b) : Region.wanted o (yielded ops.toArray a.tmps) = b := wantV_ok (fun _ _ _ t v _ _ _ hv => ha.slots t v hv) hb
theorem WL.step {callR : CallR} (hcall : CallOk P H callR) {o : Oper} {v : V} {sl' : PT V} {nx' : Nat} {hp' : PT Ob} (hw : wantV ops sl o = some true) (h : stepV P H callR (evO sl) nx hp o = some (v, nx', hp')) (hput : putD nt sl o.dst v = some sl') (k : WL P nt nb hb ops l H sl' nx' hp' K) : WL P nt nb hb ops (o :: l) H sl nx hp K := by
  intro Hb Rb wb R a w Q' hfr g kk
  refine wpList_step fun K' hK => ?_
  rw [g.ac.want hw, if_pos rfl]
  refine stepV_wp hcall g.ac.rho g.fin.cn g.fin.fresh h fun R' y w' hy hC' hSt => hK _ _ ?_
  exact k Hb Rb wb R' _ w' Q' hfr ⟨(g.ac.mono hSt.grow).putD hy hput, Fin.step hfr g.fin (Fin.still g.fin.fresh hC' hSt)⟩ kk
/-- An operation that leaves the memory alone, by a law of its own. -/
theorem WL.val {o : Oper} {v : V} {sl' : PT V} (hw : wantV ops sl o = some true) (hrun : ∀ (R : Rel) (a : Act) (w : World), RhoR R (evO sl) a → ∃ y, VR R v y ∧ (execOp a.eval o).run P w = .ok (.value y) w) (hput : putD nt sl o.dst v = some sl') (k : WL P nt nb hb ops l H sl' nx hp K) : WL P nt nb hb ops (o :: l) H sl nx hp K := by
  intro Hb Rb wb R a w Q' hfr g kk
  refine wpList_step fun K' hK => ?_
  rw [g.ac.want hw, if_pos rfl]
  obtain ⟨y, hy, hr⟩ := hrun R a w g.ac.rho
  unfold Oper.wp
  rw [hr, Oper.upon_value]
  exact hK _ _ (k Hb Rb wb R _ w Q' hfr ⟨g.ac.putD hy hput, g.fin⟩ kk)
theorem WL.off {o : Oper} {sl' : PT V} (hw : wantV ops sl o = some false) (hput : putD nt sl o.dst (.lit undef) = some sl') (k : WL P nt nb hb ops l H sl' nx hp K) : WL P nt nb hb ops (o :: l) H sl nx hp K := by
  intro Hb Rb wb R a w Q' hfr g kk
  refine wpList_step fun K' hK => ?_
  rw [g.ac.want hw, if_neg (by simp)]
  exact hK _ _ (k Hb Rb wb R _ w Q' hfr ⟨g.ac.putD (.lit undef) hput, g.fin⟩ kk)
theorem WL.call {o : Oper} {g : FuncId} {args : List V} {Qc : View → V → Nat → PT Ob → Prop} (hw : wantV ops sl o = some true) (hco : callOf (evO sl) o = some (g, args)) (he : entersB P g = true) (hc : Con P g H args nx hp Qc)
    (k : ∀ H' v n' hp', Qc H' v n' hp' → ∃ sl', putD nt sl o.dst v = some sl' ∧ WL P nt nb hb ops l H' sl' n' hp' K) : WL P nt nb hb ops (o :: l) H sl nx hp K := by
  intro Hb Rb wb R a w Q' hfr gd kk
  refine wpList_step fun K' hK => ?_
  rw [gd.ac.want hw, if_pos rfl]
  obtain ⟨ys, hys, hrun⟩ := callOf_run gd.ac.rho hco he
  unfold Oper.wp
  rw [hrun w, Oper.upon_enter]
  refine Calls.mono (hc R w ys gd.fin.cn gd.fin.fresh hys) ?_
  rintro e w' ⟨H', R', v, y, n', hp', rfl, hv, F, hq⟩
  obtain ⟨sl', hput, hk⟩ := k _ _ _ _ hq
  exact hK _ _ (hk Hb Rb wb R' _ w' Q' hfr ⟨(gd.ac.mono F.st.grow).putD hv hput, Fin.step hfr gd.fin F⟩ kk)
theorem W.region {id : Nat} {ops : Array Oper} (h : WL P nt nb hb ops.toList ops.toList H sl nx hp fun H' sl' nx' hp' => Q .norm H' sl' nx' hp') : W P nt nb hb (.region id ops false) H sl nx hp Q := by
  intro Hb Rb wb R a w Q' hfr g k
  have := wp_region_lit (id := id) (h Hb Rb wb R a w Q' hfr g fun H' sl' nx' hp' R' a' w' q g' => k _ _ _ _ _ _ _ _ q g')
  simpa using this
end
/-! ### a function's contract out of its body -/
theorem Con.of {g : FuncId} {fn : Func} {c : Code} (hf : P.funcs[g]? = some fn) (hbd : fn.body = some c) {args : List V} {k : Nat} {hp0 : PT Ob} (hle : args.length ≤ fn.ntmps) {Qc : View → V → Nat → PT Ob → Prop}
    (h : W P fn.ntmps k hp0 c H (slotsOf args 0 .nil) k hp0 fun o H' sl' n' hp' => (o = .ret ∨ o = .norm) ∧ ∃ vs, resV P H' hp' sl' fn.results.toList = some vs ∧ Qc H' (retV vs) n' hp') : Con P g H args k hp0 Qc := by
  intro R w ys hC hfr hys
  refine calls_of_wp hf hbd ?_
  have hlen := hys.length
  refine h H R w R _ w _ hfr ⟨⟨⟨?_, ?_⟩, rfl⟩, hC, hfr, St.refl _ _ _ _, fun _ _ h => h, fun _ _ h => .inl h⟩ fun o H' sl' n' hp' R' a' w' q g' => ?_
  · simp only [Array.size_append, List.size_toArray, Array.size_replicate]; omega
  · intro t u hu
    rcases slotsOf_get hu with ⟨i, h1, h2⟩ | h1
    · obtain ⟨y, h3, h4⟩ := hys.get h1
      rw [Array.getD_eq_getD_getElem?]
      have hlt := (List.getElem?_eq_some_iff.1 h3).1
      rw [Array.getElem?_append_left (by simp; omega)]
      rw [h2]
      simp only [Nat.zero_add, List.getElem?_toArray, h3, Option.getD_some]
      exact h4
    · cases h1
  · obtain ⟨ho, vs, hvs, hq⟩ := q
    obtain ⟨y, hy, hrun⟩ := results_ok g'.fin.cn g'.ac hvs
    rcases ho with rfl | rfl
    · exact ⟨g'.ac.nodef, y, hrun, H', R', _, y, n', hp', rfl, hy, g'.fin, hq⟩
    · exact ⟨g'.ac.nodef, y, hrun, H', R', _, y, n', hp', rfl, hy, g'.fin, hq⟩
/-- What was proved of a closed callee, as a contract. -/
theorem Con.closed {f : FuncId} {v : Value} (hf : ∀ w, Calls P f #[] w fun e w' => e = .returned v ∧ Below w.heap.size w w') : Con P f H [] nx hp fun H' u n' hp' => H' = H ∧ u = .lit v ∧ n' = nx ∧ hp' = hp := by
  intro R w ys hC hfr hys
  cases hys
  refine Calls.mono (hf w) ?_
  rintro e w' ⟨rfl, hB⟩
  have stay : ∀ b x, w.heap[b]? = some x → w'.heap[b]? = some x := fun b x hx => by rw [hB.block b (lt_of_some hx)]; exact hx
  refine ⟨H, R, .lit v, v, nx, hp, rfl, .lit v, ⟨⟨fun b o h => stay b o (hC.agree b o h), fun id o ho => ?_, hC.fn, hC.inj⟩, hfr, ⟨fun _ _ _ h => h, fun _ _ _ h => .inl h, fun _ _ h => h, Nat.le_refl _, ⟨hB.os, hB.tape, hB.output, hB.size, fun k hk => by omega⟩, fun b o hb _ => stay b o hb⟩, fun _ _ h => h, fun _ _ h => .inl h⟩, rfl, rfl, rfl, rfl⟩
  rcases hC.all id o ho with k | ⟨b, c, x, q1, q2, q3, q4⟩
  · exact .inl k
  · exact .inr ⟨b, c, x, q1, q2, stay b x q3, q4⟩
/-- A contract that the evaluator gives. -/
theorem Con.ev (hm : P.follows .mixedOrders = true) {n : Nat} {g : FuncId} {args : List V} {v : V} {n' : Nat} {hp' : PT Ob} (h : evCall P H fuel n g args nx hp = some (v, n', hp')) : Con P g H args nx hp fun H' u m hq => H' = H ∧ u = v ∧ m = n' ∧ hq = hp' := by
  intro R w ys hC hfr hys
  refine Calls.mono (evCall_ok hm n g args nx hp v n' hp' h R w ys hC hfr hys) ?_
  rintro e w' ⟨R', y, rfl, h1, h2, h3⟩
  exact ⟨H, R', v, y, n', hp', rfl, h1, Fin.still hfr h2 h3, rfl, rfl, rfl, rfl⟩
theorem Con.mono {g : FuncId} {args : List V} {Q1 Q2 : View → V → Nat → PT Ob → Prop} (h : Con P g H args nx hp Q1) (hq : ∀ H' v n' hp', Q1 H' v n' hp' → Q2 H' v n' hp') : Con P g H args nx hp Q2 := by
  intro R w ys hC hfr hys
  refine Calls.mono (h R w ys hC hfr hys) ?_
  rintro e w' ⟨H', R', v, y, n', hp', h0, h1, h2, h3⟩
  exact ⟨H', R', v, y, n', hp', h0, h1, h2, hq _ _ _ _ h3⟩
end
end Go.Vm
