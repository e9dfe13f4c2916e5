/- Regions, in the text's order and in whatever order is drawn, over values of which not all is known. -/
import Derived.Test.YtdghfmbbohlcgaaGreatDoorVmV
set_option linter.unusedVariables false
set_option linter.unusedSimpArgs false
namespace Go.Vm
open Go.RowKit

abbrev KV := View → V → Nat → PT Ob → Prop
abbrev KO := Out → View → PT V → Nat → PT Ob → Prop
/-- Calls that leave nothing in the memory: whether they read one's own memory; what they come to. -/
abbrev Pc := FuncId → List V → View → PT Ob → Option (Bool × Option Prop × V)
/-- Calls: what must hold for them to come to an end that is wanted. -/
abbrev Ct := FuncId → List V → View → Nat → PT Ob → KV → Option Prop
/-- What a function comes to that leaves nothing. -/
def PcFn (P : Program) (g : FuncId) (H : View) (args : List V) (v : V) : Prop := ∀ (R : Rel) (w : World) (ys : List Value), Agree w H → VRs R args ys → Calls P g ys.toArray w fun e w' => ∃ y, e = .returned y ∧ VR R v y ∧ Grows w w'
/-- What a function comes to that reads the memory and leaves it as it was. -/
def RcFn (P : Program) (g : FuncId) (H : View) (hp : PT Ob) (args : List V) (v : V) : Prop := ∀ (R : Rel) (w : World) (ys : List Value) (n : Nat), Cn H R hp w → (∀ i b c, R i b c → i < n) → VRs R args ys → Calls P g ys.toArray w fun e w' => ∃ y, e = .returned y ∧ VR R v y ∧ Cn H R hp w' ∧ St R n hp w R n hp w'
def PcOk (P : Program) (pc : Pc) : Prop := ∀ g args H hp rd p v, pc g args H hp = some (rd, p, v) → hs p → entersB P g = true → (rd = false → PcFn P g H args v) ∧ (rd = true → RcFn P g H hp args v)
def CtOk (P : Program) (ct : Ct) : Prop := ∀ g args H nx hp K p, ct g args H nx hp K = some p → p → entersB P g = true → Con P g H args nx hp K
abbrev Dec := List (Nat × Bool)
def decOf (t : Nat) : Dec → Option Bool
  | [] => none
  | (k, b) :: l => match Nat.beq k t with
    | true => some b
    | false => decOf t l
def DecOk (dec : Dec) (sl : PT V) : Prop := ∀ t b, decOf t dec = some b → sl.get t = some (.lit (.bool b))
def xorB : Bool → Bool → Bool
  | true, b => b
  | false, true => false
  | false, false => true
/-- The one, or the other: where the truth is known one of both is let go. -/
def bifP (b : Bool) (T F : Prop) : Prop := @Bool.rec (fun _ => Prop) F T b
theorem bifP_eq {b : Bool} {T F : Prop} : bifP b T F = ((b = true → T) ∧ (b = false → F)) := by
  cases b <;> simp [bifP]
/-- Is an operation wanted? Its guard is decided once. -/
def vcW (ops : List Oper) (dec : Dec) (sl : PT V) (o : Oper) (K : Bool → Dec → PT V → Prop) : Prop :=
  match o.guard with
  | none => K true dec sl
  | some (j, want) => match ops[j]? with
    | some oj => match oj.dst with
      | some t => match decOf t dec with
        | some b => K (xorB want b) dec sl
        | none => match sl.get t with
          | some (.lit (.bool b)) => bifP b (K want ((t, true) :: dec) (sl.put t (some (.lit (.bool true))))) (K (!want) ((t, false) :: dec) (sl.put t (some (.lit (.bool false)))))
          | some (.lit (.tuple _)) => K false dec sl
          | _ => False
      | none => False
    | none => False
/-- The same slots, said anew. -/
def SlEq (sl sl' : PT V) : Prop := ∀ t, sl'.get t = sl.get t
theorem SlEq.put {sl : PT V} {t : Nat} {v : V} (h : sl.get t = some v) : SlEq sl (sl.put t (some v)) := by
  intro k
  rw [PT.get_put]
  split
  · rename_i e; rw [e, h]
  · rfl
theorem decOf_cons {t : Nat} {b : Bool} {dec : Dec} {k : Nat} {c : Bool} (h : decOf k ((t, b) :: dec) = some c) : (k = t ∧ c = b) ∨ decOf k dec = some c := by
  simp only [decOf] at h
  split at h
  · rename_i hb
    simp only [Option.some.injEq] at h
    exact .inl ⟨(Nat.eq_of_beq_eq_true hb).symm, h.symm⟩
  · exact .inr h
theorem vcW_ok {ops : List Oper} {dec : Dec} {sl : PT V} {o : Oper} {K : Bool → Dec → PT V → Prop} (hd : DecOk dec sl) (h : vcW ops dec sl o K) : ∃ b dec' sl', wantV ops sl' o = some b ∧ SlEq sl sl' ∧ DecOk dec' sl' ∧ K b dec' sl' := by
  unfold vcW at h
  split at h
  · rename_i hg
    exact ⟨true, dec, sl, by unfold wantV; rw [hg], fun _ => rfl, hd, h⟩
  · rename_i j want hg
    split at h
    · rename_i oj hj
      split at h
      · rename_i t ht
        split at h
        · rename_i b hb
          have hv := hd t b hb
          refine ⟨xorB want b, dec, sl, ?_, fun _ => rfl, hd, h⟩
          unfold wantV
          rw [hg]
          simp only [hj, ht, hv]
          cases want <;> cases b <;> rfl
        · split at h
          · rename_i b hv
            cases b with
            | true =>
              refine ⟨want, (t, true) :: dec, _, ?_, SlEq.put hv, fun k c hk => ?_, h⟩
              · unfold wantV
                rw [hg]
                simp only [hj, ht, PT.get_put, if_true]
              · rw [PT.get_put]
                rcases decOf_cons hk with ⟨rfl, rfl⟩ | hk2
                · rw [if_pos rfl]
                · split
                  · rename_i e; subst e; rw [hd _ _ hk2] at hv; exact hv ▸ rfl
                  · exact hd _ _ hk2
            | false =>
              refine ⟨!want, (t, false) :: dec, _, ?_, SlEq.put hv, fun k c hk => ?_, h⟩
              · unfold wantV
                rw [hg]
                simp only [hj, ht, PT.get_put, if_true]
              · rw [PT.get_put]
                rcases decOf_cons hk with ⟨rfl, rfl⟩ | hk2
                · rw [if_pos rfl]
                · split
                  · rename_i e; subst e; rw [hd _ _ hk2] at hv; exact hv ▸ rfl
                  · exact hd _ _ hk2
          · rename_i q hv
            exact ⟨false, dec, sl, by unfold wantV; rw [hg]; simp only [hj, ht, hv], fun _ => rfl, hd, h⟩
          · exact h.elim
      · exact h.elim
    · exact h.elim
/-- An operation's slot is written: what was decided of it is forgotten. -/
def decPut (dec : Dec) : Option Nat → Dec
  | none => dec
  | some t => match decOf t dec with
    | none => dec
    | some _ => []
theorem decPut_ok {nt : Nat} {dec : Dec} {sl sl' : PT V} {dst : Option Nat} {v : V} (hd : DecOk dec sl) (h : putD nt sl dst v = some sl') : DecOk (decPut dec dst) sl' := by
  intro k c hk
  unfold putD at h
  cases dst with
  | none => simp only [Option.some.injEq] at h; subst h; exact hd k c hk
  | some d =>
    simp only at h
    split at h
    · simp only [Option.some.injEq] at h; subst h
      unfold decPut at hk
      simp only at hk
      split at hk
      · rename_i hn
        rw [PT.get_put]
        split
        · rename_i e; subst e; rw [hk] at hn; cases hn
        · exact hd k c hk
      · cases hk
    · cases h
/-! ### is it nil? -/
def nilOp (op : BinOp) (n : Nat) : Option (Bool × Nat) := match op with
  | .eql => some (true, n)
  | .neq => some (false, n)
  | _ => none
def nilU (ρ : Rho) (o : Oper) : Option (Bool × Nat) :=
  match o.op with
  | .binOp op t x y _ => match ρ x, ρ y with
    | some (.xs _ _ _ _ n _ _), some (.lit (.slice none _ _)) => nilOp op n
    | some (.osl _ _ _ n), some (.lit (.slice none _ _)) => nilOp op n
    | _, _ => none
  | _ => none
def isSl (P : Program) (o : Oper) : Bool := match o.op with
  | .binOp _ t _ _ _ => match P.underlying t with
    | some (.slice _) => true
    | _ => false
  | _ => false
section
variable {P : Program} {H : View} {ρ : Rho} {o : Oper}
theorem nileq_none {t e : TypeId} (h : P.underlying t = some (.slice e)) (n c n' c' : Nat) (w : World) : (Op.equal t (.slice none n c) (.slice none n' c')).run P w = .ok true w := by
  have : ∀ d, (Op.equalIn (d + 1) t (.slice none n c) (.slice none n' c')).run P w = .ok true w := fun d => by simp [Op.equalIn, run_underlying h]
  exact this 9999
theorem nilU_ok {e : Bool} {n : Nat} (h : nilU ρ o = some (e, n)) (hsl : isSl P o = true) (R : Rel) (a : Act) (hr : RhoR R ρ a) : ∃ b : Bool, (b = e → n = 0) ∧ ∀ w, (execOp a.eval o).run P w = .ok (.value (.bool b)) w := by
  unfold nilU at h
  unfold isSl at hsl
  split at h
  · rename_i op t x y yt ho
    rw [ho] at hsl
    simp only at hsl
    split at hsl
    · rename_i el hu
      have fin : ∀ {p : Option Addr} {nn cc : Nat} {n' c' : Nat} {q : V}, a.eval x = .slice p nn cc → (p = none → nn = 0) → a.eval y = .slice none n' c' → nilOp op nn = some (e, n) → ∃ b : Bool, (b = e → n = 0) ∧ ∀ w, (execOp a.eval o).run P w = .ok (.value (.bool b)) w := by
        intro p nn cc n' c' q hx hp hy hh
        have hop : (op = .eql ∧ e = true ∧ nn = n) ∨ (op = .neq ∧ e = false ∧ nn = n) := by cases op <;> simp [nilOp] at hh <;> simp [hh.1, hh.2]
        cases p with
        | none =>
          have hn := hp rfl
          rcases hop with ⟨rfl, rfl, rfl⟩ | ⟨rfl, rfl, rfl⟩
          · exact ⟨true, fun _ => hn, fun w => by simp only [execOp, ho, hx, hy]; rw [Sem.run_bind, (run_eqOp x y w (nileq_none hu _ _ _ _) (.inr (.inl ⟨_, _, _, rfl⟩)) (by intro k n e; cases e)).1]; rfl⟩
          · exact ⟨false, fun _ => hn, fun w => by simp only [execOp, ho, hx, hy]; rw [Sem.run_bind, (run_eqOp x y w (nileq_none hu _ _ _ _) (.inr (.inl ⟨_, _, _, rfl⟩)) (by intro k n e; cases e)).2]; rfl⟩
        | some ad =>
          rcases hop with ⟨rfl, rfl, rfl⟩ | ⟨rfl, rfl, rfl⟩
          · exact ⟨false, (fun e => by cases e), fun w => by simp only [execOp, ho, hx, hy]; rw [Sem.run_bind, (run_eqOp x y w (nileq_sl hu _ _ _ _ _) (.inr (.inl ⟨_, _, _, rfl⟩)) (by intro k n e; cases e)).1]; rfl⟩
          · exact ⟨true, (fun e => by cases e), fun w => by simp only [execOp, ho, hx, hy]; rw [Sem.run_bind, (run_eqOp x y w (nileq_sl hu _ _ _ _ _) (.inr (.inl ⟨_, _, _, rfl⟩)) (by intro k n e; cases e)).2]; rfl⟩
      split at h
      · rename_i b o' i z nn c f nl nc hx hy
        have hv := hr _ _ hx
        have hw := (hr _ _ hy).lit_inv
        generalize hxx : a.eval x = xx at hv
        cases hv with
        | xs _ _ _ _ _ hn hp =>
          refine fin (q := .lit undef) hxx (fun e => ?_) hw h
          subst e
          rcases Nat.eq_zero_or_pos c with hc | hc
          · omega
          · cases hp (by omega)
      · rename_i id i z nn nl nc hx hy
        have hv := hr _ _ hx
        have hw := (hr _ _ hy).lit_inv
        generalize hxx : a.eval x = xx at hv
        cases hv with
        | osl0 _ _ => exact fin (q := .lit undef) hxx (fun _ => rfl) hw h
        | @osl _ b cq _ _ _ pa hR hn hp =>
          refine fin (q := .lit undef) hxx (fun e => ?_) hw h
          subst e
          rcases Nat.lt_or_ge i cq with hc | hc
          · cases hp hc
          · omega
      · cases h
    · cases hsl
  · cases h
end
/-! ### the text's order -/
def vcOp (P : Program) (pc : Pc) (ct : Ct) (ρ : Rho) (H : View) (nx : Nat) (hp : PT Ob) (o : Oper) (K : KV) : Prop :=
  match callOf ρ o with
  | some (g, args) => match entersB P g with
    | true => match pc g args H hp with
      | some (_, p, v) => wh p (K H v nx hp)
      | none => match ct g args H nx hp K with
        | some q => q
        | none => False
    | false => match evP P ρ o with
      | some v => K H v nx hp
      | none => False
  | none => match nilU ρ o with
    | some (e, n) => match isSl P o with
      | true => (n = 0 → K H (.lit (.bool e)) nx hp) ∧ K H (.lit (.bool (!e))) nx hp
      | false => False
    | none => match cls P H ρ nx hp o with
      | .pure p v => wh p (K H v nx hp)
      | .read p v => wh p (K H v nx hp)
      | .alloc ob f => K H (f nx) (Nat.succ nx) (hp.put nx (some ob))
      | .lin p v n' h' => wh p (K H v n' h')
      | .bad => False
def vcOps (P : Program) (pc : Pc) (ct : Ct) (nt : Nat) (ops : List Oper) : List Oper → Dec → View → PT V → Nat → PT Ob → (View → PT V → Nat → PT Ob → Prop) → Prop
  | [], _, H, sl, nx, hp, K => K H sl nx hp
  | o :: l, dec, H, sl, nx, hp, K => vcW ops dec sl o fun b dec sl => match b with
    | true => vcOp P pc ct (evO sl) H nx hp o fun H' v nx' hp' => match putD nt sl o.dst v with
      | some sl' => vcOps P pc ct nt ops l (decPut dec o.dst) H' sl' nx' hp' K
      | none => False
    | false => match putD nt sl o.dst (.lit undef) with
      | some sl' => vcOps P pc ct nt ops l (decPut dec o.dst) H sl' nx hp K
      | none => False
section
variable {P : Program} {H : View} {nt nb nx : Nat} {hb hp : PT Ob} {sl : PT V} {ops l : List Oper} {K : PostL}
theorem AcR.eq {R : Rel} {sl sl' : PT V} {a : Act} (h : AcR R sl nt a) (he : SlEq sl sl') : AcR R sl' nt a := ⟨⟨h.size, fun t v hv => h.slots t v (by rw [← he t]; exact hv)⟩, h.nodef⟩
theorem WL.eq {sl' : PT V} (he : SlEq sl sl') (h : WL P nt nb hb ops l H sl' nx hp K) : WL P nt nb hb ops l H sl nx hp K :=
  fun Hb Rb wb R a w Q' hfr g kk => h Hb Rb wb R a w Q' hfr ⟨g.ac.eq he, g.fin⟩ kk
theorem Grows.cn {R : Rel} {hp : PT Ob} {w w' : World} (h : Cn H R hp w) (hg : Grows w w') : Cn H R hp w' :=
  ⟨fun b o hb => hg.1 _ _ (h.agree b o hb), fun id o ho => (h.all id o ho).imp (fun k => k) fun ⟨b, c, x, h1, h2, h3, h4⟩ => ⟨b, c, x, h1, h2, hg.1 _ _ h3, h4⟩, h.fn, h.inj⟩
theorem Grows.fin {R : Rel} {hp : PT Ob} {w w' : World} (h : Cn H R hp w) (hfr : ∀ i b c, R i b c → i < nx) (hg : Grows w w') : Fin H R nx hp w H R nx hp w' :=
  ⟨hg.cn h, hfr, ⟨fun _ _ _ h => h, fun _ _ _ h => .inl h, fun _ _ h => h, Nat.le_refl _, hg.2, fun b o hb _ => hg.1 _ _ hb⟩, fun _ _ h => h, fun _ _ h => .inl h⟩
/-- The rule for one operation, by its meaning. -/
theorem WL.by {o : Oper} (hw : wantV ops sl o = some true)
    (h : ∀ (R : Rel) (a : Act) (w : World) (K' : Act → World → Prop) (Q : Exit → Act → World → Prop), RhoR R (evO sl) a → Cn H R hp w → (∀ i b c, R i b c → i < nx) →
      (∀ H' R' v y n' h' w' sl', VR R' v y → Fin H R nx hp w H' R' n' h' w' → putD nt sl o.dst v = some sl' → WL P nt nb hb ops l H' sl' n' h' K → K' (a.put o.dst y) w') → o.wp P a w K' Q) : WL P nt nb hb ops (o :: l) H sl nx hp K := by
  intro Hb Rb wb R a w Q' hfr g kk
  refine wpList_step fun K' hK => ?_
  rw [g.ac.want hw, if_pos rfl]
  refine h R a w K' _ g.ac.rho g.fin.cn g.fin.fresh fun H' R' v y n' h' w' sl' hv F hput hk => hK _ _ ?_
  exact hk Hb Rb wb R' _ w' Q' hfr ⟨(g.ac.mono F.st.grow).putD hv hput, Fin.step hfr g.fin F⟩ kk
theorem vcOps_ok {pc : Pc} {ct : Ct} (hpc : PcOk P pc) (hct : CtOk P ct) : ∀ (l : List Oper) {dec : Dec} {H : View} {sl : PT V} {nx : Nat} {hp : PT Ob} {K : View → PT V → Nat → PT Ob → Prop}, DecOk dec sl → vcOps P pc ct nt ops l dec H sl nx hp K → WL P nt nb hb ops l H sl nx hp K
  | [], dec, H, sl, nx, hp, K, hd, h => WL.nil h
  | o :: l, dec, H, sl, nx, hp, K, hd, h => by
    simp only [vcOps] at h
    obtain ⟨b, dec', sl1, hw, he, hd, h⟩ := vcW_ok hd h
    refine WL.eq he ?_
    cases b with
    | false =>
      simp only at h
      split at h
      · rename_i sl' hput
        exact WL.off hw hput (vcOps_ok hpc hct l (decPut_ok hd hput) h)
      · exact h.elim
    | true =>
      simp only at h
      unfold vcOp at h
      -- what follows, behind a value
      have next : ∀ {H' : View} {v : V} {n' : Nat} {h' : PT Ob}, (match putD nt sl1 o.dst v with
          | some sl' => vcOps P pc ct nt ops l (decPut dec' o.dst) H' sl' n' h' K
          | none => False) → ∃ sl', putD nt sl1 o.dst v = some sl' ∧ WL P nt nb hb ops l H' sl' n' h' K := by
        intro H' v n' h' h
        split at h
        · rename_i sl' hput
          exact ⟨sl', hput, vcOps_ok hpc hct l (decPut_ok hd hput) h⟩
        · exact h.elim
      split at h
      · rename_i g args hco
        split at h
        · rename_i he
          split at h
          · rename_i rd p v hpv
            obtain ⟨hp1, h⟩ := wh_spec h
            obtain ⟨sl', hput, hk⟩ := next h
            refine WL.by hw fun R a w K' Q hr hC hfr kk => ?_
            obtain ⟨ys, hys, hrun⟩ := callOf_run hr hco he
            unfold Oper.wp
            rw [hrun w, Oper.upon_enter]
            have hcall := hpc _ _ _ _ _ _ _ hpv hp1 he
            cases rd with
            | false =>
              refine Calls.mono (hcall.1 rfl R w ys hC.agree hys) ?_
              rintro e w' ⟨y, rfl, hy, hg⟩
              exact kk _ _ _ _ _ _ _ _ hy (hg.fin hC hfr) hput hk
            | true =>
              refine Calls.mono (hcall.2 rfl R w ys nx hC hfr hys) ?_
              rintro e w' ⟨y, rfl, hy, hC', hSt⟩
              exact kk _ _ _ _ _ _ _ _ hy (Fin.still hfr hC' hSt) hput hk
          · split at h
            · rename_i q hq
              have hc := hct _ _ _ _ _ _ _ hq h he
              refine WL.call hw hco he hc fun H' v n' hp' h => next h
            · exact h.elim
        · rename_i he
          split at h
          · rename_i v hv
            obtain ⟨sl', hput, hk⟩ := next h
            refine WL.val hw (fun R a w hr => ?_) hput hk
            obtain ⟨y, h1, h2⟩ := evP_ok hr hv
            exact ⟨y, h1, h2 w⟩
          · exact h.elim
      · split at h
        · rename_i e n hnil
          split at h
          · rename_i hsl
            obtain ⟨ha, hb'⟩ := h
            obtain ⟨sl', hput, hk⟩ := next hb'
            refine WL.by hw fun R a w K' Q hr hC hfr kk => ?_
            obtain ⟨b, h1, h2⟩ := nilU_ok hnil hsl R a hr
            unfold Oper.wp
            rw [h2 w, Oper.upon_value]
            have F : Fin H R nx hp w H R nx hp w := Grows.fin hC hfr ⟨fun _ _ h => h, Below.refl _ _⟩
            by_cases hbe : b = e
            · subst hbe
              obtain ⟨sl2, hput2, hk2⟩ := next (ha (h1 rfl))
              exact kk _ _ _ _ _ _ _ _ (.lit _) F hput2 hk2
            · have : b = !e := by cases b <;> cases e <;> simp_all
              subst this
              exact kk _ _ _ _ _ _ _ _ (.lit _) F hput hk
          · exact h.elim
        · have hok := cls_ok (P := P) (H := H) (ρ := evO sl1) (nx := nx) (hp := hp) (o := o)
          split at h
          · rename_i p v hc
            rw [hc] at hok
            obtain ⟨hp1, h⟩ := wh_spec h
            obtain ⟨sl', hput, hk⟩ := next h
            refine WL.val hw (fun R a w hr => ?_) hput hk
            obtain ⟨y, h1, h2⟩ := hok hp1 R a hr
            exact ⟨y, h1, h2 w⟩
          · rename_i p v hc
            rw [hc] at hok
            obtain ⟨hp1, h⟩ := wh_spec h
            obtain ⟨sl', hput, hk⟩ := next h
            refine WL.by hw fun R a w K' Q hr hC hfr kk => ?_
            obtain ⟨y, h1, h2⟩ := hok hp1 R a w hr hC
            unfold Oper.wp
            rw [h2, Oper.upon_value]
            exact kk _ _ _ _ _ _ _ _ h1 (Grows.fin hC hfr ⟨fun _ _ h => h, Below.refl _ _⟩) hput hk
          · rename_i ob f hc
            rw [hc] at hok
            obtain ⟨sl', hput, hk⟩ := next h
            refine WL.by hw fun R a w K' Q hr hC hfr kk => ?_
            obtain ⟨x, c, g, hx, hrun, hf⟩ := hok R a hr
            obtain ⟨r1, r2⟩ := newOb hC hfr (hC.dead hfr (Nat.le_refl _)) hx
            unfold Oper.wp
            rw [hrun w, Oper.upon_value]
            exact kk _ _ _ _ _ _ _ _ (hf nx (addR R nx w.heap.size (some c)) w.heap.size (.inr ⟨rfl, rfl, rfl⟩)) (Fin.still hfr r1 r2) hput hk
          · rename_i p v n' h' hc
            rw [hc] at hok
            obtain ⟨hp1, h⟩ := wh_spec h
            obtain ⟨sl', hput, hk⟩ := next h
            refine WL.by hw fun R a w K' Q hr hC hfr kk => ?_
            exact hok hp1 R a w K' _ hr hC hfr fun R' y w' hy hC' hSt => kk _ _ _ _ _ _ _ _ hy (Fin.still hfr hC' hSt) hput hk
          · exact h.elim
end
end Go.Vm
