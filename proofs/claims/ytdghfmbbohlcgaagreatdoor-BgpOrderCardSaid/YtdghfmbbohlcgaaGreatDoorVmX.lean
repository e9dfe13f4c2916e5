/- Regions that draw their order, over values of which not all is known: what writes stands in one order with all that reads. -/
import Derived.Test.YtdghfmbbohlcgaaGreatDoorVmW
set_option linter.unusedVariables false
set_option linter.unusedSimpArgs false
namespace Go.Vm
open Go.RowKit

def allB (ms : List Nat) (i : Nat) : List Nat → Bool
  | [] => true
  | k :: l => match bef ms k i with
    | true => allB ms i l
    | false => false
theorem allB_spec {ms : List Nat} {i : Nat} : ∀ {l : List Nat}, allB ms i l = true → ∀ k ∈ l, bef ms k i = true
  | [], _, k, hk => by cases hk
  | x :: l, h, k, hk => by
    simp only [allB] at h
    split at h
    · rename_i hb
      rcases List.mem_cons.1 hk with rfl | hk
      · exact hb
      · exact allB_spec h k hk
    · cases h
/-- What the notes say of the loud ones and of those that read. -/
structure Marks (tr : List En) (lins rds : List Nat) : Prop where
  lin : ∀ j, isL tr j → j ∈ lins
  rd : ∀ k e, tr[k]? = some e → e.kd = .r → k ∈ rds
section
variable {P : Program} {H : View} {ops : List Oper} {sl0 : PT V} {hp0 : PT Ob} {nx0 : Nat}
/-- The slots said anew. -/
theorem TInv.eq {i n : Nat} {sl sl' : PT V} {pv : Option Nat} {h : PT Ob} {as : List (Nat × Ob)} {hist : List (Nat × PT Ob)} {rds : Rds} {tr : List En} (T : TInv P H ops sl0 hp0 nx0 i sl pv h n as hist rds tr) (he : SlEq sl sl') : TInv P H ops sl0 hp0 nx0 i sl' pv h n as hist rds tr :=
  { T with slots := fun t => (he t).trans (T.slots t) }
theorem TInv.rd (hR : RegOk ops) {i n : Nat} {sl sl' : PT V} {pv : Option Nat} {h : PT Ob} {as : List (Nat × Ob)} {hist : List (Nat × PT Ob)} {rds : Rds} {tr : List En} (T : TInv P H ops sl0 hp0 nx0 i sl pv h n as hist rds tr) {o : Oper} (ho : ops[i]? = some o) {v : V} {nt : Nat} (hput : putD nt sl o.dst v = some sl') (hw : wantV ops sl o = some true)
    (hv : RdOk P H (commit (masks ops []) nx0 i as h) (rhoO sl o) o v) (hall : ∀ j, isL tr j → bef (MS ops) j i = true) : TInv P H ops sl0 hp0 nx0 (Nat.succ i) sl' pv h n as hist ((i, o, sl, v) :: rds) (tr ++ [⟨.r, v, sl⟩]) := by
  have hno : ∀ pv G n h n', (⟨.r, v, sl⟩ : En).kd ≠ .l pv G n h n' := fun _ _ _ _ _ => by simp
  refine T.still hR ho (e := ⟨.r, v, sl⟩) rfl hput hno ?_ (fun k ob => by simp) (fun x hx => by simp [hx]) (fun _ => by simp)
  refine ⟨hw, fun c hc h1 h2 => ?_⟩
  have hc' : Node tr c := fun p hp => isL_same hno (hc p hp)
  have hcp : c = pv := by
    cases hpv : pv with
    | none =>
      cases hcc : c with
      | none => rfl
      | some p =>
        obtain ⟨q, hq, _⟩ := T.last p (hc' p hcc)
        rw [hpv] at hq; cases hq
    | some q =>
      have hq := T.node q hpv
      obtain ⟨p, hp, hle⟩ := h1 q (isL_grow hq) (hall q hq)
      obtain ⟨q', hq', hle'⟩ := T.last p (hc' p hp)
      rw [hpv] at hq'
      simp only [Option.some.injEq] at hq'
      rw [hp]; congr 1; omega
  subst hcp
  refine .inr ⟨fun p hp => by have := isL_lt (hc' p hp); have := T.len; omega, _, hv, fun id ob hg' => ?_⟩
  rw [hAt_old hc', ← T.heq]
  rcases commit_get (nx0 := nx0) (ms := masks ops []) (i := i) as h id with ⟨k, ob', q1, q2, q3, q4⟩ | ⟨_, q2⟩
  · rw [q4] at hg'
    simp only [Option.some.injEq] at hg'; subst hg'
    obtain ⟨q5, q6⟩ := (T.asOk k ob').1 q2
    exact .inr ⟨k, q1, kdAt_grow q5, q3, fun j hj _ => q6 j (isL_same hno hj)⟩
  · rw [q2] at hg'; exact .inl hg'
theorem TInv.ln (hR : RegOk ops) {i n n1 : Nat} {sl sl' : PT V} {pv : Option Nat} {h h1 : PT Ob} {as : List (Nat × Ob)} {hist : List (Nat × PT Ob)} {rds : Rds} {tr : List En} (T : TInv P H ops sl0 hp0 nx0 i sl pv h n as hist rds tr) {o : Oper} (ho : ops[i]? = some o) {v : V} {nt : Nat} (hput : putD nt sl o.dst v = some sl') (hw : wantV ops sl o = some true)
    (hst : LnOk P H (rhoO sl o) n (commit (masks ops []) nx0 i as h) o v n1 h1) (hlb : ∀ j, isL tr j → bef (MS ops) j i = true) (hrb : ∀ k e, tr[k]? = some e → e.kd = .r → bef (MS ops) k i = true) :
    TInv P H ops sl0 hp0 nx0 (Nat.succ i) sl' (some i) h1 n1 (keepA (masks ops []) i as) ((i, h) :: hist) rds (tr ++ [⟨.l pv (commit (masks ops []) nx0 i as h) n h1 n1, v, sl⟩]) := by
  have hlen := T.len
  have hlt := (List.getElem?_eq_some_iff.1 ho).1
  let e : En := ⟨.l pv (commit (masks ops []) nx0 i as h) n h1 n1, v, sl⟩
  have hnew : kdAt (tr ++ [e]) i = some (.l pv (commit (masks ops []) nx0 i as h) n h1 n1) := by
    have := kdAt_new (tr := tr) (e := e)
    rw [hlen] at this
    exact this
  have hlt' : ∀ j, isL (tr ++ [e]) j → j < i → isL tr j := by
    intro j hj hji
    rcases isL_cases hj with hj | ⟨h3, _⟩
    · exact hj
    · omega
  refine T.next hR ho (e := e) rfl hput ?_ ?_ ?_ ?_ ?_ ?_ ?_ ?_ (fun x hx => hx) (fun hr => by cases hr)
  · refine ⟨hw, hst, by rw [nAt_old T.node]; exact T.neq, fun id => ?_, fun p hp => ⟨isL_grow (T.node p hp), by have := isL_lt (T.node p hp); omega⟩, fun j hj hji => T.last j (hlt' j hj hji), fun j hj hji => hlb j (hlt' j hj hji)⟩
    rw [hAt_old T.node, ← T.heq]
    rcases commit_get (nx0 := nx0) (ms := masks ops []) (i := i) as h id with ⟨k, ob', q1, q2, q3, q4⟩ | ⟨q1, q2⟩
    · obtain ⟨q5, q6⟩ := (T.asOk k ob').1 q2
      exact .inl ⟨k, ob', q1, kdAt_grow q5, q3, fun j hj hji => q6 j (hlt' j hj hji), q4⟩
    · refine .inr ⟨fun ⟨k', ob', p1, p2, p3, p4⟩ => q1 ⟨k', ob', p1, (T.asOk k' ob').2 ⟨?_, fun j hj => p4 j (isL_grow hj) (by have := isL_lt hj; omega)⟩, p3⟩, q2⟩
      rcases isA_cases p2 with p2 | ⟨p5, _⟩
      · exact p2
      · have := bef_lt hR hlt p3; omega
  · intro pv2 G2 n2 h2 n2' hk2 k e' o' he' hr' ho' hb
    rw [hrb k e' he' hr'] at hb; cases hb
  · intro p hp
    simp only [Option.some.injEq] at hp; subst hp
    exact ⟨_, _, _, _, _, hnew⟩
  · intro k hk
    refine ⟨i, rfl, ?_⟩
    have := isL_lt hk
    simp only [List.length_append, List.length_cons, List.length_nil] at this
    omega
  · simp only [hAt, hnew]
  · simp only [nAt, hnew]
  · intro k ob
    rw [keepA_mem, T.asOk]
    constructor
    · rintro ⟨⟨q1, q2⟩, q3⟩
      refine ⟨kdAt_grow q1, fun j hj => ?_⟩
      rcases isL_cases hj with hj | ⟨h3, _⟩
      · exact q2 j hj
      · rw [h3, hlen]; exact q3
    · rintro ⟨q1, q2⟩
      rcases isA_cases q1 with q1 | ⟨_, q3⟩
      · exact ⟨⟨q1, fun j hj => q2 j (isL_grow hj)⟩, q2 i ⟨_, _, _, _, _, hnew⟩⟩
      · cases q3
  · have := Chain.cons (hp0 := hp0) hnew (T.chain.grow (e := e))
    rw [hAt_old T.node, ← T.heq] at this
    exact this
end
/-- What an operation of a drawn region comes to. -/
def clsD (P : Program) (pc : Pc) (H : View) (ρ : Rho) (n : Nat) (hp : PT Ob) (o : Oper) : Stp :=
  match callOf ρ o with
  | some (g, args) => match entersB P g with
    | true => match pc g args H hp with
      | some (rd, p, v) => match rd with
        | false => .pure p v
        | true => .lin p v n hp
      | none => .bad
    | false => match evP P ρ o with
      | some v => .pure none v
      | none => .bad
  | none => cls P H ρ n hp o
def vcD (P : Program) (pc : Pc) (H : View) (nt : Nat) (ops : List Oper) (ms : List Nat) (nx0 : Nat) : List Oper → Nat → Dec → PT V → Nat → PT Ob → List (Nat × Ob) → List Nat → List Nat → (PT V → Nat → PT Ob → Prop) → Prop
  | [], i, dec, sl, n, h, as, lins, rds, K => K sl n (commitAll nx0 as h)
  | o :: l, i, dec, sl, n, h, as, lins, rds, K => vcW ops dec sl o fun b dec sl => match b with
    | false => match putD nt sl o.dst (.lit undef) with
      | some sl' => vcD P pc H nt ops ms nx0 l (Nat.succ i) (decPut dec o.dst) sl' n h as lins rds K
      | none => False
    | true => match clsD P pc H (rhoO sl o) n (commit ms nx0 i as h) o with
      | .pure p v => match putD nt sl o.dst v with
        | some sl' => wh p (vcD P pc H nt ops ms nx0 l (Nat.succ i) (decPut dec o.dst) sl' n h as lins rds K)
        | none => False
      | .read p v => match allB ms i lins, putD nt sl o.dst v with
        | true, some sl' => wh p (vcD P pc H nt ops ms nx0 l (Nat.succ i) (decPut dec o.dst) sl' n h as lins (i :: rds) K)
        | _, _ => False
      | .alloc ob f => match putD nt sl o.dst (f (Nat.add nx0 i)) with
        | some sl' => vcD P pc H nt ops ms nx0 l (Nat.succ i) (decPut dec o.dst) sl' n h ((i, ob) :: as) lins rds K
        | none => False
      | .lin p v n' h' => match allB ms i lins, allB ms i rds, putD nt sl o.dst v with
        | true, true, some sl' => wh p (vcD P pc H nt ops ms nx0 l (Nat.succ i) (decPut dec o.dst) sl' n' h' (keepA ms i as) (i :: lins) rds K)
        | _, _, _ => False
      | .bad => False
section
variable {P : Program} {H : View} {pc : Pc} {ops : List Oper} {sl0 : PT V} {hp0 : PT Ob} {nx0 nt : Nat}
theorem Marks.app {tr : List En} {e : En} {lins rds lins' rds' : List Nat} (m : Marks tr lins rds) {i : Nat} (hi : tr.length = i) (h1 : ∀ x ∈ lins, x ∈ lins') (h2 : ∀ x ∈ rds, x ∈ rds') (h3 : (∃ pv G n h n', e.kd = .l pv G n h n') → i ∈ lins') (h4 : e.kd = .r → i ∈ rds') : Marks (tr ++ [e]) lins' rds' := by
  constructor
  · intro j hj
    rcases isL_cases hj with hj | ⟨rfl, k⟩
    · exact h1 _ (m.lin j hj)
    · rw [hi]; exact h3 k
  · intro k e' he' hk
    rcases Nat.lt_or_ge k tr.length with hlt | hge
    · rw [List.getElem?_append_left hlt] at he'
      exact h2 _ (m.rd k e' he' hk)
    · have hlt := (List.getElem?_eq_some_iff.1 he').1
      simp at hlt
      have : k = tr.length := by omega
      subst this
      rw [List.getElem?_append_right (Nat.le_refl _)] at he'
      simp only [Nat.sub_self, List.getElem?_cons_zero, Option.some.injEq] at he'
      subst he'
      rw [hi]; exact h4 hk
theorem clsD_pure (hpc : PcOk P pc) {ρ : Rho} {n : Nat} {h : PT Ob} {o : Oper} {p : Option Prop} {v : V} (hc : clsD P pc H ρ n h o = .pure p v) (hp : hs p) : PureW P H ρ o v := by
  unfold clsD at hc
  split at hc
  · rename_i g args hco
    split at hc
    · rename_i he
      split at hc
      · rename_i rd p' v' hpv
        split at hc
        · simp only [Stp.pure.injEq] at hc
          obtain ⟨rfl, rfl⟩ := hc
          intro R a w K Q hr hA hk
          obtain ⟨ys, hys, hrun⟩ := callOf_run hr hco he
          unfold Oper.wp
          rw [hrun w, Oper.upon_enter]
          refine Calls.mono ((hpc _ _ _ _ _ _ _ hpv hp he).1 rfl R w ys hA hys) ?_
          rintro e w' ⟨y, rfl, hy, hg⟩
          exact hk y w' hy hg
        · cases hc
      · cases hc
    · split at hc
      · rename_i v' hv
        simp only [Stp.pure.injEq] at hc
        obtain ⟨rfl, rfl⟩ := hc
        exact PureOk.toW fun R a hr => evP_ok hr hv
      · cases hc
  · have hok := cls_ok (P := P) (H := H) (ρ := ρ) (nx := n) (hp := h) (o := o)
    rw [hc] at hok
    exact PureOk.toW (hok hp)
theorem clsD_cls (hpc : PcOk P pc) {ρ : Rho} {n : Nat} {h : PT Ob} {o : Oper} {s : Stp} (hc : clsD P pc H ρ n h o = s) (hn : ∀ p v, s ≠ .pure p v) (hb : s ≠ .bad) : StpOk P H ρ n h o s := by
  unfold clsD at hc
  split at hc
  · rename_i g args hco
    split at hc
    · rename_i he
      split at hc
      · rename_i rd p v hpv
        split at hc
        · exact absurd hc.symm (hn _ _)
        · subst hc
          intro hp R a w K Q hr hC hfr hk
          obtain ⟨ys, hys, hrun⟩ := callOf_run hr hco he
          unfold Oper.wp
          rw [hrun w, Oper.upon_enter]
          refine Calls.mono ((hpc _ _ _ _ _ _ _ hpv hp he).2 rfl R w ys n hC hfr hys) ?_
          rintro e w' ⟨y, rfl, hy, hC', hSt⟩
          exact hk R y w' hy hC' hSt
      · exact absurd hc.symm hb
    · split at hc
      · exact absurd hc.symm (hn _ _)
      · exact absurd hc.symm hb
  · have hok := cls_ok (P := P) (H := H) (ρ := ρ) (nx := n) (hp := h) (o := o)
    rw [hc] at hok
    exact hok
theorem vcD_ok (hpc : PcOk P pc) (hR : RegOk ops) : ∀ (l : List Oper) {i n : Nat} {dec : Dec} {sl : PT V} {pv : Option Nat} {h : PT Ob} {as : List (Nat × Ob)} {hist : List (Nat × PT Ob)} {rd : Rds} {tr : List En} {lins rds : List Nat} {K : PT V → Nat → PT Ob → Prop}, ops.drop i = l → i ≤ ops.length → DecOk dec sl → Marks tr lins rds → TInv P H ops sl0 hp0 nx0 i sl pv h n as hist rd tr →
    vcD P pc H nt ops (masks ops []) nx0 l i dec sl n h as lins rds K → ∃ sl' pv' h' n' as' hist' rd' tr', TInv P H ops sl0 hp0 nx0 ops.length sl' pv' h' n' as' hist' rd' tr' ∧ K sl' n' (commitAll nx0 as' h')
  | [], i, n, dec, sl, pv, h, as, hist, rd, tr, lins, rds, K, hd, hi, hdec, M, T, hv => by
    have hl : i = ops.length := by
      have := congrArg List.length hd
      simp at this
      omega
    subst hl
    exact ⟨sl, pv, h, n, as, hist, rd, tr, T, hv⟩
  | o :: l, i, n, dec, sl, pv, h, as, hist, rd, tr, lins, rds, K, hd, hi, hdec, M, T, hv => by
    have ho : ops[i]? = some o := by
      have h1 : (ops.drop i)[0]? = some o := by rw [hd]; rfl
      rw [List.getElem?_drop] at h1
      simpa using h1
    have hlt := (List.getElem?_eq_some_iff.1 ho).1
    have hd' : ops.drop (Nat.succ i) = l := by
      have : ops.drop (i + 1) = (ops.drop i).drop 1 := by rw [List.drop_drop]
      rw [Nat.succ_eq_add_one, this, hd]
      rfl
    have hlen := T.len
    simp only [vcD] at hv
    obtain ⟨b, dec', sl1, hw, he, hdec, hv⟩ := vcW_ok hdec hv
    have T := T.eq he
    cases b with
    | false =>
      simp only at hv
      split at hv
      · rename_i sl2 hput
        exact vcD_ok hpc hR l hd' hlt (decPut_ok hdec hput) (M.app (e := ⟨.q, .lit undef, sl1⟩) hlen (fun _ h => h) (fun _ h => h) (by rintro ⟨_, _, _, _, _, h⟩; cases h) (fun h => by cases h)) (T.still hR ho (e := ⟨.q, .lit undef, sl1⟩) rfl hput (fun _ _ _ _ _ => by simp) (.inl ⟨hw, rfl⟩) (fun k ob => by simp) (fun x hx => hx) (fun hr => by cases hr)) hv
      · exact hv.elim
    | true =>
      simp only at hv
      split at hv
      · rename_i p v hc
        split at hv
        · rename_i sl2 hput
          obtain ⟨hp, hv⟩ := wh_spec hv
          exact vcD_ok hpc hR l hd' hlt (decPut_ok hdec hput) (M.app (e := ⟨.q, v, sl1⟩) hlen (fun _ h => h) (fun _ h => h) (by rintro ⟨_, _, _, _, _, h⟩; cases h) (fun h => by cases h)) (T.still hR ho (e := ⟨.q, v, sl1⟩) rfl hput (fun _ _ _ _ _ => by simp) (.inr ⟨hw, clsD_pure hpc hc hp⟩) (fun k ob => by simp) (fun x hx => hx) (fun hr => by cases hr)) hv
        · exact hv.elim
      · rename_i p v hc
        split at hv
        · rename_i sl2 hall hput
          obtain ⟨hp, hv⟩ := wh_spec hv
          have hok := clsD_cls hpc hc (fun _ _ => by simp) (by simp) hp
          exact vcD_ok hpc hR l hd' hlt (decPut_ok hdec hput) (M.app (e := ⟨.r, v, sl1⟩) hlen (fun _ h => h) (fun _ h => List.mem_cons_of_mem _ h) (by rintro ⟨_, _, _, _, _, h⟩; cases h) (fun _ => by simp)) (T.rd hR ho hput hw hok fun j hj => allB_spec hall j (M.lin j hj)) hv
        · exact hv.elim
      · rename_i ob f hc
        split at hv
        · rename_i sl2 hput
          have hok := clsD_cls hpc hc (fun _ _ => by simp) (by simp)
          refine vcD_ok hpc hR l hd' hlt (decPut_ok hdec hput) (M.app (e := ⟨.a ob, f (nx0 + i), sl1⟩) hlen (fun _ h => h) (fun _ h => h) (by rintro ⟨_, _, _, _, _, h⟩; cases h) (fun h => by cases h)) (T.still hR ho (e := ⟨.a ob, f (nx0 + i), sl1⟩) rfl hput (fun _ _ _ _ _ => by simp) ⟨hw, f, hok, rfl⟩ (fun k ob' => ?_) (fun x hx => hx) (fun hr => by cases hr)) hv
          simp only [List.mem_cons, Prod.mk.injEq, Kd.a.injEq]
          constructor
          · rintro (⟨rfl, rfl⟩ | h)
            · exact .inr ⟨rfl, rfl⟩
            · exact .inl h
          · rintro (h | ⟨rfl, rfl⟩)
            · exact .inr h
            · exact .inl ⟨rfl, rfl⟩
        · exact hv.elim
      · rename_i p v n' h' hc
        split at hv
        · rename_i sl2 hall hrds hput
          obtain ⟨hp, hv⟩ := wh_spec hv
          have hok := clsD_cls hpc hc (fun _ _ => by simp) (by simp) hp
          exact vcD_ok hpc hR l hd' hlt (decPut_ok hdec hput) (M.app hlen (fun _ h => List.mem_cons_of_mem _ h) (fun _ h => h) (fun _ => by simp) (fun h => by cases h)) (T.ln hR ho hput hw hok (fun j hj => allB_spec hall j (M.lin j hj)) fun k e he' hr => allB_spec hrds k (M.rd k e he' hr)) hv
        · exact hv.elim
      · exact hv.elim
theorem W.draw {nb nx : Nat} {hb hp : PT Ob} {sl : PT V} {Q : Post} (hm : P.follows .mixedOrders = true) (hpc : PcOk P pc) {id : Nat} {ops : Array Oper} (hok : (regOk ops.toList && dstsOk nt ops.toList) = true) {K : PT V → Nat → PT Ob → Prop} (h : vcD P pc H nt ops.toList (masks ops.toList []) nx ops.toList 0 [] sl (Nat.add nx ops.toList.length) hp [] [] [] K) (hK : ∀ sl' n' hp', K sl' n' hp' → Q .norm H sl' n' hp') : W P nt nb hb (.region id ops true) H sl nx hp Q := by
  intro Hb Rb wb R a w Q' hfr g k
  rw [Bool.and_eq_true] at hok
  have hR := regOk_spec hok.1
  obtain ⟨sl', pv, h', n', as, hist, rd, tr, T, hq⟩ := vcD_ok (n := nx + ops.toList.length) hpc hR ops.toList (by simp) (Nat.zero_le _) (fun t b h => by cases h) ⟨(fun j hj => by obtain ⟨_, _, _, _, _, h⟩ := hj; simp [kdAt] at h), (fun k e he => by simp at he)⟩ TInv.start h
  have := draw_wp (id := id) hm hR (dstsOk_spec hok.2) T g.ac g.fin.cn g.fin.fresh (Q := Q') fun R' a' w' k1 k2 k3 => k _ _ _ _ _ _ _ _ (hK _ _ _ hq) ⟨k1, Fin.step hfr g.fin (Fin.still g.fin.fresh k2 k3)⟩
  simpa using this
end
end Go.Vm
