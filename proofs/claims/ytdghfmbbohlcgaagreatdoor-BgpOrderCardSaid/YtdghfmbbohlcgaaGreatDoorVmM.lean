/- Regions that draw their order: whatever order comes, what is noted down comes to be. -/
import Derived.Test.YtdghfmbbohlcgaaGreatDoorVmL
set_option linter.unusedVariables false
set_option linter.unusedSimpArgs false
namespace Go.Vm
open Go.RowKit

section
variable (P : Program) (H : View) (ops : List Oper) (sl0 : PT V) (hp0 : PT Ob) (nx0 nt : Nat) (tr : List En) (R0 : Rel) (w0 : World)
/-- The memory, when these have come up. -/
def gM (E : Nat → Prop) (c : Option Nat) : Mem := fun id o => (hAt hp0 tr c).get id = some o ∨ ∃ k, id = nx0 + k ∧ E k ∧ isA tr k o ∧ ∀ j, isL tr j → E j → bef (MS ops) k j = false
structure RInv (E : Nat → Prop) (c : Option Nat) (R : Rel) (a : Act) (w : World) : Prop where
  closed : ∀ k o e, E k → ops[k]? = some o → e ∈ o.after → Region.binds .any e = true → E e.on
  sub : ∀ k, E k → k < ops.length
  cnode : ∀ p, c = some p → isL tr p ∧ E p
  clast : ∀ k, isL tr k → E k → ∃ p, c = some p ∧ k ≤ p
  size : a.tmps.size = nt
  nodef : a.defers = []
  done : ∀ k o d e, E k → ops[k]? = some o → o.dst = some d → tr[k]? = some e → VR R e.v (a.tmps.getD d undef)
  rest : ∀ t v, (∀ k o, E k → ops[k]? = some o → o.dst ≠ some t) → sl0.get t = some v → VR R v (a.tmps.getD t undef)
  cn : CnR H R (gM ops hp0 nx0 tr E c) w
  st : StR R0 nx0 hp0.mem w0 R (nAt (nx0 + ops.length) tr c) (gM ops hp0 nx0 tr E c) w
  res : ∀ k b cc, k < ops.length → R (nx0 + k) b cc → E k
  d1 : ∀ k, k < ops.length → (¬ ∃ ob, isA tr k ob ∧ ∃ j, isL tr j ∧ E j ∧ bef (MS ops) k j = true) → (hAt hp0 tr c).get (nx0 + k) = none
  nle : nx0 + ops.length ≤ nAt (nx0 + ops.length) tr c
end
section
variable {P : Program} {H : View} {callR : CallR} {ops : List Oper} {sl0 : PT V} {hp0 : PT Ob} {nx0 nt : Nat} {tr : List En} {R0 : Rel} {w0 : World}
theorem tmpsOf_mem {t : Nat} : ∀ {l : List Operand}, t ∈ tmpsOf l ↔ Operand.tmp t ∈ l
  | [] => by simp [tmpsOf]
  | x :: l => by
    cases x <;> simp [tmpsOf, tmpsOf_mem (l := l)]
theorem rho_ok {R : Rel} {sl : PT V} {o : Oper} {a : Act} (h : ∀ t ∈ looksV ops o, ∀ v, sl.get t = some v → VR R v (a.tmps.getD t undef)) : RhoR R (rhoO sl o) a := by
  intro x v hx
  cases x with
  | tmp t =>
    simp only [rhoO] at hx
    split at hx
    · rename_i hm
      exact h t (List.mem_append_left _ (memN_mem hm)) v hx
    · cases hx
  | const x => simp only [rhoO, Option.some.injEq] at hx; subst hx; exact .lit _
  | func f => simp only [rhoO, Option.some.injEq] at hx; subst hx; exact .fn f .nil .nil
  | global g => simp only [rhoO, Option.some.injEq] at hx; subst hx; exact .lit _
theorem want_ok {R : Rel} {sl : PT V} {o : Oper} {a : Act} (h : ∀ t ∈ looksV ops o, ∀ v, sl.get t = some v → VR R v (a.tmps.getD t undef)) {b : Bool} (hw : wantV ops sl o = some b) : Region.wanted o (yielded ops.toArray a.tmps) = b := by
  refine wantV_ok (fun j want oj t v hg hj ht hv => h t ?_ v hv) hw
  unfold looksV
  rw [hg]
  simp only [hj, ht]
  simp
/-- The slots that an operation looks at, when it may come up. -/
theorem RInv.looks (hR : RegOk ops) {E : Nat → Prop} {c : Option Nat} {R : Rel} {a : Act} {w : World} (I : RInv H ops sl0 hp0 nx0 nt tr R0 w0 E c R a w) {k : Nat} {o : Oper} (ho : ops[k]? = some o) (hk : ¬ E k) (hrdy : ∀ e ∈ o.after, Region.binds .any e = true → E e.on) (hlen : tr.length = ops.length) {sl : PT V} (hs : ∀ t, sl.get t = slotAt ops sl0 tr k t) :
    ∀ t ∈ looksV ops o, ∀ v, sl.get t = some v → VR R v (a.tmps.getD t undef) := by
  intro t ht v hv
  rw [hs] at hv
  unfold slotAt at hv
  split at hv
  · rename_i j hj
    obtain ⟨-, o', ho', hd'⟩ := dstIx_some hj
    simp only [Nat.sub_zero] at ho'
    have hrd := hR.rd k o t j o' ho ht ho' hd'
    split at hv
    · rename_i hlt
      obtain ⟨e, he, rfl⟩ := Option.map_eq_some_iff.1 hv
      rcases hrd with ⟨_, ed, h1, h2, h3⟩ | h1 | ⟨h1, _⟩
      · exact I.done j o' t e (h3 ▸ hrdy ed h1 h2) ho' hd' he
      · omega
      · omega
    · rename_i hge
      refine I.rest t v (fun k' o2 hE ho2 hd2 => ?_) hv
      have := hR.uniq k' j o2 o' t ho2 ho' hd2 hd'
      subst this
      rcases hrd with ⟨h1, _⟩ | h1 | ⟨h1, ed, h2, h3, h4⟩
      · omega
      · subst h1; exact hk hE
      · exact hk (h4 ▸ I.closed _ _ ed hE ho' h2 h3)
  · rename_i hj
    refine I.rest t v (fun k' o2 hE ho2 hd2 => ?_) hv
    obtain ⟨i, hi⟩ := dstIx_mem (k := 0) ho2 hd2
    rw [hj] at hi
    cases hi
/-- The slots behind an operation. -/
theorem RInv.put (hR : RegOk ops) (hdst : ∀ (k : Nat) (o : Oper) (d : Nat), ops[k]? = some o → o.dst = some d → d < nt) {E : Nat → Prop} {c : Option Nat} {R R' : Rel} {a : Act} {w : World} (I : RInv H ops sl0 hp0 nx0 nt tr R0 w0 E c R a w) {k : Nat} {o : Oper} (ho : ops[k]? = some o) (hk : ¬ E k) {e : En} (he : tr[k]? = some e) {y : Value} (hy : VR R' e.v y) (hg : ∀ i b c, R i b c → R' i b c) :
    (a.put o.dst y).tmps.size = nt ∧ (a.put o.dst y).defers = [] ∧ (∀ k' o' d e', (E k' ∨ k' = k) → ops[k']? = some o' → o'.dst = some d → tr[k']? = some e' → VR R' e'.v ((a.put o.dst y).tmps.getD d undef)) ∧
      (∀ t v, (∀ k' o', (E k' ∨ k' = k) → ops[k']? = some o' → o'.dst ≠ some t) → sl0.get t = some v → VR R' v ((a.put o.dst y).tmps.getD t undef)) := by
  have hput : ∀ t, o.dst ≠ some t → (a.put o.dst y).tmps.getD t undef = a.tmps.getD t undef := by
    intro t ht
    cases hd : o.dst with
    | none => rfl
    | some d =>
      simp only [Act.put, Array.getD_eq_getD_getElem?]
      rw [Array.getElem?_setIfInBounds_ne (fun e => ht (by rw [hd, e]))]
  refine ⟨?_, ?_, ?_, ?_⟩
  · cases hd : o.dst <;> simp [Act.put, I.size]
  · cases hd : o.dst <;> exact I.nodef
  · rintro k' o' d e' (h | rfl) ho' hd' he'
    · rw [hput d (fun hd => by
        have := hR.uniq _ _ _ _ _ ho ho' hd hd'
        subst this
        exact hk h)]
      exact (I.done k' o' d e' h ho' hd' he').mono hg
    · rw [ho] at ho'; cases ho'
      rw [he] at he'; cases he'
      have hlt := hdst _ _ _ ho hd'
      rw [hd']
      have hs := I.size
      simp only [Act.put, Array.getD_eq_getD_getElem?]
      rw [Array.getElem?_setIfInBounds_self_of_lt (by omega)]
      exact hy
  · intro t v hno hv
    rw [hput t (hno k o (.inr rfl) ho)]
    exact (I.rest t v (fun k' o' hE => hno k' o' (.inl hE)) hv).mono hg
theorem kd_of {k : Nat} {e : En} (he : tr[k]? = some e) : kdAt tr k = some e.kd := by unfold kdAt; rw [he]; rfl
theorem gM_still {E : Nat → Prop} {c : Option Nat} {k : Nat} {e : En} (he : tr[k]? = some e) (h1 : ∀ ob, e.kd ≠ .a ob) (h2 : ¬ isL tr k) : gM ops hp0 nx0 tr (fun j => E j ∨ j = k) c = gM ops hp0 nx0 tr E c := by
  funext id o
  apply propext
  constructor
  · rintro (h | ⟨k', q1, q2, q3, q4⟩)
    · exact .inl h
    · rcases q2 with q2 | rfl
      · exact .inr ⟨k', q1, q2, q3, fun j hj hE => q4 j hj (.inl hE)⟩
      · have := kd_of he
        unfold isA at q3
        rw [this] at q3
        simp only [Option.some.injEq] at q3
        exact absurd q3 (h1 _)
  · rintro (h | ⟨k', q1, q2, q3, q4⟩)
    · exact .inl h
    · refine .inr ⟨k', q1, .inl q2, q3, fun j hj hE => ?_⟩
      rcases hE with hE | rfl
      · exact q4 j hj hE
      · exact absurd hj h2
/-- One operation comes up. -/
theorem rstep (hR : RegOk ops) (hdst : ∀ (k : Nat) (o : Oper) (d : Nat), ops[k]? = some o → o.dst = some d → d < nt) {sl' : PT V} {pv : Option Nat} {hh : PT Ob} {n : Nat} {as : List (Nat × Ob)} {hist : List (Nat × PT Ob)} {rds : Rds}
    (T : TInv P H ops sl0 hp0 nx0 ops.length sl' pv hh n as hist rds tr) (hR0 : ∀ i b c, R0 i b c → i < nx0) {E : Nat → Prop} {c : Option Nat} {R : Rel} {a : Act} {w : World} (I : RInv H ops sl0 hp0 nx0 nt tr R0 w0 E c R a w)
    {k : Nat} {o : Oper} (ho : ops[k]? = some o) (hk : ¬ E k) (hrdy : ∀ e ∈ o.after, Region.binds .any e = true → E e.on) {K : Act → World → Prop} {Q : Exit → Act → World → Prop} (hK : ∀ c' R' a' w', RInv H ops sl0 hp0 nx0 nt tr R0 w0 (fun j => E j ∨ j = k) c' R' a' w' → K a' w') :
    wpOp P ops.toArray Q k K a w := by
  have hlt := (List.getElem?_eq_some_iff.1 ho).1
  have hlen := T.len
  obtain ⟨e, he⟩ : ∃ e, tr[k]? = some e := ⟨_, List.getElem?_eq_getElem (by omega)⟩
  obtain ⟨hsl, hkd⟩ := T.ents k e o he ho
  have hlooks := I.looks hR ho hk hrdy hlen hsl
  have hrho := rho_ok hlooks
  have closed' : ∀ k' o' ed, (E k' ∨ k' = k) → ops[k']? = some o' → ed ∈ o'.after → Region.binds .any ed = true → (E ed.on ∨ ed.on = k) := by
    rintro k' o' ed (h | rfl) ho' h1 h2
    · exact .inl (I.closed k' o' ed h ho' h1 h2)
    · rw [ho] at ho'; cases ho'
      exact .inl (hrdy ed h1 h2)
  have sub' : ∀ k', (E k' ∨ k' = k) → k' < ops.length := by
    rintro k' (h | rfl)
    · exact I.sub k' h
    · exact hlt
  have befE : ∀ i, bef (MS ops) i k = true → E i := bef_closed hR I.closed k o ho hrdy
  have hfresh : ∀ i b cc, R i b cc → i < nAt (nx0 + ops.length) tr c := by
    intro i b cc hr
    have := I.nle
    rcases I.st.dom i b cc hr with h | ⟨_, h, _⟩
    · have := hR0 _ _ _ h; omega
    · exact h
  -- an operation that leaves the memory alone
  have still : ∀ y w', Grows w w' → VR R e.v y → (∀ ob, e.kd ≠ .a ob) → (¬ isL tr k) → K (a.put o.dst y) w' := by
    intro y w' hgr hy h1 h2
    obtain ⟨p1, p2, p3, p4⟩ := I.put hR hdst ho hk he hy (fun _ _ _ h => h)
    have hg := gM_still (ops := ops) (hp0 := hp0) (nx0 := nx0) (E := E) (c := c) he h1 h2
    refine hK c R _ w' ⟨closed', sub', fun p hp => ⟨(I.cnode p hp).1, .inl (I.cnode p hp).2⟩, ?_, p1, p2, p3, p4, by rw [hg]; exact I.cn.grows hgr, by rw [hg]; exact I.st.grows hgr, fun k' b cc hk' hr => .inl (I.res k' b cc hk' hr), ?_, I.nle⟩
    · rintro k' hl (hE | rfl)
      · exact I.clast k' hl hE
      · exact absurd hl h2
    · intro k' hk' hno
      refine I.d1 k' hk' fun ⟨ob, q1, j, q2, q3, q4⟩ => hno ⟨ob, q1, j, q2, .inl q3, q4⟩
  unfold wpOp
  simp only [List.getElem?_toArray, ho]
  cases hkind : e.kd with
  | q =>
    rw [hkind] at hkd
    have hnl : ¬ isL tr k := fun ⟨_, _, _, _, _, h⟩ => by rw [kd_of he, hkind] at h; cases h
    rcases hkd with ⟨h1, h2⟩ | ⟨h1, h2⟩
    · rw [want_ok hlooks h1, if_neg (by simp)]
      exact still undef w ⟨fun _ _ h => h, Below.refl _ _⟩ (by rw [h2]; exact .lit _) (fun ob => by rw [hkind]; simp) hnl
    · rw [want_ok hlooks h1, if_pos rfl]
      exact .inl (h2 _ _ _ _ _ hrho I.cn.agree fun y w' hy hgr => still y w' hgr hy (fun ob => by rw [hkind]; simp) hnl)
  | r =>
    rw [hkind] at hkd
    have hnl : ¬ isL tr k := fun ⟨_, _, _, _, _, h⟩ => by rw [kd_of he, hkind] at h; cases h
    obtain ⟨h1, h2⟩ := hkd
    rw [want_ok hlooks h1, if_pos rfl]
    refine .inl ?_
    have hgo : ∃ W, RdOk P H W (rhoO e.sl o) o e.v ∧ ∀ id ob, W.get id = some ob → gM ops hp0 nx0 tr E c id ob := by
      rcases h2 c (fun p hp => (I.cnode p hp).1) (fun j hj hb => I.clast j hj (befE j hb)) (fun p hp => by
        cases hb : bef (MS ops) k p with
        | false => rfl
        | true =>
          obtain ⟨q1, q2⟩ := I.cnode p hp
          have hpo : ops[p]? = some (ops[p]'(I.sub p q2)) := List.getElem?_eq_getElem _
          exact absurd (bef_closed hR I.closed p _ hpo (fun ed h3 h4 => I.closed p _ ed q2 hpo h3 h4) k hb) hk) with h3 | ⟨h3, W, h4, h5⟩
      · exact ⟨_, h3, fun id ob hw => .inl hw⟩
      · refine ⟨W, h4, fun id ob hw => ?_⟩
        rcases h5 id ob hw with h6 | ⟨k', q1, q2, q3, q4⟩
        · exact .inl h6
        · refine .inr ⟨k', q1, befE k' q3, q2, fun j hj hE => ?_⟩
          obtain ⟨p, hp, hle⟩ := I.clast j hj hE
          exact q4 j hj (by have := h3 p hp; omega)
    obtain ⟨W, hW, hsub⟩ := hgo
    obtain ⟨y, hy, hrun⟩ := hW _ _ _ hrho (I.cn.sub hsub)
    unfold Oper.wp
    rw [hrun, Oper.upon_value]
    exact still y w ⟨fun _ _ h => h, Below.refl _ _⟩ hy (fun ob => by rw [hkind]; simp) hnl
  | a ob =>
    rw [hkind] at hkd
    have hnl : ¬ isL tr k := fun ⟨_, _, _, _, _, h⟩ => by rw [kd_of he, hkind] at h; cases h
    obtain ⟨h1, f, h2, h3⟩ := hkd
    rw [want_ok hlooks h1, if_pos rfl]
    refine .inl ?_
    obtain ⟨x, cc, g, hx, hrun, hf⟩ := h2 _ _ hrho
    have hno : ∀ j, isL tr j → E j → bef (MS ops) k j = false := by
      intro j hj hE
      cases hb : bef (MS ops) k j with
      | false => rfl
      | true =>
        have hjo : ops[j]? = some (ops[j]'(I.sub j hE)) := List.getElem?_eq_getElem _
        exact absurd (bef_closed hR I.closed j _ hjo (fun ed h3 h4 => I.closed j _ ed hE hjo h3 h4) k hb) hk
    have hgno : ∀ ob', ¬ gM ops hp0 nx0 tr E c (nx0 + k) ob' := by
      rintro ob' (h | ⟨k', q1, q2, _⟩)
      · rw [I.d1 k hlt (fun ⟨_, _, j, q2, q3, q4⟩ => by rw [hno j q2 q3] at q4; cases q4)] at h
        cases h
      · have : k' = k := by omega
        subst this
        exact hk q2
    have hnle := I.nle
    obtain ⟨r1, r2⟩ := newR I.cn (fun b c' hr => hk (I.res k b c' hlt hr)) hgno cc hx (Nat.le_add_right nx0 k) (show nx0 + k < nAt (nx0 + ops.length) tr c by omega)
    unfold Oper.wp
    rw [hrun w, Oper.upon_value]
    have hy : VR (addR R (nx0 + k) w.heap.size cc) e.v (g w.heap.size) := by rw [h3]; exact hf _ _ _ (.inr ⟨rfl, rfl, rfl⟩)
    obtain ⟨p1, p2, p3, p4⟩ := I.put hR hdst ho hk he hy r2.grow
    have hg : gM ops hp0 nx0 tr (fun j => E j ∨ j = k) c = fun i o' => gM ops hp0 nx0 tr E c i o' ∨ (i = nx0 + k ∧ o' = ob) := by
      funext id o'
      apply propext
      constructor
      · rintro (h | ⟨k', q1, q2, q3, q4⟩)
        · exact .inl (.inl h)
        · rcases q2 with q2 | rfl
          · exact .inl (.inr ⟨k', q1, q2, q3, fun j hj hE => q4 j hj (.inl hE)⟩)
          · unfold isA at q3
            rw [kd_of he, hkind] at q3
            simp only [Option.some.injEq, Kd.a.injEq] at q3
            exact .inr ⟨q1, q3.symm⟩
      · rintro ((h | ⟨k', q1, q2, q3, q4⟩) | ⟨rfl, rfl⟩)
        · exact .inl h
        · refine .inr ⟨k', q1, .inl q2, q3, fun j hj hE => ?_⟩
          rcases hE with hE | rfl
          · exact q4 j hj hE
          · exact absurd hj hnl
        · refine .inr ⟨k, rfl, .inr rfl, by unfold isA; rw [kd_of he, hkind], fun j hj hE => ?_⟩
          rcases hE with hE | rfl
          · exact hno j hj hE
          · exact absurd hj hnl
    refine hK c _ _ _ ⟨closed', sub', fun p hp => ⟨(I.cnode p hp).1, .inl (I.cnode p hp).2⟩, ?_, p1, p2, p3, p4, by rw [hg]; exact r1, by rw [hg]; exact I.st.trans r2 hR0 (Nat.le_refl _), ?_, ?_, I.nle⟩
    · rintro k' hl (hE | rfl)
      · exact I.clast k' hl hE
      · exact absurd hl hnl
    · rintro k' b c' hk' (hr | ⟨hr, _⟩)
      · exact .inl (I.res k' b c' hk' hr)
      · exact .inr (by omega)
    · intro k' hk' hno'
      refine I.d1 k' hk' fun ⟨ob', q1, j, q2, q3, q4⟩ => hno' ⟨ob', q1, j, q2, .inl q3, q4⟩
  | l pv' G n0 h' n' =>
    rw [hkind] at hkd
    have hL : isL tr k := ⟨_, _, _, _, _, (kd_of he).trans (by rw [hkind])⟩
    obtain ⟨h1, h2, h3, h4, h5, h6, h7⟩ := hkd
    rw [want_ok hlooks h1, if_pos rfl]
    refine .inl ?_
    -- those that have come up are ahead
    have ahead : ∀ j, isL tr j → E j → j < k := by
      intro j hj hE
      rcases Nat.lt_trichotomy j k with hlt' | heq | hgt
      · exact hlt'
      · subst heq; exact absurd hE hk
      · exfalso
        obtain ⟨a1, a2, a3, a4, a5, hkj⟩ := hj
        obtain ⟨ej, oj, hej, _, hoj, _, hkdj⟩ := T.kd (Nat.le_refl _) hkj
        have hb := hkdj.2.2.2.2.2.2 k hL hgt
        exact hk (bef_closed hR I.closed j oj hoj (fun ed q1 q2 => I.closed j oj ed hE hoj q1 q2) k hb)
    have hpc : pv' = c := by
      cases hc : c with
      | none =>
        cases hp : pv' with
        | none => rfl
        | some p =>
          obtain ⟨q1, q2⟩ := h5 p hp
          obtain ⟨p', q3, _⟩ := I.clast p q1 (befE p (h7 p q1 q2))
          rw [hc] at q3; cases q3
      | some p0 =>
        obtain ⟨q1, q2⟩ := I.cnode p0 hc
        obtain ⟨p, q3, q4⟩ := h6 p0 q1 (ahead p0 q1 q2)
        obtain ⟨q5, q6⟩ := h5 p q3
        obtain ⟨p', q7, q8⟩ := I.clast p q5 (befE p (h7 p q5 q6))
        rw [hc] at q7
        simp only [Option.some.injEq] at q7
        rw [q3]
        congr 1
        omega
    subst hpc
    have hsub : ∀ id ob, G.get id = some ob → gM ops hp0 nx0 tr E pv' id ob := by
      intro id ob hg
      rcases h4 id with ⟨k', ob', q1, q2, q3, q4, q5⟩ | ⟨_, q2⟩
      · rw [q5] at hg
        simp only [Option.some.injEq] at hg; subst hg
        exact .inr ⟨k', q1, befE k' q3, q2, fun j hj hE => q4 j hj (ahead j hj hE)⟩
      · rw [q2] at hg; exact .inl hg
    have hCn := I.cn.sub hsub
    rw [h3] at h2
    refine h2 _ _ _ _ _ hrho hCn hfresh fun R' y w' hy hC' hSt => ?_
    let hid : Mem := fun id o' => ∃ k', id = nx0 + k' ∧ E k' ∧ isA tr k' o' ∧ (∀ j, isL tr j → E j → bef (MS ops) k' j = false) ∧ bef (MS ops) k' k = false
    have un : ∀ k', E k' → (∀ j, isL tr j → E j → bef (MS ops) k' j = false) → (hAt hp0 tr pv').get (nx0 + k') = none := by
      intro k' hE hu
      refine I.d1 k' (I.sub k' hE) fun ⟨_, _, j, q2, q3, q4⟩ => ?_
      rw [hu j q2 q3] at q4; cases q4
    obtain ⟨r1, r2⟩ := frameR (hid := hid) I.cn hsub hC' hSt hfresh (fun id o' ⟨k', q1, q2, q3, q4, _⟩ => .inr ⟨k', q1, q2, q3, q4⟩) (by
      rintro id o' ⟨k', rfl, q2, q3, q4, q5⟩
      rcases h4 (nx0 + k') with ⟨k2, ob2, p1, p2, p3, p4, p5⟩ | ⟨_, p2⟩
      · have : k2 = k' := by omega
        subst this
        rw [q5] at p3; cases p3
      · rw [p2]; exact un k' q2 q4) (by
      rintro id o' (h | ⟨k', rfl, q2, q3, q4⟩)
      · rcases h4 id with ⟨k2, ob2, rfl, p2, p3, p4, p5⟩ | ⟨_, p2⟩
        · rw [un k2 (befE k2 p3) (fun j hj hE => p4 j hj (ahead j hj hE))] at h; cases h
        · rw [← p2] at h; exact .inl h
      · cases hb : bef (MS ops) k' k with
        | false => exact .inr ⟨k', rfl, q2, q3, q4, hb⟩
        | true =>
          refine .inl ?_
          rcases h4 (nx0 + k') with ⟨k2, ob2, p1, p2, p3, p4, p5⟩ | ⟨p1, _⟩
          · have : k2 = k' := by omega
            subst this
            unfold isA at p2 q3
            rw [q3] at p2
            simp only [Option.some.injEq, Kd.a.injEq] at p2
            rw [p5, p2]
          · refine absurd ⟨k', o', rfl, q3, hb, fun j hj hjk => ?_⟩ p1
            exact q4 j hj (befE j (h7 j hj hjk)))
    have hkk : kdAt tr k = some (.l pv' G n0 h' n') := (kd_of he).trans (by rw [hkind])
    have hg : gM ops hp0 nx0 tr (fun j => E j ∨ j = k) (some k) = fun id o' => h'.get id = some o' ∨ hid id o' := by
      funext id o'
      apply propext
      have hh' : hAt hp0 tr (some k) = h' := by simp only [hAt, hkk]
      constructor
      · rintro (h | ⟨k', q1, q2, q3, q4⟩)
        · rw [hh'] at h; exact .inl h
        · rcases q2 with q2 | rfl
          · exact .inr ⟨k', q1, q2, q3, fun j hj hE => q4 j hj (.inl hE), q4 k hL (.inr rfl)⟩
          · unfold isA at q3
            rw [hkk] at q3; cases q3
      · rintro (h | ⟨k', q1, q2, q3, q4, q5⟩)
        · refine .inl ?_
          rw [hh']; exact h
        · refine .inr ⟨k', q1, .inl q2, q3, fun j hj hE => ?_⟩
          rcases hE with hE | rfl
          · exact q4 j hj hE
          · exact q5
    have hnn : nAt (nx0 + ops.length) tr (some k) = n' := by simp only [nAt, hkk]
    have hnle := I.nle
    have hle := hSt.le
    obtain ⟨p1, p2, p3, p4⟩ := I.put hR hdst ho hk he hy hSt.grow
    refine hK (some k) R' _ w' ⟨closed', sub', fun p hp => by simp only [Option.some.injEq] at hp; subst hp; exact ⟨hL, .inr rfl⟩, ?_, p1, p2, p3, p4, by rw [hg]; exact r1, ?_, ?_, ?_, ?_⟩
    · rintro k' hl (hE | rfl)
      · exact ⟨k, rfl, Nat.le_of_lt (ahead k' hl hE)⟩
      · exact ⟨k', rfl, Nat.le_refl _⟩
    · rw [hg, hnn]
      exact I.st.trans (r2.base (by omega)) hR0 hle
    · intro k' b cc hk' hr
      rcases hSt.dom _ _ _ hr with hr | ⟨hr, _⟩
      · exact .inl (I.res k' b cc hk' hr)
      · omega
    · intro k' hk' hno
      simp only [hAt, hkk]
      refine hSt.dead _ (by omega) ?_
      rcases h4 (nx0 + k') with ⟨k2, ob2, q1, q2, q3, q4, q5⟩ | ⟨q1, q2⟩
      · have : k2 = k' := by omega
        subst this
        exact absurd ⟨ob2, q2, k, hL, .inr rfl, q3⟩ hno
      · rw [q2]
        exact I.d1 k' hk' fun ⟨ob', p1, j, p2, p3, p4⟩ => hno ⟨ob', p1, j, p2, .inl p3, p4⟩
    · rw [hnn]; omega
end
end Go.Vm
