/- Regions that draw their order: the notes are kept true. -/
import Derived.Test.YtdghfmbbohlcgaaGreatDoorVmK
set_option linter.unusedVariables false
set_option linter.unusedSimpArgs false
namespace Go.Vm
open Go.RowKit

section
variable {P : Program} {H : View} {callR : CallR} {R : Rel} {n n' : Nat} {G h' : PT Ob} {w : World} {ρ : Rho} {a : Act} {o : Oper} {v : V}
theorem stepL_wp (hcall : CallOk P H callR) (hr : RhoR R ρ a) (hC : Cn H R G w) (hnx : ∀ i b c, R i b c → i < n) (h : stepL P H callR ρ n G o = some (v, n', h')) {K : Act → World → Prop} {Q : Exit → Act → World → Prop}
    (hk : ∀ R' y w', VR R' v y → Cn H R' h' w' → St R n G w R' n' h' w' → K (a.put o.dst y) w') : o.wp P a w K Q := by
  unfold stepL at h
  split at h
  · rename_i g args hco
    split at h
    · rename_i he
      obtain ⟨ys, hys, hrun⟩ := callOf_run hr hco he
      unfold Oper.wp
      rw [hrun w, Oper.upon_enter]
      refine Calls.mono (hcall _ _ _ _ _ _ _ h R w ys hC hnx hys) ?_
      rintro e w' ⟨R', y, rfl, h1, h2, h3⟩
      exact hk R' y w' h1 h2 h3
    · cases h
  · obtain ⟨R', m, y, w', hrun, hn, hy, h1, h2⟩ := evW_ok hr hC hnx (hC.dead hnx (Nat.le_refl _)) h
    unfold Oper.wp
    rw [hrun]
    rcases hn with rfl | ⟨rfl, rfl⟩
    · rw [Oper.upon_value]; exact hk R' y w' hy h1 h2
    · rw [Oper.upon_skip]; exact hk R' undef w' hy h1 h2
theorem stepL_ln (hcall : CallOk P H callR) (h : stepL P H callR ρ n G o = some (v, n', h')) : LnOk P H ρ n G o v n' h' :=
  fun _ _ _ _ _ hr hC hnx hk => stepL_wp hcall hr hC hnx h hk
theorem evR_rd {hp : PT Ob} (h : evR P H hp ρ o = some v) : RdOk P H hp ρ o v := fun _ _ _ hr hC => evR_ok hr hC h
end
section
variable {P : Program} {H : View} {callR : CallR} {ops : List Oper} {sl0 : PT V} {hp0 : PT Ob} {nx0 : Nat}
theorem TInv.start : TInv P H ops sl0 hp0 nx0 0 sl0 none hp0 (nx0 + ops.length) [] [] [] [] := by
  refine ⟨rfl, fun t => ?_, fun k e o h => by simp at h, fun p hp => (by cases hp), ?_, rfl, rfl, ?_, .nil, fun k e h => by simp at h⟩
  · unfold slotAt
    split
    · simp
    · rfl
  · rintro k ⟨_, _, _, _, _, h⟩; simp [kdAt] at h
  · intro k ob
    simp [isA, kdAt]
theorem TInv.kd {i n : Nat} {sl : PT V} {pv : Option Nat} {h : PT Ob} {as : List (Nat × Ob)} {hist : List (Nat × PT Ob)} {rds : Rds} {tr : List En} (T : TInv P H ops sl0 hp0 nx0 i sl pv h n as hist rds tr) (hi : i ≤ ops.length) {k : Nat} {x : Kd} (hk : kdAt tr k = some x) :
    ∃ e o, tr[k]? = some e ∧ e.kd = x ∧ ops[k]? = some o ∧ (∀ t, e.sl.get t = slotAt ops sl0 tr k t) ∧ KdOk P H ops hp0 nx0 tr k e o x := by
  have hlt := kdAt_lt hk
  unfold kdAt at hk
  obtain ⟨e, he, rfl⟩ := Option.map_eq_some_iff.1 hk
  have hl := T.len
  have ho : ops[k]? = some (ops[k]'(by omega)) := List.getElem?_eq_getElem (by omega)
  obtain ⟨h1, h2⟩ := T.ents k e _ he ho
  exact ⟨e, _, he, rfl, ho, h1, h2⟩
/-- One operation more. -/
theorem TInv.next (hR : RegOk ops) {i n n' : Nat} {sl sl' : PT V} {pv pv' : Option Nat} {h h' : PT Ob} {as as' : List (Nat × Ob)} {hist hist' : List (Nat × PT Ob)} {rds rds' : Rds} {tr : List En} (T : TInv P H ops sl0 hp0 nx0 i sl pv h n as hist rds tr) {o : Oper} (ho : ops[i]? = some o) {e : En} (hsl : e.sl = sl) {nt : Nat} (hput : putD nt sl o.dst e.v = some sl')
    (hkd : KdOk P H ops hp0 nx0 (tr ++ [e]) i e o e.kd)
    (hfwd : ∀ pv G n h n', e.kd = .l pv G n h n' → ∀ k e' o', tr[k]? = some e' → e'.kd = .r → ops[k]? = some o' → bef (MS ops) k i = false → RdOk P H h (rhoO e'.sl o') o' e'.v)
    (hnode : Node (tr ++ [e]) pv') (hlast : ∀ k, isL (tr ++ [e]) k → ∃ p, pv' = some p ∧ k ≤ p) (hh : h' = hAt hp0 (tr ++ [e]) pv') (hn : n' = nAt (nx0 + ops.length) (tr ++ [e]) pv')
    (has : ∀ k ob, (k, ob) ∈ as' ↔ isA (tr ++ [e]) k ob ∧ ∀ j, isL (tr ++ [e]) j → bef (MS ops) k j = false) (hch : Chain hp0 (tr ++ [e]) pv' hist')
    (hrds : ∀ x ∈ rds, x ∈ rds') (hrd : e.kd = .r → (i, o, e.sl, e.v) ∈ rds') : TInv P H ops sl0 hp0 nx0 (Nat.succ i) sl' pv' h' n' as' hist' rds' (tr ++ [e]) := by
  have hl := T.len
  have hlt := (List.getElem?_eq_some_iff.1 ho).1
  subst hl
  refine ⟨by simp, fun t => slotAt_next hR ho T.slots hput t, ?_, hnode, hlast, hh, hn, has, hch, ?_⟩
  · intro k e' o' he' ho'
    rcases Nat.lt_or_ge k tr.length with hk | hk
    · rw [List.getElem?_append_left hk] at he'
      obtain ⟨h1, h2⟩ := T.ents k e' o' he' ho'
      refine ⟨fun t => by rw [slotAt_old (by omega)]; exact h1 t, h2.grow hR hlt hk (by unfold kdAt; rw [he']; rfl) fun hr pv G n h n' hl hb => hfwd pv G n h n' hl k e' o' he' hr ho' hb⟩
    · have hk' : k = tr.length := by
        have := (List.getElem?_eq_some_iff.1 he').1
        simp at this
        omega
      subst hk'
      rw [List.getElem?_append_right (Nat.le_refl _)] at he'
      simp only [Nat.sub_self, List.getElem?_cons_zero, Option.some.injEq] at he'
      subst he'
      rw [ho] at ho'
      cases ho'
      refine ⟨fun t => ?_, hkd⟩
      rw [hsl, slotAt_old (Nat.le_refl _)]
      exact T.slots t
  · intro k e' he' hr
    rcases Nat.lt_or_ge k tr.length with hk | hk
    · rw [List.getElem?_append_left hk] at he'
      obtain ⟨o', h1, h2⟩ := T.rdsOk k e' he' hr
      exact ⟨o', h1, hrds _ h2⟩
    · have hk' : k = tr.length := by
        have := (List.getElem?_eq_some_iff.1 he').1
        simp at this
        omega
      subst hk'
      rw [List.getElem?_append_right (Nat.le_refl _)] at he'
      simp only [Nat.sub_self, List.getElem?_cons_zero, Option.some.injEq] at he'
      subst he'
      exact ⟨o, ho, hrd hr⟩
theorem isL_same {tr : List En} {e : En} (hno : ∀ pv G n h n', e.kd ≠ .l pv G n h n') {k : Nat} (h : isL (tr ++ [e]) k) : isL tr k := by
  rcases isL_cases h with h | ⟨_, pv, G, n, h, n', h2⟩
  · exact h
  · exact absurd h2 (hno _ _ _ _ _)
/-- An operation that leaves the loud ones as they are. -/
theorem TInv.still (hR : RegOk ops) {i n : Nat} {sl sl' : PT V} {pv : Option Nat} {h : PT Ob} {as as' : List (Nat × Ob)} {hist : List (Nat × PT Ob)} {rds rds' : Rds} {tr : List En} (T : TInv P H ops sl0 hp0 nx0 i sl pv h n as hist rds tr) {o : Oper} (ho : ops[i]? = some o) {e : En} (hsl : e.sl = sl) {nt : Nat} (hput : putD nt sl o.dst e.v = some sl')
    (hno : ∀ pv G n h n', e.kd ≠ .l pv G n h n') (hkd : KdOk P H ops hp0 nx0 (tr ++ [e]) i e o e.kd)
    (has : ∀ k ob, (k, ob) ∈ as' ↔ (k, ob) ∈ as ∨ (k = i ∧ e.kd = .a ob)) (hrds : ∀ x ∈ rds, x ∈ rds') (hrd : e.kd = .r → (i, o, e.sl, e.v) ∈ rds') : TInv P H ops sl0 hp0 nx0 (Nat.succ i) sl' pv h n as' hist rds' (tr ++ [e]) := by
  have hl := T.len
  have hlt := (List.getElem?_eq_some_iff.1 ho).1
  refine T.next hR ho hsl hput hkd (fun pv G n h n' hh => absurd hh (hno _ _ _ _ _)) (fun p hp => isL_grow (T.node p hp)) (fun k hk => T.last k (isL_same hno hk)) ?_ ?_ ?_ T.chain.grow hrds hrd
  · rw [hAt_old T.node]; exact T.heq
  · rw [nAt_old T.node]; exact T.neq
  · intro k ob
    rw [has k ob, T.asOk]
    constructor
    · rintro (⟨h1, h2⟩ | ⟨rfl, h2⟩)
      · exact ⟨kdAt_grow h1, fun j hj => h2 j (isL_same hno hj)⟩
      · refine ⟨?_, fun j hj => ?_⟩
        · unfold isA
          rw [← hl, kdAt_new, h2]
        · have hj := isL_same hno hj
          cases hb : bef (MS ops) k j with
          | false => rfl
          | true =>
            have h3 := isL_lt hj
            have := bef_lt hR (by omega) hb
            omega
    · rintro ⟨h1, h2⟩
      rcases isA_cases h1 with h1 | ⟨h3, h4⟩
      · exact .inl ⟨h1, fun j hj => h2 j (isL_grow hj)⟩
      · exact .inr ⟨h3.trans hl, h4⟩
theorem go_ok (hcall : CallOk P H callR) (hR : RegOk ops) {nt : Nat} : ∀ (l : List Oper) {i n n' : Nat} {sl sl' : PT V} {pv : Option Nat} {h hf : PT Ob} {as : List (Nat × Ob)} {hist : List (Nat × PT Ob)} {rds : Rds} {tr trf : List En}, ops.drop i = l → i ≤ ops.length → TInv P H ops sl0 hp0 nx0 i sl pv h n as hist rds tr →
    go P H callR nt ops (masks ops []) nx0 l i sl pv h n as hist rds tr = some (sl', n', hf, trf) → ∃ pv' h' as' hist' rds', TInv P H ops sl0 hp0 nx0 ops.length sl' pv' h' n' as' hist' rds' trf ∧ hf = commitAll nx0 as' h'
  | [], i, n, n', sl, sl', pv, h, hf, as, hist, rds, tr, trf, hd, hi, T, hg => by
    have hl : i = ops.length := by
      have := congrArg List.length hd
      simp at this
      omega
    subst hl
    simp only [go, Option.some.injEq, Prod.mk.injEq] at hg
    obtain ⟨rfl, rfl, rfl, rfl⟩ := hg
    exact ⟨pv, h, as, hist, rds, T, rfl⟩
  | o :: l, i, n, n', sl, sl', pv, h, hf, as, hist, rds, tr, trf, hd, hi, T, hg => by
    have ho : ops[i]? = some o := by
      have h1 : (ops.drop i)[0]? = some o := by rw [hd]; rfl
      rw [List.getElem?_drop] at h1
      simpa using h1
    have hlt := (List.getElem?_eq_some_iff.1 ho).1
    have hd' : ops.drop (Nat.succ i) = l := by
      have : ops.drop (i + 1) = (ops.drop i).drop 1 := by rw [List.drop_drop]
      rw [Nat.succ_eq_add_one, this, hd]
      rfl
    have hlen := T.len
    simp only [go] at hg
    split at hg
    · cases hg
    · rename_i hw
      split at hg
      · rename_i sl1 hput
        refine go_ok hcall hR l hd' hlt (T.still hR ho (e := ⟨.q, .lit undef, sl⟩) rfl hput (fun _ _ _ _ _ => by simp) (.inl ⟨hw, rfl⟩) (fun k ob => by simp) (fun x hx => hx) (fun hr => by cases hr)) hg
      · cases hg
    · rename_i hw
      split at hg
      · rename_i v hv
        split at hg
        · rename_i sl1 hput
          exact go_ok hcall hR l hd' hlt (T.still hR ho (e := ⟨.q, v, sl⟩) rfl hput (fun _ _ _ _ _ => by simp) (.inr ⟨hw, PureOk.toW fun _ _ hr => evP_ok hr hv⟩) (fun k ob => by simp) (fun x hx => hx) (fun hr => by cases hr)) hg
        · cases hg
      · split at hg
        · rename_i v hv
          split at hg
          · rename_i hback
            split at hg
            · rename_i sl1 hput
              refine go_ok hcall hR l hd' hlt (T.still hR ho (e := ⟨.r, v, sl⟩) rfl hput (fun _ _ _ _ _ => by simp) ?_ (fun k ob => by simp) (fun x hx => by simp [hx]) (fun _ => by simp)) hg
              refine ⟨hw, fun c hc h1 h2 => ?_⟩
              have hno : ∀ pv G n h n', (⟨.r, v, sl⟩ : En).kd ≠ .l pv G n h n' := fun _ _ _ _ _ => by simp
              have hc' : Node tr c := fun p hp => isL_same hno (hc p hp)
              have h1' : ∀ j, isL tr j → bef (MS ops) j i = true → ∃ p, c = some p ∧ j ≤ p := fun j hj hb => h1 j (isL_grow hj) hb
              by_cases hcp : c = pv
              · subst hcp
                refine .inr ⟨fun p hp => by have := isL_lt (hc' p hp); omega, _, evR_rd hv, fun id ob hg' => ?_⟩
                rw [hAt_old hc', ← T.heq]
                rcases commit_get (nx0 := nx0) (ms := masks ops []) (i := i) as h id with ⟨k, ob', q1, q2, q3, q4⟩ | ⟨_, q2⟩
                · rw [q4] at hg'
                  simp only [Option.some.injEq] at hg'; subst hg'
                  obtain ⟨q5, q6⟩ := (T.asOk k ob').1 q2
                  exact .inr ⟨k, q1, kdAt_grow q5, q3, fun j hj _ => q6 j (isL_same hno hj)⟩
                · rw [q2] at hg'; exact .inl hg'
              · refine .inl ?_
                rw [hAt_old hc']
                refine evR_rd ?_
                refine backOk_spec (ev := fun hb => evR P H hb (rhoO sl o) o) T.chain hback ?_ (.inr trivial) c h1' hcp ?_
                · intro k pv1 G n1 h1 n2 hk
                  obtain ⟨e', o', he', _, ho', _, hkd⟩ := T.kd hi hk
                  exact hkd.2.2.2.2.2.1
                · intro p hp
                  exact ⟨hc' p hp, T.last p (hc' p hp)⟩
            · cases hg
          · cases hg
        · split at hg
          · rename_i ob f hA
            split at hg
            · rename_i sl1 hput
              refine go_ok hcall hR l hd' hlt (T.still hR ho (e := ⟨.a ob, f (nx0 + i), sl⟩) rfl hput (fun _ _ _ _ _ => by simp) ⟨hw, f, fun _ _ hr => evA_ok hr hA, rfl⟩ (fun k ob' => ?_) (fun x hx => hx) (fun hr => by cases hr)) hg
              simp only [List.mem_cons, Prod.mk.injEq, Kd.a.injEq]
              constructor
              · rintro (⟨rfl, rfl⟩ | h1)
                · exact .inr ⟨rfl, rfl⟩
                · exact .inl h1
              · rintro (h1 | ⟨rfl, rfl⟩)
                · exact .inr h1
                · exact .inl ⟨rfl, rfl⟩
            · cases hg
          · split at hg
            · rename_i hall
              split at hg
              · rename_i v n1 h1 hst
                split at hg
                · rename_i hfw
                  split at hg
                  · rename_i sl1 hput
                    have hall := allBef_spec hall
                    have hfw := fwdOk_spec hfw
                    have hin : ∀ {c : Option Nat} {l : List (Nat × PT Ob)}, Chain hp0 tr c l → (∀ k pv G n h n', kdAt tr k = some (.l pv G n h n') → (∀ j, isL tr j → j < k → ∃ p, pv = some p ∧ j ≤ p)) → ∀ k q, isL tr k → c = some q → k ≤ q → ∃ hb, (k, hb) ∈ l := by
                      intro c l hch hprev
                      induction hch with
                      | nil => intro k q _ hq; cases hq
                      | @cons k0 pv0 G0 n0 h0 n0' l0 hk0 t ih =>
                        intro k q hk hq hle
                        simp only [Option.some.injEq] at hq
                        subst hq
                        by_cases he : k = k0
                        · subst he; exact ⟨hAt hp0 tr pv0, by simp⟩
                        · obtain ⟨p, hp, hle'⟩ := hprev _ _ _ _ _ _ hk0 k hk (by omega)
                          obtain ⟨hb, hm⟩ := ih k p hk hp hle'
                          exact ⟨hb, by simp [hm]⟩
                    have hprev : ∀ k pv G n h n', kdAt tr k = some (.l pv G n h n') → (∀ j, isL tr j → j < k → ∃ p, pv = some p ∧ j ≤ p) := by
                      intro k pv1 G n1 h1 n2 hk
                      obtain ⟨e', o', he', _, ho', _, hkd⟩ := T.kd hi hk
                      exact hkd.2.2.2.2.2.1
                    have hlb : ∀ j, isL tr j → bef (MS ops) j i = true := by
                      intro j hj
                      obtain ⟨p, hp, hle⟩ := T.last j hj
                      obtain ⟨hb, hm⟩ := hin T.chain hprev j p hj hp hle
                      exact hall j hb hm
                    let e : En := ⟨.l pv (commit (masks ops []) nx0 i as h) n h1 n1, v, sl⟩
                    have hnew : kdAt (tr ++ [e]) i = some (.l pv (commit (masks ops []) nx0 i as h) n h1 n1) := by
                      have := kdAt_new (tr := tr) (e := e)
                      rw [hlen] at this
                      exact this
                    have hlt' : ∀ j, isL (tr ++ [e]) j → j < i → isL tr j := by
                      intro j hj hji
                      rcases isL_cases hj with hj | ⟨h3, _⟩
                      · exact hj
                      · omega
                    refine go_ok hcall hR l hd' hlt (T.next hR ho (e := e) rfl hput ?_ ?_ ?_ ?_ ?_ ?_ ?_ ?_ (fun x hx => hx) (fun hr => by cases hr)) hg
                    · refine ⟨hw, stepL_ln hcall hst, by rw [nAt_old T.node]; exact T.neq, fun id => ?_, fun p hp => ⟨isL_grow (T.node p hp), by have := isL_lt (T.node p hp); omega⟩, fun j hj hji => T.last j (hlt' j hj hji), fun j hj hji => hlb j (hlt' j hj hji)⟩
                      rw [hAt_old T.node, ← T.heq]
                      rcases commit_get (nx0 := nx0) (ms := masks ops []) (i := i) as h id with ⟨k, ob', q1, q2, q3, q4⟩ | ⟨q1, q2⟩
                      · obtain ⟨q5, q6⟩ := (T.asOk k ob').1 q2
                        exact .inl ⟨k, ob', q1, kdAt_grow q5, q3, fun j hj hji => q6 j (hlt' j hj hji), q4⟩
                      · refine .inr ⟨fun ⟨k', ob', p1, p2, p3, p4⟩ => q1 ⟨k', ob', p1, (T.asOk k' ob').2 ⟨?_, fun j hj => p4 j (isL_grow hj) (by have := isL_lt hj; omega)⟩, p3⟩, q2⟩
                        rcases isA_cases p2 with p2 | ⟨p5, _⟩
                        · exact p2
                        · have := bef_lt hR hlt p3; omega
                    · intro pv2 G2 n2 h2 n2' hk2 k e' o' he' hr' ho' hb
                      simp only [e, Kd.l.injEq] at hk2
                      obtain ⟨-, -, -, rfl, -⟩ := hk2
                      obtain ⟨o2, ho2, hm⟩ := T.rdsOk k e' he' hr'
                      rw [ho'] at ho2
                      cases ho2
                      exact evR_rd (hfw k o' e'.sl e'.v hm hb)
                    · intro p hp
                      simp only [Option.some.injEq] at hp; subst hp
                      exact ⟨_, _, _, _, _, hnew⟩
                    · intro k hk
                      refine ⟨i, rfl, ?_⟩
                      have := isL_lt hk
                      simp only [List.length_append, List.length_cons, List.length_nil] at this
                      omega
                    · simp only [hAt, hnew]
                    · simp only [nAt, hnew]
                    · intro k ob
                      rw [keepA_mem, T.asOk]
                      constructor
                      · rintro ⟨⟨q1, q2⟩, q3⟩
                        refine ⟨kdAt_grow q1, fun j hj => ?_⟩
                        rcases isL_cases hj with hj | ⟨h3, _⟩
                        · exact q2 j hj
                        · rw [h3, hlen]; exact q3
                      · rintro ⟨q1, q2⟩
                        rcases isA_cases q1 with q1 | ⟨_, q3⟩
                        · exact ⟨⟨q1, fun j hj => q2 j (isL_grow hj)⟩, q2 i ⟨_, _, _, _, _, hnew⟩⟩
                        · cases q3
                    · have := Chain.cons (hp0 := hp0) hnew (T.chain.grow (e := e))
                      rw [hAt_old T.node, ← T.heq] at this
                      exact this
                  · cases hg
                · cases hg
              · cases hg
            · cases hg
end
end Go.Vm
