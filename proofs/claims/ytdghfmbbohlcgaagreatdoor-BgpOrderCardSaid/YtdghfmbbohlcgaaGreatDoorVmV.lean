/- One operation over values of which not all is known: copy, clear, and which way an operation goes. -/
import Derived.Test.YtdghfmbbohlcgaaGreatDoorVmU
set_option linter.unusedVariables false
set_option linter.unusedSimpArgs false
namespace Go.Vm
open Go.RowKit

def copyU (P : Program) (H : View) (nx : Nat) (hp : PT Ob) (t : TypeId) (d x : V) : Option (Option Prop × V × Nat × PT Ob) :=
  match P.underlying t with
  | some (.slice e) => match sizeV P e with
    | some sz => match d with
      | .osl id j z n => match hp.get id with
        | some (.fam T z' N f) => match Nat.beq z sz, Nat.beq z' sz, newsU H hp sz x with
          | true, true, some (p, m, g) => some (some (wh p (Nat.add n j ≤ N)), .lit (.int .i64 (.ofNat (minN m n))), nx, hp.put id (some (.fam T z' N (putF f j (minN m n) g))))
          | _, _, _ => none
        | _ => none
      | _ => none
    | none => none
  | _ => none
def clearU (P : Program) (nx : Nat) (hp : PT Ob) (t : TypeId) (d : V) : Option (Option Prop × V × Nat × PT Ob) :=
  match P.underlying t with
  | some (.slice e) => match zeroV P e with
    | some z => match d with
      | .osl id j s n => match hp.get id with
        | some (.fam T z' N f) => match Nat.beq s z', Nat.beq z.cells.toList.length z', V.ones (z.cells.toList.map .lit) with
          | true, true, true => some (some (Nat.add n j ≤ N), .lit (.tuple #[]), nx, hp.put id (some (.fam T z' N (putF f j n fun _ => z.cells.toList.map .lit))))
          | _, _, _ => none
        | _ => none
      | _ => none
    | none => none
  | _ => none
def linU (P : Program) (H : View) (ρ : Rho) (nx : Nat) (hp : PT Ob) (o : Oper) : Option (Option Prop × V × Nat × PT Ob) :=
  match o.op with
  | .store t p x => storeU P ρ nx hp t p x
  | .call { callee, args, argTypes } => match callee with
    | .builtin .append => match args.toList, argTypes.toList with
      | [s, x], [t, t'] => match Nat.beq t t', ρ s, ρ x with
        | true, some sv, some xv => appU P H nx hp t sv xv
        | _, _, _ => none
      | _, _ => none
    | .builtin .copy => match args.toList, argTypes.toList with
      | [d, x], [t, _] => match ρ d, ρ x with
        | some dv, some xv => copyU P H nx hp t dv xv
        | _, _ => none
      | _, _ => none
    | .builtin .clear => match args.toList, argTypes.toList with
      | [x], [t] => match ρ x with
        | some xv => clearU P nx hp t xv
        | none => none
      | _, _ => none
    | _ => none
  | _ => none
section
variable {P : Program} {H : View} {R : Rel} {hp : PT Ob} {nx : Nat} {w : World} {ρ : Rho} {a : Act} {o : Oper}
theorem putVoid (hC : Cn H R hp w) {id : Nat} {o' : Ob} {b : Nat} (hR : R id b none) (hv : o'.isVoid = true) {o0 : Ob} (hg : hp.get id = some o0) : Cn H R (hp.put id (some o')) w ∧ St R nx hp w R nx (hp.put id (some o')) w := by
  refine ⟨⟨hC.agree, fun i oi hi => ?_, hC.fn, fun i i' o1 o2 b1 c1 c2 k1 k2 k3 k4 => ?_⟩, ⟨fun _ _ _ h => h, fun _ _ _ h => .inl h, fun i hi hn => ?_, Nat.le_refl _, Below.refl _ _, fun _ _ h _ => h⟩⟩
  · rw [PT.get_put] at hi
    split at hi
    · rename_i e
      simp only [Option.some.injEq] at hi
      subst e; subst hi
      exact .inl ⟨hv, b, hR⟩
    · exact hC.all i oi hi
  · have aux : ∀ i o1, (hp.put id (some o')).get i = some o1 → ∃ o2, hp.get i = some o2 := by
      intro i o1 h
      rw [PT.get_put] at h
      split at h
      · rename_i e; subst e; exact ⟨_, hg⟩
      · exact ⟨_, h⟩
    obtain ⟨_, q1⟩ := aux _ _ k1
    obtain ⟨_, q2⟩ := aux _ _ k2
    exact hC.inj _ _ _ _ _ _ _ q1 q2 k3 k4
  · rw [PT.get_put]
    split
    · rename_i e; subst e; rw [hg] at hn; cases hn
    · exact hn
theorem flat_take {m k sz : Nat} {g : Nat → List V} (hg : ∀ i, i < m → (g i).length = sz) (hk : k ≤ m) : (flat m g).take (k * sz) = flat k g := by
  obtain ⟨r, rfl⟩ : ∃ r, m = k + r := ⟨m - k, by omega⟩
  rw [flat_add, List.take_append_of_le_length (by rw [flat_length fun i hi => hg i (by omega)]; exact Nat.le_refl _), List.take_of_length_le (by rw [flat_length fun i hi => hg i (by omega)]; exact Nat.le_refl _)]
theorem copyU_ok (hC : Cn H R hp w) {t ts : TypeId} {d x : V} {yd yx : Value} (hd : VR R d yd) (hx : VR R x yx) {p : Option Prop} {v : V} {nx' : Nat} {hp' : PT Ob} (h : copyU P H nx hp t d x = some (p, v, nx', hp')) (hq : hs p) (ty : TypeId) :
    ∃ y w', (Builtin.copy_ #[t, ts] ty #[yd, yx]).run P w = .ok y w' ∧ VR R v y ∧ Cn H R hp' w' ∧ St R nx hp w R nx' hp' w' := by
  unfold copyU at h
  split at h
  · rename_i e hu
    split at h
    · rename_i sz hsz
      split at h
      · rename_i id j z n
        split at h
        · rename_i T z' N f hg
          split at h
          · rename_i p0 m g hb1 hb2 hnews
            obtain rfl := Nat.eq_of_beq_eq_true hb1
            obtain rfl := Nat.eq_of_beq_eq_true hb2
            simp only [Option.some.injEq, Prod.mk.injEq] at h
            obtain ⟨rfl, rfl, rfl, rfl⟩ := h
            obtain ⟨hq0, hq1⟩ := wh_spec hq
            have hq1 : n + j ≤ N := hq1
            obtain ⟨A, c2, zs, rfl, z1, z2, z3, z4⟩ := newsU_ok hC hx hnews hq0
            have hmin : m.min n = minN m n := (minN_eq m n).symm
            have hle : minN m n ≤ m := by rw [minN_eq]; exact Nat.min_le_left _ _
            have hle2 : minN m n ≤ n := by rw [minN_eq]; exact Nat.min_le_right _ _
            have hzl : zs.length = m * z' := by rw [← z1.length, flat_length z3]
            have hmm : minN m n * z' ≤ m * z' := Nat.mul_le_mul_right _ hle
            have hfc : (Builtin.firstCells z' (minN m n) (.slice A m c2)).run P w = .ok (zs.take (minN m n * z')).toArray w := by
              rcases z4 with ⟨rfl, rfl⟩ | ⟨ad, rfl, hcell⟩
              · have : zs = [] := List.eq_nil_of_length_eq_zero (by omega)
                subst this
                simp [Builtin.firstCells]
              · refine run_firstCells_some (P := P) w z' _ ad m c2 _ (by rw [List.length_take]; omega) fun q v hj => ?_
                rw [List.getElem?_take] at hj
                split at hj
                · exact hcell q v hj
                · cases hj
            have hz1 : VRs R0 (flat (minN m n) g) (zs.take (minN m n * z')) := by rw [← flat_take z3 hle]; exact z1.take _
            cases hd with
            | @osl0 _ b _ pa hR =>
              rcases hC.all id _ hg with ⟨hv, _⟩ | ⟨b', c', _, k1, _⟩
              · have hN : N = 0 := Nat.eq_of_beq_eq_true hv
                subst hN
                obtain ⟨r1, r2⟩ := putVoid (nx := nx) (o' := .fam T z' 0 (putF f 0 (minN m 0) g)) hC hR rfl hg
                refine ⟨_, w, ?_, .lit _, r1, r2⟩
                have h0 : minN m 0 = 0 := by omega
                simp only [h0, Nat.zero_mul, List.take_zero] at hfc
                simp only [Builtin.copy_, List.getElem?_toArray, List.getElem?_cons_zero, List.getElem?_cons_succ, Sem.run_bind, run_underlying hu, Result.andThen_ok, Builtin.lenOf, Sem.run_pure, hmin, h0, run_sizeV hsz, hfc, goInt]
                cases pa <;> rfl
              · cases (hC.fn _ _ _ _ _ hR k1).2
            | @osl _ b cc _ _ _ pa hR hn hpa =>
              obtain ⟨ys, sp, k1, k2, k3, k4, k5, k6, k7, k8⟩ := hC.fam hg hR
              have hglen : ∀ k, k < minN m n → (g k).length = z' := fun k hk => z3 k (by omega)
              obtain ⟨e1, e2⟩ := flat_put (lo := j) (m := minN m n) k3 hglen (by omega)
              have hle3 : j * z' + minN m n * z' ≤ N * z' := by rw [← Nat.add_mul]; exact Nat.mul_le_mul_right _ (by omega)
              obtain ⟨w', q1, q2, q3⟩ := wrFam (nx := nx) hC hg hR hz1 (fun y hy => z2 y (List.mem_of_mem_take hy)) (show j * z' + _ ≤ N * z' by rw [flat_length hglen]; exact hle3) e1 e2
              refine ⟨_, w', ?_, .lit _, q2, q3⟩
              by_cases hjc : j < cc
              · obtain rfl := hpa hjc
                simp only [Builtin.copy_, List.getElem?_toArray, List.getElem?_cons_zero, List.getElem?_cons_succ, Sem.run_bind, run_underlying hu, Result.andThen_ok, Builtin.lenOf, Sem.run_pure, hmin, run_sizeV hsz, hfc, q1 P, goInt]
                rfl
              · have h0 : minN m n = 0 := by omega
                have hw : w' = w := by
                  have := q1 P
                  rw [h0, Nat.zero_mul, List.take_zero] at this
                  simp only [storeCells, Sem.run_pure, Result.ok.injEq, true_and] at this
                  exact this.symm
                subst hw
                rw [h0, Nat.zero_mul, List.take_zero] at hfc
                simp only [Builtin.copy_, List.getElem?_toArray, List.getElem?_cons_zero, List.getElem?_cons_succ, Sem.run_bind, run_underlying hu, Result.andThen_ok, Builtin.lenOf, Sem.run_pure, hmin, h0, run_sizeV hsz, hfc, goInt]
                cases pa <;> rfl
          · cases h
        · cases h
      · cases h
    · cases h
  · cases h
theorem rep_flat (z : List Value) : ∀ n, VRs R0 (flat n fun _ => z.map .lit) (rep z n)
  | 0 => .nil
  | n + 1 => by
    have h := (rep_flat z n).append (VRs.lits (R := R0) z)
    have e : rep z n ++ z = rep z (n + 1) := by
      clear h
      induction n with
      | zero => simp [rep_zero, rep_succ]
      | succ n ih => rw [rep_succ, rep_succ z (n + 1), ← ih, List.append_assoc]
    rw [flat_succ, ← e]
    exact h
theorem clearU_ok (hC : Cn H R hp w) {t : TypeId} {d : V} {yd : Value} (hd : VR R d yd) {p : Option Prop} {v : V} {nx' : Nat} {hp' : PT Ob} (h : clearU P nx hp t d = some (p, v, nx', hp')) (hq : hs p) (ty : TypeId) :
    ∃ y w', (Builtin.clear_ #[t] ty #[yd]).run P w = .ok y w' ∧ VR R v y ∧ Cn H R hp' w' ∧ St R nx hp w R nx' hp' w' := by
  unfold clearU at h
  split at h
  · rename_i e hu
    split at h
    · rename_i z hz
      split at h
      · rename_i id j s n
        split at h
        · rename_i T z' N f hg
          split at h
          · rename_i hb1 hb2 hb3
            obtain rfl := Nat.eq_of_beq_eq_true hb1
            have hb2 := Nat.eq_of_beq_eq_true hb2
            simp only [Option.some.injEq, Prod.mk.injEq] at h
            obtain ⟨rfl, rfl, rfl, rfl⟩ := h
            have hq1 : n + j ≤ N := hq
            cases hd with
            | @osl0 _ b _ pa hR =>
              rcases hC.all id _ hg with ⟨hv, _⟩ | ⟨b', c', _, k1, _⟩
              · have hN : N = 0 := Nat.eq_of_beq_eq_true hv
                subst hN
                obtain ⟨r1, r2⟩ := putVoid (nx := nx) (o' := .fam T s 0 (putF f 0 0 fun _ => z.cells.toList.map .lit)) hC hR rfl hg
                refine ⟨_, w, ?_, .lit _, r1, r2⟩
                simp only [Builtin.clear_, List.getElem?_toArray, List.getElem?_cons_zero, Sem.run_bind, run_underlying hu, Result.andThen_ok]
                cases pa <;> rfl
              · cases (hC.fn _ _ _ _ _ hR k1).2
            | @osl _ b cc _ _ _ pa hR hn hpa =>
              obtain ⟨ys, sp, k1, k2, k3, k4, k5, k6, k7, k8⟩ := hC.fam hg hR
              have hglen : ∀ k, k < n → (z.cells.toList.map V.lit).length = s := fun k hk => by rw [List.length_map]; exact hb2
              obtain ⟨e1, e2⟩ := flat_put (lo := j) (m := n) (g := fun _ => z.cells.toList.map .lit) k3 hglen (by omega)
              have hle3 : j * s + n * s ≤ N * s := by rw [← Nat.add_mul]; exact Nat.mul_le_mul_right _ (by omega)
              obtain ⟨w', q1, q2, q3⟩ := wrFam (nx := nx) hC hg hR (rep_flat z.cells.toList n) (ones_rep hb3 n) (show j * s + _ ≤ N * s by rw [flat_length (f := fun _ => z.cells.toList.map V.lit) hglen]; exact hle3) e1 e2
              refine ⟨.tuple #[], w', ?_, .lit _, q2, q3⟩
              have hzc : (Builtin.zeroCells z.cells n).toList = rep z.cells.toList n := by
                unfold Builtin.zeroCells
                rw [made_rep z.cells n z.cells.size rfl]
              rcases Nat.eq_zero_or_pos n with h0 | h0
              · subst h0
                have hw : w' = w := by
                  have := q1 P
                  rw [rep_zero] at this
                  simp only [storeCells, Sem.run_pure, Result.ok.injEq, true_and] at this
                  exact this.symm
                subst hw
                simp only [Builtin.clear_, List.getElem?_toArray, List.getElem?_cons_zero, Sem.run_bind, run_underlying hu, Result.andThen_ok]
                cases pa <;> rfl
              · obtain rfl := hpa (by omega)
                obtain ⟨k, rfl⟩ : ∃ k, n = k + 1 := ⟨n - 1, by omega⟩
                simp only [Builtin.clear_, List.getElem?_toArray, List.getElem?_cons_zero, Sem.run_bind, run_underlying hu, Result.andThen_ok, run_zeroV hz, hzc, q1 P, Sem.run_pure]
          · cases h
        · cases h
      · cases h
    · cases h
  · cases h
theorem ln_of_ok {v : V} {n' : Nat} {h' : PT Ob} (h : ∀ (R : Rel) (a : Act) (w : World), RhoR R ρ a → Cn H R hp w → (∀ i b c, R i b c → i < nx) → ∃ R' y w', (execOp a.eval o).run P w = .ok (.value y) w' ∧ VR R' v y ∧ Cn H R' h' w' ∧ St R nx hp w R' n' h' w') : LnOk P H ρ nx hp o v n' h' := by
  intro R a w K Q hr hC hnx hk
  obtain ⟨R', y, w', h1, h2, h3, h4⟩ := h R a w hr hC hnx
  unfold Oper.wp
  rw [h1, Oper.upon_value]
  exact hk R' y w' h2 h3 h4
theorem linU_ok {p : Option Prop} {v : V} {nx' : Nat} {hp' : PT Ob} (h : linU P H ρ nx hp o = some (p, v, nx', hp')) (hq : hs p) : LnOk P H ρ nx hp o v nx' hp' := by
  unfold linU at h
  split at h
  · rename_i t pp x ho
    exact storeU_ok ho h hq
  · rename_i callee args argTypes ho
    split at h
    · split at h
      · rename_i s x t t' hargs hts
        have hargs : args = #[s, x] := by rw [← Array.toList_inj]; exact hargs
        have hts : argTypes = #[t, t'] := by rw [← Array.toList_inj]; exact hts
        subst hargs; subst hts
        split at h
        · rename_i sv xv hb hs hx
          obtain rfl := Nat.eq_of_beq_eq_true hb
          refine ln_of_ok fun R a w hr hC hnx => ?_
          obtain ⟨R', y, w', r1, r2, r3, r4⟩ := appU_ok hC hnx (hC.dead hnx (Nat.le_refl _)) (hr _ _ hs) (hr _ _ hx) h hq o.type
          refine ⟨R', y, w', ?_, r2, r3, r4⟩
          simp only [execOp, ho, resolve, Sem.run_bind, Sem.run_pure, Result.andThen_ok, invoke, builtin]
          simp [r1]
        · cases h
      · cases h
    · split at h
      · rename_i d x t ts hargs hts
        have hargs : args = #[d, x] := by rw [← Array.toList_inj]; exact hargs
        have hts : argTypes = #[t, ts] := by rw [← Array.toList_inj]; exact hts
        subst hargs; subst hts
        split at h
        · rename_i dv xv hd' hx
          refine ln_of_ok fun R a w hr hC hnx => ?_
          obtain ⟨y, w', r1, r2, r3, r4⟩ := copyU_ok (P := P) (ts := ts) hC (hr _ _ hd') (hr _ _ hx) h hq o.type
          refine ⟨R, y, w', ?_, r2, r3, r4⟩
          simp only [execOp, ho, resolve, Sem.run_bind, Sem.run_pure, Result.andThen_ok, invoke, builtin]
          simp [r1]
        · cases h
      · cases h
    · split at h
      · rename_i x t hargs hts
        have hargs : args = #[x] := by rw [← Array.toList_inj]; exact hargs
        have hts : argTypes = #[t] := by rw [← Array.toList_inj]; exact hts
        subst hargs; subst hts
        split at h
        · rename_i xv hx
          refine ln_of_ok fun R a w hr hC hnx => ?_
          obtain ⟨y, w', r1, r2, r3, r4⟩ := clearU_ok (P := P) hC (hr _ _ hx) h hq o.type
          refine ⟨R, y, w', ?_, r2, r3, r4⟩
          simp only [execOp, ho, resolve, Sem.run_bind, Sem.run_pure, Result.andThen_ok, invoke, builtin]
          simp [r1]
        · cases h
      · cases h
    · cases h
  · cases h
/-- Which way an operation goes that is no call of a body. -/
def cls (P : Program) (H : View) (ρ : Rho) (nx : Nat) (hp : PT Ob) (o : Oper) : Stp :=
  match pureU P ρ o with
  | some (p, v) => .pure p v
  | none => match readU P H hp ρ o with
    | some (p, v) => .read p v
    | none => match linU P H ρ nx hp o with
      | some (p, v, n', h') => .lin p v n' h'
      | none => match evP P ρ o with
        | some v => .pure none v
        | none => match evR P H hp ρ o with
          | some v => .read none v
          | none => match evA P ρ o with
            | some (ob, f) => .alloc ob f
            | none => match callOf ρ o with
              | some _ => .bad
              | none => match evW P H ρ nx hp o with
                | some (v, n', h') => .lin none v n' h'
                | none => .bad
theorem noCall_ok' (P : Program) (H : View) : CallOk P H (fun _ _ _ _ => none) := fun _ _ _ _ _ _ _ h => by cases h
theorem cls_ok : StpOk P H ρ nx hp o (cls P H ρ nx hp o) := by
  unfold cls
  split
  · rename_i p v h; exact fun hq => pureU_ok h hq
  · split
    · rename_i p v h; exact fun hq => readU_ok h hq
    · split
      · rename_i p v n' h' h; exact fun hq => linU_ok h hq
      · split
        · rename_i v h; exact fun _ R a hr => evP_ok hr h
        · split
          · rename_i v h; exact fun _ => evR_rd h
          · split
            · rename_i ob f h; exact fun R a hr => evA_ok hr h
            · split
              · trivial
              · rename_i hco
                split
                · rename_i v n' h' h
                  refine fun _ => stepL_ln (noCall_ok' P H) ?_
                  unfold stepL
                  rw [hco]
                  exact h
                · trivial
end
end Go.Vm
