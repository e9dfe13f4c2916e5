/- One operation over values of which not all is known: indexes, fields, lengths, loads, stores. -/
import Derived.Test.YtdghfmbbohlcgaaGreatDoorVmS
set_option linter.unusedVariables false
set_option linter.unusedSimpArgs false
namespace Go.Vm
open Go.RowKit

inductive Stp where
  | pure (p : Option Prop) (v : V)
  | read (p : Option Prop) (v : V)
  | alloc (ob : Ob) (f : Nat → V)
  | lin (p : Option Prop) (v : V) (n' : Nat) (h' : PT Ob)
  | bad
def wh : Option Prop → Prop → Prop
  | none, q => q
  | some p, q => p ∧ q
def hs : Option Prop → Prop
  | none => True
  | some p => p
theorem wh_spec {p : Option Prop} {q : Prop} (h : wh p q) : hs p ∧ q := by
  cases p with
  | none => exact ⟨trivial, h⟩
  | some p => exact h
def StpOk (P : Program) (H : View) (ρ : Rho) (n : Nat) (hp : PT Ob) (o : Oper) : Stp → Prop
  | .pure p v => hs p → PureOk P ρ o v
  | .read p v => hs p → RdOk P H hp ρ o v
  | .alloc ob f => AlOk P ρ o ob f
  | .lin p v n' h' => hs p → LnOk P H ρ n hp o v n' h'
  | .bad => True

/-! ### what asks the values alone -/
def idxU (P : Program) (t : TypeId) (x i : Option V) : Option (Option Prop × V) :=
  match i with
  | some (.lit (.int _ z)) => match P.underlying t with
    | some (.slice e) => match sizeV P e with
      | some s => match x with
        | some (.osl id j z' n) => match Nat.beq z' s with
          | true => some (some (0 ≤ z ∧ z < (n : Int)), .ep id (Nat.add z.toNat j) z' 0)
          | false => none
        | some (.xs b o j z' n c f) => match Nat.beq z' s with
          | true => some (some (0 ≤ z ∧ z < (n : Int)), .xp b o (Nat.add z.toNat j) z' 0 f)
          | false => none
        | _ => none
      | none => none
    | _ => none
  | _ => none
def bdU (ρ : Rho) (d : Nat) : Option Operand → Option (Option Prop × Nat)
  | none => some (none, d)
  | some x => match ρ x with
    | some (.lit (.int _ z)) => some (some (0 ≤ z), z.toNat)
    | _ => none
def sliceU (P : Program) (ρ : Rho) (t : TypeId) (x : Operand) (lo hi mx : Option Operand) : Option (Option Prop × V) :=
  match P.underlying t with
  | some (.slice e) => match sizeV P e with
    | some s => match bdU ρ 0 lo with
      | some (pl, l) => match ρ x with
        | some (.osl id j z n) => match Nat.beq z s, isNone' mx with
          | true, true => match bdU ρ n hi with
            | some (ph, h) => some (some (wh pl (wh ph (l ≤ h ∧ h ≤ n))), .osl id (Nat.add l j) z (Nat.sub h l))
            | none => none
          | _, _ => none
        | some (.xs b o j z n c f) => match Nat.beq z s with
          | true => match bdU ρ n hi with
            | some (ph, h) => match isNone' mx with
              | true => some (some (wh pl (wh ph (l ≤ h ∧ h ≤ n))), .xs b o (Nat.add l j) z (Nat.sub h l) (Nat.sub c l) f)
              | false => match isNone' hi with
                | true => none
                | false => match bdU ρ c mx with
                  | some (pm, m) => some (some (wh pl (wh ph (wh pm (l ≤ h ∧ h ≤ m ∧ m ≤ c)))), .xs b o (Nat.add l j) z (Nat.sub h l) (Nat.sub m l) f)
                  | none => none
            | none => none
          | false => none
        | _ => none
      | none => none
    | none => none
  | _ => none
def pureU (P : Program) (ρ : Rho) (o : Oper) : Option (Option Prop × V) :=
  match o.op with
  | .binOp op t x y yt => match vcEqV P ρ o with
    | some v => some (none, v)
    | none => none
  | .indexAddr t x i => idxU P t (ρ x) (ρ i)
  | .fieldAddr t x j => match ρ x with
    | some (.ep id i z off) => match offV P t j with
      | some k => some (none, .ep id i z (Nat.add off k))
      | none => none
    | some (.xp b o' i z off f) => match offV P t j with
      | some k => some (none, .xp b o' i z (Nat.add off k) f)
      | none => none
    | _ => none
  | .nilCheck x => match ρ x with
    | some (.ep id i z off) => some (none, .ep id i z off)
    | some (.xp b o' i z off f) => some (none, .xp b o' i z off f)
    | _ => none
  | .slice t x lo hi mx => sliceU P ρ t x lo hi mx
  | .call { callee, args, argTypes } => match callee with
    | .builtin .len => match args.toList, argTypes.toList with
      | [x], [t] => match ρ x with
        | some (.xs _ _ _ _ n _ _) => match P.underlying t with
          | some (.slice _) => some (none, .lit (.int .i64 (.ofNat n)))
          | _ => none
        | _ => none
      | _, _ => none
    | .builtin .cap => match args.toList, argTypes.toList with
      | [x], [t] => match ρ x with
        | some (.xs _ _ _ _ _ c _) => match P.underlying t with
          | some (.slice _) => some (none, .lit (.int .i64 (.ofNat c)))
          | _ => none
        | _ => none
      | _, _ => none
    | _ => none
  | _ => none
section
variable {P : Program} {H : View} {R : Rel} {hp : PT Ob} {nx : Nat} {w : World} {ρ : Rho} {a : Act} {o : Oper}
theorem idxU_ok {t : TypeId} {x i : Operand} {p : Option Prop} {v : V} (ho : o.op = .indexAddr t x i) (h : idxU P t (ρ x) (ρ i) = some (p, v)) (hq : hs p) : PureOk P ρ o v := by
  intro R a hr
  unfold idxU at h
  split at h
  · rename_i ik z hi
    have hii := (hr _ _ hi).lit_inv
    split at h
    · rename_i e hu
      split at h
      · rename_i s hs
        split at h
        · rename_i id j z' n hx
          split at h
          · rename_i hb
            have hb := Nat.eq_of_beq_eq_true hb
            subst hb
            simp only [Option.some.injEq, Prod.mk.injEq] at h
            obtain ⟨rfl, rfl⟩ := h
            obtain ⟨h1, h2⟩ := hq
            obtain ⟨k, rfl⟩ := Int.eq_ofNat_of_zero_le h1
            have hv := hr _ _ hx
            generalize hxx : a.eval x = xx at hv
            cases hv with
            | osl0 _ _ => omega
            | @osl _ b c _ _ _ pa hR hn hpa =>
              obtain rfl := hpa (by omega)
              refine ⟨_, .ep _ _ _ hR, fun w => ?_⟩
              simp only [execOp, ho, hxx, hii, Instr.indexAt, asIntOf, Sem.run_bind, Sem.run_pure, Result.andThen_ok, run_underlying hu]
              rw [if_pos ⟨by omega, by omega⟩]
              have e1 : j * z' + k * z' = (k + j) * z' := by rw [← Nat.add_mul, Nat.add_comm]
              simp [run_sizeV hs, Addr.add_lit, e1]
          · cases h
        · rename_i b o' j z' n c f hx
          split at h
          · rename_i hb
            have hb := Nat.eq_of_beq_eq_true hb
            subst hb
            simp only [Option.some.injEq, Prod.mk.injEq] at h
            obtain ⟨rfl, rfl⟩ := h
            obtain ⟨h1, h2⟩ := hq
            obtain ⟨k, rfl⟩ := Int.eq_ofNat_of_zero_le h1
            have hv := hr _ _ hx
            generalize hxx : a.eval x = xx at hv
            cases hv with
            | xs _ _ _ _ _ hn hpa =>
              obtain rfl := hpa (by omega)
              refine ⟨_, .xp b o' (k + j) z' 0 f, fun w => ?_⟩
              simp only [execOp, ho, hxx, hii, Instr.indexAt, asIntOf, Sem.run_bind, Sem.run_pure, Result.andThen_ok, run_underlying hu]
              rw [if_pos ⟨by omega, by omega⟩]
              have e1 : o' + j * z' + k * z' = o' + (k + j) * z' := by rw [Nat.add_mul]; omega
              simp [run_sizeV hs, Addr.add_lit, e1]
          · cases h
        · cases h
      · cases h
    · cases h
  · cases h
theorem bdU_ok {R : Rel} {a : Act} (hr : RhoR R ρ a) {d : Nat} {x : Option Operand} {p : Option Prop} {k : Nat} (h : bdU ρ d x = some (p, k)) (hq : hs p) :
    (x = none ∧ k = d) ∨ ∃ y ik, x = some y ∧ a.eval y = .int ik (k : Int) := by
  unfold bdU at h
  split at h
  · simp only [Option.some.injEq, Prod.mk.injEq] at h
    exact .inl ⟨rfl, h.2.symm⟩
  · rename_i y
    split at h
    · rename_i ik z hz
      simp only [Option.some.injEq, Prod.mk.injEq] at h
      obtain ⟨rfl, rfl⟩ := h
      refine .inr ⟨y, ik, rfl, ?_⟩
      rw [(hr _ _ hz).lit_inv]
      rw [Int.toNat_of_nonneg hq]
    · cases h
theorem bounds_ok {a : Act} {len cap l h m : Nat} {lo hi mx : Option Operand} (hl : (lo = none ∧ l = 0) ∨ ∃ y ik, lo = some y ∧ a.eval y = .int ik (l : Int)) (hh : (hi = none ∧ h = len) ∨ ∃ y ik, hi = some y ∧ a.eval y = .int ik (h : Int)) (hm : (mx = none ∧ m = cap) ∨ ∃ y ik, mx = some y ∧ a.eval y = .int ik (m : Int))
    (h0 : mx = none ∨ hi ≠ none) (h1 : l ≤ h) (h2 : h ≤ m) (h3 : m ≤ cap) (w : World) : (Instr.sliceBounds true len cap (lo.map a.eval) (hi.map a.eval) (mx.map a.eval)).run P w = .ok (l, h, m) w := by
  rcases hl with ⟨rfl, rfl⟩ | ⟨yl, kl, rfl, el⟩ <;> rcases hh with ⟨rfl, rfl⟩ | ⟨yh, kh, rfl, eh⟩ <;> rcases hm with ⟨rfl, rfl⟩ | ⟨ym, km, rfl, em⟩
  · simp [Instr.sliceBounds]
  · rcases h0 with h0 | h0
    · cases h0
    · exact absurd rfl h0
  · simp [Instr.sliceBounds, run_sliceBound eh h2]
  · simp [Instr.sliceBounds, run_sliceBound em h3, run_sliceBound eh h2]
  · simp [Instr.sliceBounds, run_sliceBound el h1]
  · rcases h0 with h0 | h0
    · cases h0
    · exact absurd rfl h0
  · simp [Instr.sliceBounds, run_sliceBound el h1, run_sliceBound eh h2]
  · simp [Instr.sliceBounds, run_sliceBound el h1, run_sliceBound em h3, run_sliceBound eh h2]
theorem isNone_eq {α : Type} {x : Option α} (h : isNone' x = true) : x = none := by cases x <;> first | rfl | cases h
theorem sliceU_ok {t : TypeId} {x : Operand} {lo hi mx : Option Operand} {p : Option Prop} {v : V} (ho : o.op = .slice t x lo hi mx) (h : sliceU P ρ t x lo hi mx = some (p, v)) (hq : hs p) : PureOk P ρ o v := by
  intro R a hr
  unfold sliceU at h
  split at h
  · rename_i e hu
    split at h
    · rename_i s hs
      split at h
      · rename_i pl l hbl
        split at h
        · rename_i id j z n hx
          split at h
          · rename_i hz hmx
            obtain rfl := Nat.eq_of_beq_eq_true hz
            obtain rfl := isNone_eq hmx
            split at h
            · rename_i ph hh' hbh
              simp only [Option.some.injEq, Prod.mk.injEq] at h
              obtain ⟨rfl, rfl⟩ := h
              obtain ⟨q1, hq⟩ := wh_spec hq
              obtain ⟨q2, h1, h2⟩ := wh_spec hq
              have c1 := bdU_ok hr hbl q1
              have c2 := bdU_ok hr hbh q2
              have hv := hr _ _ hx
              generalize hxx : a.eval x = xx at hv
              cases hv with
              | @osl0 _ _ _ pa hR =>
                obtain rfl : hh' = 0 := by omega
                obtain rfl : l = 0 := by omega
                refine ⟨.slice pa 0 0, .osl0 _ hR, fun w => ?_⟩
                have hrun := bounds_ok (P := P) (len := 0) (cap := 0) c1 c2 (.inl ⟨rfl, rfl⟩) (.inl rfl) (Nat.le_refl _) (Nat.le_refl _) (Nat.le_refl _) w
                simp only [Option.map_none] at hrun
                simp only [execOp, ho, hxx, Instr.sliceAt, Instr.slice, Sem.run_bind, run_underlying hu, Result.andThen_ok, hrun, run_sizeV hs, Sem.run_pure, Option.map_none]
                simp
              | @osl _ bb cc _ _ _ pa hR hn hpa =>
                refine ⟨.slice (if cc - j = l then pa else pa.map (·.add (l * z))) (hh' - l) (cc - (l + j)), .osl _ _ _ hR (show l + j + (hh' - l) ≤ cc by omega) (fun hlt => ?_), fun w => ?_⟩
                · have hlt : l + j < cc := hlt
                  obtain rfl := hpa (by omega)
                  rw [if_neg (by omega)]
                  have e1 : j * z + l * z = (l + j) * z := by rw [← Nat.add_mul, Nat.add_comm]
                  simp [Addr.add_lit, e1]
                have hrun := bounds_ok (P := P) (len := n) (cap := cc - j) c1 c2 (.inl ⟨rfl, rfl⟩) (.inl rfl) h1 (show hh' ≤ cc - j by omega) (Nat.le_refl _) w
                simp only [Option.map_none] at hrun
                simp only [execOp, ho, hxx, Instr.sliceAt, Instr.slice, Sem.run_bind, run_underlying hu, Result.andThen_ok, hrun, run_sizeV hs, Sem.run_pure, Option.map_none]
                rw [show cc - j - l = cc - (l + j) by omega]
            · cases h
          · cases h
        · rename_i b o' j z n c f hx
          split at h
          · rename_i hz
            obtain rfl := Nat.eq_of_beq_eq_true hz
            split at h
            · rename_i ph hh' hbh
              have done : ∀ m, c ≥ m → hh' ≤ m → l ≤ hh' → hh' - l ≤ n - l ∨ True → ((lo = none ∧ l = 0) ∨ ∃ y ik, lo = some y ∧ a.eval y = .int ik (l : Int)) → ((hi = none ∧ hh' = n) ∨ ∃ y ik, hi = some y ∧ a.eval y = .int ik (hh' : Int)) → ((mx = none ∧ m = c) ∨ ∃ y ik, mx = some y ∧ a.eval y = .int ik (m : Int)) → (mx = none ∨ hi ≠ none) →
                  ∃ y, VR R (.xs b o' (Nat.add l j) z (Nat.sub hh' l) (Nat.sub m l) f) y ∧ ∀ w, (execOp a.eval o).run P w = .ok (.value y) w := by
                intro m m1 m2 m3 _ c1 c2 c3 h0
                have hv := hr _ _ hx
                generalize hxx : a.eval x = xx at hv
                cases hv with
                | @xs _ _ _ _ _ _ _ pa hn hpa =>
                  refine ⟨.slice (if m = l then pa else pa.map (·.add (l * z))) (hh' - l) (m - l), .xs _ _ _ _ _ (show hh' - l ≤ m - l by omega) (fun hlt => ?_), fun w => ?_⟩
                  · have hlt : m - l ≠ 0 := hlt
                    obtain rfl := hpa (by omega)
                    rw [if_neg (by omega)]
                    have e1 : o' + j * z + l * z = o' + (l + j) * z := by rw [Nat.add_mul]; omega
                    simp [Addr.add_lit, e1]
                  have hrun := bounds_ok (P := P) (len := n) (cap := c) c1 c2 c3 h0 m3 m2 m1 w
                  simp only [execOp, ho, hxx, Instr.sliceAt, Instr.slice, Sem.run_bind, run_underlying hu, Result.andThen_ok, hrun, run_sizeV hs, Sem.run_pure]
              split at h
              · rename_i hmx
                obtain rfl := isNone_eq hmx
                simp only [Option.some.injEq, Prod.mk.injEq] at h
                obtain ⟨rfl, rfl⟩ := h
                obtain ⟨q1, hq⟩ := wh_spec hq
                obtain ⟨q2, h1, h2⟩ := wh_spec hq
                have hnc : n ≤ c := by
                  have hv := hr _ _ hx
                  generalize a.eval x = xx at hv
                  cases hv with
                  | xs _ _ _ _ _ hn _ => exact hn
                exact done c (Nat.le_refl _) (by omega) h1 (.inr trivial) (bdU_ok hr hbl q1) (bdU_ok hr hbh q2) (.inl ⟨rfl, rfl⟩) (.inl rfl)
              · split at h
                · cases h
                · rename_i hhi
                  split at h
                  · rename_i pm m hbm
                    simp only [Option.some.injEq, Prod.mk.injEq] at h
                    obtain ⟨rfl, rfl⟩ := h
                    obtain ⟨q1, hq⟩ := wh_spec hq
                    obtain ⟨q2, hq⟩ := wh_spec hq
                    obtain ⟨q3, h1, h2, h3⟩ := wh_spec hq
                    exact done m h3 h2 h1 (.inr trivial) (bdU_ok hr hbl q1) (bdU_ok hr hbh q2) (bdU_ok hr hbm q3) (.inr fun e => by subst e; cases hhi)
                  · cases h
            · cases h
          · cases h
        · cases h
      · cases h
    · cases h
  · cases h
theorem pureU_ok {p : Option Prop} {v : V} (h : pureU P ρ o = some (p, v)) (hq : hs p) : PureOk P ρ o v := by
  unfold pureU at h
  split at h
  · rename_i op t x y yt ho
    split at h
    · rename_i v' hv
      simp only [Option.some.injEq, Prod.mk.injEq] at h
      obtain ⟨rfl, rfl⟩ := h
      exact vcEqV_ok hv
    · cases h
  · rename_i t x i ho
    exact idxU_ok ho h hq
  · rename_i t x j ho
    have place : ∀ {k : Nat} {b off : Nat}, offV P t j = some k → ∀ w, (Instr.fieldAt t (.pointer (some ⟨b, off, none⟩)) j).run P w = .ok (.pointer (some ⟨b, off + k, none⟩)) w := by
      intro k b off hk w
      unfold offV at hk
      split at hk
      · rename_i fs hu
        split at hk
        · rename_i f hf
          have hf' : fs[j]? = some f := by simpa using hf
          split at hk
          · cases hk
          · rename_i n hn
            simp only [Option.some.injEq] at hk; subst hk
            simp only [Instr.fieldAt, Sem.run_bind, run_underlying hu, Result.andThen_ok, hf', Instr.sureAddr, Sem.run_pure, fieldPlace, run_sizeV hn]
            rw [if_neg (Nat.succ_ne_zero _)]
            simp only [Sem.run_pure, Result.andThen_ok, Addr.add_lit]
          · cases hk
        · cases hk
      · cases hk
    split at h
    · rename_i id i z off hx
      split at h
      · rename_i k hk
        simp only [Option.some.injEq, Prod.mk.injEq] at h
        obtain ⟨rfl, rfl⟩ := h
        intro R a hr
        have hv := hr _ _ hx
        generalize hxx : a.eval x = xx at hv
        cases hv with
        | ep _ _ _ hR =>
          refine ⟨_, .ep _ _ _ hR, fun w => ?_⟩
          simp only [execOp, ho, hxx, Sem.run_bind, place hk w, Result.andThen_ok]
          rw [Nat.add_assoc]; rfl
      · cases h
    · rename_i b o' i z off f hx
      split at h
      · rename_i k hk
        simp only [Option.some.injEq, Prod.mk.injEq] at h
        obtain ⟨rfl, rfl⟩ := h
        intro R a hr
        have hv := hr _ _ hx
        generalize hxx : a.eval x = xx at hv
        cases hv with
        | xp _ _ _ _ _ _ =>
          refine ⟨_, .xp _ _ _ _ _ _, fun w => ?_⟩
          simp only [execOp, ho, hxx, Sem.run_bind, place hk w, Result.andThen_ok]
          rw [Nat.add_assoc]; rfl
      · cases h
    · cases h
  · rename_i x ho
    split at h
    · rename_i id i z off hx
      simp only [Option.some.injEq, Prod.mk.injEq] at h
      obtain ⟨rfl, rfl⟩ := h
      intro R a hr
      have hv := hr _ _ hx
      generalize hxx : a.eval x = xx at hv
      refine ⟨xx, hv, fun w => ?_⟩
      cases hv
      simp [execOp, ho, hxx]
    · rename_i b o' i z off f hx
      simp only [Option.some.injEq, Prod.mk.injEq] at h
      obtain ⟨rfl, rfl⟩ := h
      intro R a hr
      have hv := hr _ _ hx
      generalize hxx : a.eval x = xx at hv
      refine ⟨xx, hv, fun w => ?_⟩
      cases hv
      simp [execOp, ho, hxx]
    · cases h
  · rename_i t x lo hi mx ho
    exact sliceU_ok ho h hq
  · rename_i callee args argTypes ho
    split at h
    · split at h
      · rename_i x t hx0 ht0
        have hx0 : args = #[x] := by rw [← Array.toList_inj]; exact hx0
        have ht0 : argTypes = #[t] := by rw [← Array.toList_inj]; exact ht0
        subst hx0; subst ht0
        split at h
        · rename_i n _ _ hx
          split at h
          · rename_i e hu
            simp only [Option.some.injEq, Prod.mk.injEq] at h
            obtain ⟨rfl, rfl⟩ := h
            intro R a hr
            have hv := hr _ _ hx
            generalize hxx : a.eval x = xx at hv
            cases hv
            exact ⟨_, .lit _, fun w => by simp [execOp, ho, hxx, resolve, invoke, builtin, Builtin.len_, run_underlying hu, goInt]⟩
          · cases h
        · cases h
      · cases h
    · split at h
      · rename_i x t hx0 ht0
        have hx0 : args = #[x] := by rw [← Array.toList_inj]; exact hx0
        have ht0 : argTypes = #[t] := by rw [← Array.toList_inj]; exact ht0
        subst hx0; subst ht0
        split at h
        · rename_i c _ hx
          split at h
          · rename_i e hu
            simp only [Option.some.injEq, Prod.mk.injEq] at h
            obtain ⟨rfl, rfl⟩ := h
            intro R a hr
            have hv := hr _ _ hx
            generalize hxx : a.eval x = xx at hv
            cases hv
            exact ⟨_, .lit _, fun w => by simp [execOp, ho, hxx, resolve, invoke, builtin, Builtin.cap_, run_underlying hu, goInt]⟩
          · cases h
        · cases h
      · cases h
    · cases h
  · cases h
end
end Go.Vm
