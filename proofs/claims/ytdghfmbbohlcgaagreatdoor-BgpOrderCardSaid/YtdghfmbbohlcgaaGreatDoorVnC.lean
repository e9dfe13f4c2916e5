/- Arguments, opened. -/
import Derived.Test.YtdghfmbbohlcgaaGreatDoorVnB
import Derived.ChangeShapes
import Derived.WideShapes
import Derived.Carry
set_option linter.unusedVariables false
namespace Go.Vm
open Go.RowKit Go.ChangeShapes Go.WideShapes
section
variable {H : Type} {enc : TypeId × Value → H} {P : Program} {w : World}
/-- A struct. -/
theorem arg_struct {k : Nat} {t : TypeId} {ks : List CK} {r : Reach} {base : Nat} {v : Value} {d : DataW H} {ps : List MemPlace} {sp : Nat → Bool} {hd : Bool} (hs : sp = fun _ => true) (hu : (match P.underlying t with | some (.struct _) => true | _ => false) = true) (hk : ckOf P k t = some ks)
    (hval : Value.okWide P w r base t v) (h : DataW.Trod enc P w 0 sp hd t v d ps) : ∃ cs : List Value, v = .agg cs.toArray ∧ OpL w ks cs := by
  subst hs
  split at hu <;> first | exact absurd hu Bool.false_ne_true | skip
  rename_i fs hu'
  unfold Value.okWide at hval
  rw [hu'] at hval
  obtain ⟨cs, rfl, -⟩ := hval
  obtain ⟨fuel, hx⟩ := h
  exact ⟨cs.toList, by simp, ck_open (k + 1) k _ _ _ _ _ (Nat.lt_succ_self _) hk hx⟩
/-- Anything else. -/
theorem arg_one {k : Nat} {t : TypeId} {q : CK} {r : Reach} {base : Nat} {v : Value} {d : DataW H} {ps : List MemPlace} {sp : Nat → Bool} {hd : Bool} (hs : sp = fun _ => true)
    (hu : (match P.underlying t with | some (.struct _) => false | some (.array _ _) => false | some (.int _) => true | some .bool => true | some .string => true | some (.slice _) => true | _ => false) = true) (hk : ckOf P k t = some [q])
    (hval : Value.okWide P w r base t v) (h : DataW.Trod enc P w 0 sp hd t v d ps) : OpK w q v := by
  subst hs
  obtain ⟨fuel, hx⟩ := h
  have hl := ck_open (k + 1) k _ _ _ _ _ (Nat.lt_succ_self _) hk hx
  have hna : ∀ cs, v ≠ .agg cs := by
    rintro cs rfl
    unfold Value.okWide at hval
    split at hu <;> first | exact absurd hu Bool.false_ne_true | (rename_i hq; rw [hq] at hval; simp [Cell.okWide, Cell.ok, hq] at hval)
  have : v.cells.toList = [v] := by cases v <;> first | rfl | exact absurd rfl (hna _)
  rw [this] at hl
  cases hl with
  | cons h t => exact h
/-- Arguments read behind the call as they did before it. -/
theorem trodAll_stays {W W' : World} {sp : Nat → Bool} (hl : laidOutB P = true) (hb : Below W.heap.size W W') : ∀ (ts : List TypeId) (vs : List Value) (ds : List (DataW H)) (ps : List MemPlace), (∀ t ∈ ts, P.readableRec t = true ∧ t < P.types.size) →
    DataW.TrodAll enc P W 0 (fun _ => true) true ts vs ds ps → (∀ x ∈ ps, x.block < W.heap.size) → (∀ x ∈ ps, sp x.block = true) → DataW.TrodAll enc P W' 0 sp true ts vs ds ps
  | [], vs, ds, ps, _, h, _, _ => by
    cases vs <;> cases ds <;> first | exact h | exact h.elim
  | t :: ts, vs, ds, ps, ht, h, hlt, hsp => by
    obtain ⟨v, vs', d, ds', p, q, rfl, rfl, rfl, h1, h2⟩ := trodAll_cons h
    have hp : ∀ x ∈ p, x.block < W.heap.size := fun x hx => hlt x (List.mem_append_left _ hx)
    exact ⟨p, q, WideElems.Trod_stays hl (ht t (.head _)).1 (ht t (.head _)).2 h1 (fun x hx => hb.same (hp x hx)) (fun x hx => hsp x (List.mem_append_left _ hx)), trodAll_stays hl hb ts vs' ds' q (fun u hu => ht u (.tail _ hu)) h2 (fun x hx => hlt x (List.mem_append_right _ hx)) (fun x hx => hsp x (List.mem_append_right _ hx)), rfl⟩
end
/-- A slice of numbers. -/
theorem nums_open {w : World} {R : Rel} {k : IntKind} {v : Value} (h : OpK w (.sl [.i k]) v) : ∃ b o n c f, VR R (.xs b o 0 1 n c f) v := by
  obtain ⟨b, o, c, l, h1, -⟩ := OpK.slice (R := R) (α := Int) (es := [.i k]) (fun n => [.lit (.int k n)]) (fun _ => True) (Nat.zero_lt_one : 0 < 1) (fun cs hc => by
    cases hc with
    | cons h t => cases t; cases h with | i _ n _ => exact ⟨n, .cons (.lit _) .nil, trivial⟩) h
  exact ⟨b, o, _, c, _, h1⟩
end Go.Vm
