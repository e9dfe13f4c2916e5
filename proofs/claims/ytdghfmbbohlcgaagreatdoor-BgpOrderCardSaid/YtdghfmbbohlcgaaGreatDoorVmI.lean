/- Regions that draw their order: what is asked of the region's text. -/
import Derived.Test.YtdghfmbbohlcgaaGreatDoorVmH
set_option linter.unusedVariables false
set_option linter.unusedSimpArgs false
namespace Go.Vm
open Go.RowKit

def bnd (e : Edge) : Bool := Region.binds .any e
def hasE (o : Oper) (i : Nat) : Bool := o.after.toList.any fun e => bnd e && Nat.beq e.on i
def dstIx : List Oper → Nat → Nat → Option Nat
  | [], _, _ => none
  | o :: l, k, t => match o.dst with
    | some d => match Nat.beq d t with
      | true => some k
      | false => dstIx l (Nat.succ k) t
    | none => dstIx l (Nat.succ k) t
theorem dstIx_some : ∀ {l : List Oper} {k t i : Nat}, dstIx l k t = some i → k ≤ i ∧ ∃ o, l[i - k]? = some o ∧ o.dst = some t
  | [], _, _, _, h => by cases h
  | o :: l, k, t, i, h => by
    simp only [dstIx] at h
    split at h
    · rename_i d hd
      split at h
      · rename_i hb
        simp only [Option.some.injEq] at h
        subst h
        exact ⟨Nat.le_refl _, o, by simp, by rw [hd, Nat.eq_of_beq_eq_true hb]⟩
      · obtain ⟨h1, o', h2, h3⟩ := dstIx_some h
        have h1 : k + 1 ≤ i := h1
        refine ⟨by omega, o', ?_, h3⟩
        rw [show i - k = (i - Nat.succ k) + 1 by simp only [Nat.succ_eq_add_one]; omega]
        simpa using h2
    · obtain ⟨h1, o', h2, h3⟩ := dstIx_some h
      have h1 : k + 1 ≤ i := h1
      refine ⟨by omega, o', ?_, h3⟩
      rw [show i - k = (i - Nat.succ k) + 1 by simp only [Nat.succ_eq_add_one]; omega]
      simpa using h2
theorem dstIx_mem : ∀ {l : List Oper} {k t j : Nat} {o : Oper}, l[j]? = some o → o.dst = some t → ∃ i, dstIx l k t = some i
  | [], _, _, _, _, h, _ => by simp at h
  | x :: l, k, t, j, o, h, ho => by
    simp only [dstIx]
    split
    · rename_i d hd
      split
      · exact ⟨_, rfl⟩
      · rename_i hb
        cases j with
        | zero =>
          simp only [List.getElem?_cons_zero, Option.some.injEq] at h
          subst h
          rw [hd] at ho
          simp only [Option.some.injEq] at ho
          subst ho
          simp at hb
        | succ j => exact dstIx_mem (by simpa using h) ho
    · rename_i hd
      cases j with
      | zero =>
        simp only [List.getElem?_cons_zero, Option.some.injEq] at h
        subst h
        rw [hd] at ho
        cases ho
      | succ j => exact dstIx_mem (by simpa using h) ho
/-- The temporaries that an operation looks at. -/
def tmpsOf : List Operand → List Nat
  | [] => []
  | x :: l => match x with
    | .tmp t => t :: tmpsOf l
    | _ => tmpsOf l
def looksV (ops : List Oper) (o : Oper) : List Nat :=
  tmpsOf o.op.operands.toList ++ (match o.guard with
    | some (g, _) => match ops[g]? with
      | some og => match og.dst with
        | some t => [t]
        | none => []
      | none => []
    | none => [])
def okAt (ops : List Oper) (k : Nat) (o : Oper) : Bool :=
  (o.after.toList.all fun e => !bnd e || Nat.ble (Nat.succ e.on) k) &&
  ((looksV ops o).all fun t => match dstIx ops 0 t with
    | none => true
    | some i => match Nat.ble (Nat.succ i) k with
      | true => hasE o i
      | false => match Nat.beq i k with
        | true => true
        | false => match ops[i]? with
          | some o' => hasE o' k
          | none => true) &&
  (match o.dst with
    | some d => match dstIx ops 0 d with
      | some i => Nat.beq i k
      | none => false
    | none => true) &&
  (match o.op with
    | .select _ _ => false
    | _ => true)
def okFrom (ops : List Oper) : Nat → List Oper → Bool
  | _, [] => true
  | k, o :: l => match okAt ops k o with
    | true => okFrom ops (Nat.succ k) l
    | false => false
def regOk (ops : List Oper) : Bool := okFrom ops 0 ops
theorem okFrom_at {ops : List Oper} : ∀ {l : List Oper} {k j : Nat} {o : Oper}, okFrom ops k l = true → l[j]? = some o → okAt ops (k + j) o = true
  | [], _, _, _, _, h => by simp at h
  | x :: l, k, j, o, hb, h => by
    simp only [okFrom] at hb
    split at hb
    · rename_i hx
      cases j with
      | zero =>
        simp only [List.getElem?_cons_zero, Option.some.injEq] at h
        subst h
        exact hx
      | succ j =>
        have := okFrom_at hb (by simpa using h)
        rw [show k + (j + 1) = Nat.succ k + j by simp only [Nat.succ_eq_add_one]; omega]
        exact this
    · cases hb
/-- What the look gives. -/
structure RegOk (ops : List Oper) : Prop where
  back : ∀ (k : Nat) (o : Oper) (e : Edge), ops[k]? = some o → e ∈ o.after → Region.binds .any e = true → e.on < k
  rd : ∀ (k : Nat) (o : Oper) (t i : Nat) (o' : Oper), ops[k]? = some o → t ∈ looksV ops o → ops[i]? = some o' → o'.dst = some t → (i < k ∧ ∃ e ∈ o.after, Region.binds .any e = true ∧ e.on = i) ∨ i = k ∨ (k < i ∧ ∃ e ∈ o'.after, Region.binds .any e = true ∧ e.on = k)
  uniq : ∀ (i j : Nat) (o o' : Oper) (d : Nat), ops[i]? = some o → ops[j]? = some o' → o.dst = some d → o'.dst = some d → i = j
theorem hasE_spec {o : Oper} {i : Nat} (h : hasE o i = true) : ∃ e ∈ o.after, Region.binds .any e = true ∧ e.on = i := by
  simp only [hasE, List.any_eq_true, Bool.and_eq_true] at h
  obtain ⟨e, he, h1, h2⟩ := h
  exact ⟨e, by simpa using he, h1, Nat.eq_of_beq_eq_true h2⟩
theorem regOk_spec {ops : List Oper} (h : regOk ops = true) : RegOk ops := by
  have at_ : ∀ {k : Nat} {o : Oper}, ops[k]? = some o → okAt ops k o = true := fun hk => by
    have := okFrom_at h hk
    simpa using this
  have dst_ : ∀ {k : Nat} {o : Oper} {d : Nat}, ops[k]? = some o → o.dst = some d → dstIx ops 0 d = some k := by
    intro k o d hk hd
    have := at_ hk
    simp only [okAt, Bool.and_eq_true] at this
    have := this.1.2
    rw [hd] at this
    simp only at this
    split at this
    · rename_i i hi; rw [hi, Nat.eq_of_beq_eq_true this]
    · cases this
  refine ⟨?_, ?_, ?_⟩
  · intro k o e hk he hb
    have := at_ hk
    simp only [okAt, Bool.and_eq_true, List.all_eq_true] at this
    have := this.1.1.1 e (by simpa using he)
    simp only [bnd, hb, Bool.not_true, Bool.false_or] at this
    exact Nat.le_of_ble_eq_true this
  · intro k o t i o' hk ht hi hd
    have := at_ hk
    simp only [okAt, Bool.and_eq_true, List.all_eq_true] at this
    have := this.1.1.2 t ht
    rw [dst_ hi hd] at this
    simp only at this
    split at this
    · rename_i hlt
      exact .inl ⟨Nat.le_of_ble_eq_true hlt, hasE_spec this⟩
    · rename_i hlt
      split at this
      · rename_i he
        exact .inr (.inl (Nat.eq_of_beq_eq_true he))
      · rename_i hne
        rw [hi] at this
        simp only at this
        refine .inr (.inr ⟨?_, hasE_spec this⟩)
        have h1 : ¬ i < k := fun hh => by rw [show Nat.ble (Nat.succ i) k = true from Nat.ble_eq_true_of_le hh] at hlt; cases hlt
        have h2 : i ≠ k := fun e => by subst e; simp at hne
        omega
  · intro i j o o' d hi hj h1 h2
    have := dst_ hi h1
    rw [dst_ hj h2] at this
    simp only [Option.some.injEq] at this
    exact this.symm

/-! ### what stands before what -/
def maskOf (acc : List Nat) : List Edge → Nat
  | [] => 0
  | e :: l => match bnd e with
    | true => Nat.lor (Nat.lor (Nat.pow 2 e.on) (acc.getD e.on 0)) (maskOf acc l)
    | false => maskOf acc l
def masks : List Oper → List Nat → List Nat
  | [], acc => acc
  | o :: l, acc => masks l (acc ++ [maskOf acc o.after.toList])
/-- Number i stands before number j. -/
def bef (ms : List Nat) (i j : Nat) : Bool := Nat.testBit (ms.getD j 0) i
theorem maskOf_bit {acc : List Nat} {i : Nat} : ∀ {l : List Edge}, Nat.testBit (maskOf acc l) i = true → ∃ e ∈ l, bnd e = true ∧ (e.on = i ∨ Nat.testBit (acc.getD e.on 0) i = true)
  | [], h => by simp [maskOf] at h
  | e :: l, h => by
    simp only [maskOf] at h
    split at h
    · rename_i hb
      have h : ((2 ^ e.on ||| acc.getD e.on 0) ||| maskOf acc l).testBit i = true := h
      rw [Nat.testBit_or, Nat.testBit_or, Bool.or_eq_true, Bool.or_eq_true] at h
      rcases h with (h | h) | h
      · rw [Nat.testBit_two_pow] at h
        exact ⟨e, by simp, hb, .inl (by simpa using h)⟩
      · exact ⟨e, by simp, hb, .inr h⟩
      · obtain ⟨e', h1, h2⟩ := maskOf_bit h
        exact ⟨e', by simp [h1], h2⟩
    · obtain ⟨e', h1, h2⟩ := maskOf_bit h
      exact ⟨e', by simp [h1], h2⟩
theorem masks_len : ∀ (l : List Oper) (acc : List Nat), (masks l acc).length = acc.length + l.length
  | [], acc => rfl
  | o :: l, acc => by simp only [masks]; rw [masks_len l]; simp; omega
theorem masks_pre : ∀ (l : List Oper) (acc : List Nat) (j : Nat), j < acc.length → (masks l acc).getD j 0 = acc.getD j 0
  | [], acc, j, h => rfl
  | o :: l, acc, j, h => by
    simp only [masks]
    rw [masks_pre l _ j (by simp; omega)]
    simp [List.getD_eq_getElem?_getD, List.getElem?_append, h]
theorem masks_at : ∀ (l : List Oper) (acc : List Nat) (j : Nat) (o : Oper), l[j]? = some o → ∃ acc', (masks l acc).getD (acc.length + j) 0 = maskOf acc' o.after.toList ∧ ∀ k, k < acc.length + j → acc'.getD k 0 = (masks l acc).getD k 0
  | [], acc, j, o, h => by simp at h
  | x :: l, acc, 0, o, h => by
    simp only [List.getElem?_cons_zero, Option.some.injEq] at h
    subst h
    refine ⟨acc, ?_, fun k hk => ?_⟩
    · simp only [masks, Nat.add_zero]
      rw [masks_pre l _ _ (by simp)]
      simp [List.getD_eq_getElem?_getD]
    · simp only [masks]
      rw [masks_pre l _ k (by simp; omega)]
      simp only [Nat.add_zero] at hk
      simp [List.getD_eq_getElem?_getD, List.getElem?_append, hk]
  | x :: l, acc, j + 1, o, h => by
    simp only [List.getElem?_cons_succ] at h
    obtain ⟨acc', h1, h2⟩ := masks_at l (acc ++ [maskOf acc x.after.toList]) j o h
    simp only [List.length_append, List.length_cons, List.length_nil] at h1 h2
    refine ⟨acc', ?_, fun k hk => ?_⟩
    · simp only [masks]
      rw [← h1]
      congr 1
      omega
    · simp only [masks]
      exact h2 k (by omega)
/-- Of what has come up, all has come up that stands before it. -/
theorem bef_closed {ops : List Oper} (hR : RegOk ops) {E : Nat → Prop} (hE : ∀ k o e, E k → ops[k]? = some o → e ∈ o.after → Region.binds .any e = true → E e.on) :
    ∀ (j : Nat) (o : Oper), ops[j]? = some o → (∀ e ∈ o.after, Region.binds .any e = true → E e.on) → ∀ i, bef (masks ops []) i j = true → E i := by
  intro j
  induction j using Nat.strongRecOn with
  | _ j ih =>
    intro o ho hp i hb
    obtain ⟨acc', h1, h2⟩ := masks_at ops [] j o ho
    simp only [List.length_nil, Nat.zero_add] at h1 h2
    unfold bef at hb
    rw [h1] at hb
    obtain ⟨e, he, hbe, hor⟩ := maskOf_bit hb
    have he : e ∈ o.after := by simpa using he
    have hlt := hR.back j o e ho he hbe
    rcases hor with rfl | hor
    · exact hp e he hbe
    · rw [h2 _ hlt] at hor
      have hlen : e.on < ops.length := by
        have := (List.getElem?_eq_some_iff.1 ho).1
        omega
      exact ih e.on hlt _ (List.getElem?_eq_getElem hlen) (fun e' h' hb' => hE e.on _ e' (hp e he hbe) (List.getElem?_eq_getElem hlen) h' hb') i hor
theorem bef_lt {ops : List Oper} (hR : RegOk ops) {i j : Nat} (hj : j < ops.length) (hb : bef (masks ops []) i j = true) : i < j := by
  have := bef_closed hR (E := fun k => k < j) (fun k o e hk ho he hbe => by have := hR.back k o e ho he hbe; omega) j _ (List.getElem?_eq_getElem hj) (fun e he hbe => hR.back j _ e (List.getElem?_eq_getElem hj) he hbe) i hb
  exact this
end Go.Vm
