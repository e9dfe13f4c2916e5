/- An evaluator of the program's text over an abstract memory, and what it says of a real one: values, memory, how they stand to the model's. -/
import Derived.Below
import Derived.Tactics
import Derived.KernelRfl
import Derived.Laws.World
import Derived.Laws.Sem
import Derived.Laws.Cells
import Derived.Laws.CopyRow
import Derived.Laws.AppendOwn
import Derived.Maps.AppendAt
import Derived.Deep.Quiet
set_option linter.unusedVariables false
set_option linter.unusedSimpArgs false
namespace Go.Vm
open Go.RowKit

/-! ### what asks the program alone -/
def pr {α : Type} (P : Program) : Sem α → Option α
  | .pure a => some a
  | .program k => pr P (k P)
  | .mark _ k => pr P k
  | _ => none
theorem pr_run {α : Type} {P : Program} {s : Sem α} {a : α} (h : pr P s = some a) (w : World) : s.run P w = .ok a w := by
  induction s with
  | pure x => simp only [pr, Option.some.injEq] at h; subst h; rfl
  | program k ih => simp only [pr] at h; rw [Sem.run]; exact ih P h
  | mark m k ih => simp only [pr] at h; rw [Sem.run]; exact ih h
  | _ => simp [pr] at h

/-! ### a map from numbers -/
inductive PT (α : Type) where
  | nil
  | nd (v : Option α) (l r : PT α)
variable {α : Type}
def PT.get : PT α → Nat → Option α
  | .nil, _ => none
  | .nd v l r, k => match k with
    | 0 => v
    | k + 1 => match Nat.mod k 2 with
      | 0 => l.get (Nat.div k 2)
      | _ + 1 => r.get (Nat.div k 2)
def PT.upd (f : Nat) : PT α → Nat → Option α → PT α :=
  Nat.rec (fun t _ _ => t) (fun _ ih t k x => match t with
    | .nil => match k with
      | 0 => .nd x .nil .nil
      | k + 1 => match Nat.mod k 2 with
        | 0 => .nd none (ih .nil (Nat.div k 2) x) .nil
        | _ + 1 => .nd none .nil (ih .nil (Nat.div k 2) x)
    | .nd v l r => match k with
      | 0 => .nd x l r
      | k + 1 => match Nat.mod k 2 with
        | 0 => .nd v (ih l (Nat.div k 2) x) r
        | _ + 1 => .nd v l (ih r (Nat.div k 2) x)) f
theorem PT.get_nil (k : Nat) : (PT.nil : PT α).get k = none := rfl
theorem div_lt2 (k : Nat) : Nat.div k 2 < k + 1 := by show k / 2 < k + 1; omega
theorem half_eq {k j : Nat} (h : Nat.div k 2 = Nat.div j 2) (hm : Nat.mod k 2 = Nat.mod j 2) : k = j := by
  have h : k / 2 = j / 2 := h
  have hm : k % 2 = j % 2 := hm
  omega
theorem PT.get_upd : ∀ (f : Nat) (t : PT α) (k : Nat) (x : Option α) (j : Nat), k < f → (PT.upd f t k x).get j = if j = k then x else t.get j := by
  intro f
  induction f with
  | zero => intro t k x j h; omega
  | succ f ih =>
    intro t k x j hk
    have sub : ∀ (t : PT α) (k j : Nat), Nat.mod k 2 = Nat.mod j 2 → k + 1 < f + 1 → (PT.upd f t (Nat.div k 2) x).get (Nat.div j 2) = if j + 1 = k + 1 then x else t.get (Nat.div j 2) := by
      intro t k j hm hkf
      rw [ih t (Nat.div k 2) x (Nat.div j 2) (by have := div_lt2 k; omega)]
      by_cases h : j = k
      · subst h; simp
      · rw [if_neg (fun e => h (half_eq e hm.symm)), if_neg (by omega)]
    cases t with
    | nil =>
      cases k with
      | zero => cases j with
        | zero => rfl
        | succ j => simp only [if_neg (Nat.succ_ne_zero j)]; show (PT.nd x .nil .nil).get (j + 1) = _; simp only [PT.get]; split <;> rfl
      | succ k =>
        have e : PT.upd (f + 1) (.nil : PT α) (k + 1) x = match Nat.mod k 2 with
          | 0 => .nd none (PT.upd f .nil (Nat.div k 2) x) .nil
          | _ + 1 => .nd none .nil (PT.upd f .nil (Nat.div k 2) x) := rfl
        rw [e]
        cases j with
        | zero => rw [if_neg (by omega)]; split <;> rfl
        | succ j =>
          split
          · rename_i h0
            simp only [PT.get]
            split
            · rename_i h1; rw [sub .nil k j (h0.trans h1.symm) hk]; rfl
            · rename_i h1; rw [if_neg (by intro e; have : j = k := by omega
                                          subst this; omega)]
          · rename_i n h0
            simp only [PT.get]
            split
            · rename_i h1; rw [if_neg (by intro e; have : j = k := by omega
                                          subst this; omega)]
            · rename_i n1 h1
              have hm : Nat.mod k 2 = Nat.mod j 2 := by
                have a : k % 2 = n + 1 := h0
                have b : j % 2 = n1 + 1 := h1
                show k % 2 = j % 2
                omega
              rw [sub .nil k j hm hk]; rfl
    | nd v l r =>
      cases k with
      | zero => cases j with
        | zero => rfl
        | succ j => simp only [if_neg (Nat.succ_ne_zero j)]; rfl
      | succ k =>
        have e : PT.upd (f + 1) (.nd v l r) (k + 1) x = match Nat.mod k 2 with
          | 0 => .nd v (PT.upd f l (Nat.div k 2) x) r
          | _ + 1 => .nd v l (PT.upd f r (Nat.div k 2) x) := rfl
        rw [e]
        cases j with
        | zero => rw [if_neg (by omega)]; split <;> rfl
        | succ j =>
          split
          · rename_i h0
            simp only [PT.get]
            split
            · rename_i h1; exact sub l k j (h0.trans h1.symm) hk
            · rename_i h1; rw [if_neg (by intro e; have : j = k := by omega
                                          subst this; omega)]
          · rename_i n h0
            simp only [PT.get]
            split
            · rename_i h1; rw [if_neg (by intro e; have : j = k := by omega
                                          subst this; omega)]
            · rename_i n1 h1
              have hm : Nat.mod k 2 = Nat.mod j 2 := by
                have a : k % 2 = n + 1 := h0
                have b : j % 2 = n1 + 1 := h1
                show k % 2 = j % 2
                omega
              exact sub r k j hm hk
def PT.put (t : PT α) (k : Nat) (x : Option α) : PT α := PT.upd (Nat.succ k) t k x
theorem PT.get_put (t : PT α) (k : Nat) (x : Option α) (j : Nat) : (t.put k x).get j = if j = k then x else t.get j := PT.get_upd _ t k x j (Nat.lt_succ_self _)

/-! ### values -/
inductive V where
  | lit (x : Value)
  | ptr (id off : Nat)
  | sl (id off n c : Nat)
  | osl (id i sz n : Nat)
  | mp (id : Nat)
  | fn (g : FuncId) (first caps : List V)
  | agg (cs : List V)
  | tup (cs : List V)
  | ep (id i sz off : Nat)
  | xs (b o i sz n c : Nat) (f : Nat → List V)
  | xp (b o i sz off : Nat) (f : Nat → List V)
/-- A number, a block, and how much room there is (none: no block at all). -/
abbrev Rel := Nat → Nat → Option Nat → Prop
mutual
inductive VR (R : Rel) : V → Value → Prop
  | lit (x : Value) : VR R (.lit x) x
  | ptr {id b c : Nat} (off : Nat) (h : R id b (some c)) : VR R (.ptr id off) (.pointer (some ⟨b, off, none⟩))
  | sl {id b c : Nat} (off n k : Nat) (h : R id b (some c)) : VR R (.sl id off n k) (.slice (some ⟨b, off, none⟩) n k)
  | osl {id b c : Nat} (i sz n : Nat) {p : Option Addr} (h : R id b (some c)) (hn : i + n ≤ c) (hp : i < c → p = some ⟨b, i * sz, none⟩) : VR R (.osl id i sz n) (.slice p n (c - i))
  | osl0 {id b : Nat} (sz : Nat) {p : Option Addr} (h : R id b none) : VR R (.osl id 0 sz 0) (.slice p 0 0)
  | ep {id b c : Nat} (i sz off : Nat) (h : R id b (some c)) : VR R (.ep id i sz off) (.pointer (some ⟨b, i * sz + off, none⟩))
  | xs (b o i sz : Nat) {n c : Nat} (f : Nat → List V) {p : Option Addr} (hn : n ≤ c) (hp : c ≠ 0 → p = some ⟨b, o + i * sz, none⟩) : VR R (.xs b o i sz n c f) (.slice p n c)
  | xp (b o i sz off : Nat) (f : Nat → List V) : VR R (.xp b o i sz off f) (.pointer (some ⟨b, o + i * sz + off, none⟩))
  | mp {id b c : Nat} (h : R id b (some c)) : VR R (.mp id) (.map (some b))
  | fn (g : FuncId) {first caps : List V} {xs ys : List Value} (h1 : VRs R first xs) (h2 : VRs R caps ys) : VR R (.fn g first caps) (.func (.func g) xs.toArray ys.toArray)
  | agg {cs : List V} {ys : List Value} (h : VRs R cs ys) : VR R (.agg cs) (.agg ys.toArray)
  | tup {cs : List V} {ys : List Value} (h : VRs R cs ys) : VR R (.tup cs) (.tuple ys.toArray)
inductive VRs (R : Rel) : List V → List Value → Prop
  | nil : VRs R [] []
  | cons {v : V} {y : Value} {vs : List V} {ys : List Value} (h : VR R v y) (t : VRs R vs ys) : VRs R (v :: vs) (y :: ys)
end
section
variable {R R' : Rel}
mutual
theorem VR.mono (hr : ∀ i b c, R i b c → R' i b c) : ∀ {v : V} {y : Value}, VR R v y → VR R' v y
  | _, _, .lit x => .lit x
  | _, _, .ptr off h => .ptr off (hr _ _ _ h)
  | _, _, .sl off n k h => .sl off n k (hr _ _ _ h)
  | _, _, .osl i sz n h hn hp => .osl i sz n (hr _ _ _ h) hn hp
  | _, _, .osl0 sz h => .osl0 sz (hr _ _ _ h)
  | _, _, .ep i sz off h => .ep i sz off (hr _ _ _ h)
  | _, _, .xs b o i sz f hn hp => .xs b o i sz f hn hp
  | _, _, .xp b o i sz off f => .xp b o i sz off f
  | _, _, .mp h => .mp (hr _ _ _ h)
  | _, _, .fn g h1 h2 => .fn g (VRs.mono hr h1) (VRs.mono hr h2)
  | _, _, .agg h => .agg (VRs.mono hr h)
  | _, _, .tup h => .tup (VRs.mono hr h)
theorem VRs.mono (hr : ∀ i b c, R i b c → R' i b c) : ∀ {v : List V} {y : List Value}, VRs R v y → VRs R' v y
  | _, _, .nil => .nil
  | _, _, .cons h t => .cons (VR.mono hr h) (VRs.mono hr t)
end
theorem VRs.length : ∀ {vs : List V} {ys : List Value}, VRs R vs ys → vs.length = ys.length
  | _, _, .nil => rfl
  | _, _, .cons _ t => by simp [t.length]
theorem VRs.get : ∀ {vs : List V} {ys : List Value} {i : Nat} {v : V}, VRs R vs ys → vs[i]? = some v → ∃ y, ys[i]? = some y ∧ VR R v y
  | _, _, _, _, .nil, h => by simp at h
  | _, _, 0, _, .cons h t, e => by simp only [List.getElem?_cons_zero, Option.some.injEq] at e; subst e; exact ⟨_, rfl, h⟩
  | _, _, i + 1, _, .cons h t, e => by simp only [List.getElem?_cons_succ] at e ⊢; exact t.get e
theorem VRs.append : ∀ {vs us : List V} {ys zs : List Value}, VRs R vs ys → VRs R us zs → VRs R (vs ++ us) (ys ++ zs)
  | _, _, _, _, .nil, k => k
  | _, _, _, _, .cons h t, k => .cons h (t.append k)
theorem VRs.take : ∀ {vs : List V} {ys : List Value} (n : Nat), VRs R vs ys → VRs R (vs.take n) (ys.take n)
  | _, _, 0, _ => by simp only [List.take_zero]; exact .nil
  | _, _, n + 1, .nil => by simp only [List.take_nil]; exact .nil
  | _, _, n + 1, .cons h t => by simp only [List.take_succ_cons]; exact .cons h (t.take n)
theorem VRs.drop : ∀ {vs : List V} {ys : List Value} (n : Nat), VRs R vs ys → VRs R (vs.drop n) (ys.drop n)
  | _, _, 0, h => by simp only [List.drop_zero]; exact h
  | _, _, n + 1, .nil => by simp only [List.drop_nil]; exact .nil
  | _, _, n + 1, .cons h t => by simp only [List.drop_succ_cons]; exact t.drop n
theorem VRs.lits : ∀ (l : List Value), VRs R (l.map .lit) l
  | [] => .nil
  | x :: l => .cons (.lit x) (VRs.lits l)
theorem VR.lit_inv {x y : Value} (h : VR R (.lit x) y) : y = x := by cases h; rfl
end

/-- The cells of a value. -/
def V.cells : V → List V
  | .agg cs => cs
  | .lit (.agg cs) => cs.toList.map .lit
  | v => [v]
theorem VR.cells {R : Rel} {v : V} {y : Value} (h : VR R v y) : VRs R v.cells y.cells.toList := by
  cases h with
  | lit =>
    cases y <;> first | exact .cons (.lit _) .nil | exact VRs.lits _
  | ptr off h => exact .cons (.ptr off h) .nil
  | sl off n k h => exact .cons (.sl off n k h) .nil
  | osl i sz n h hn hp => exact .cons (.osl i sz n h hn hp) .nil
  | osl0 sz h => exact .cons (.osl0 sz h) .nil
  | ep i sz off h => exact .cons (.ep i sz off h) .nil
  | xs b o i sz f hn hp => exact .cons (.xs b o i sz f hn hp) .nil
  | xp b o i sz off f => exact .cons (.xp b o i sz off f) .nil
  | mp h => exact .cons (.mp h) .nil
  | fn g h1 h2 => exact .cons (.fn g h1 h2) .nil
  | agg h => exact h
  | tup h => exact .cons (.tup h) .nil
def V.one : V → Bool
  | .agg _ | .tup _ => false
  | .lit x => x.oneCell'
  | _ => true
def V.ones : List V → Bool
  | [] => true
  | v :: l => match v.one with
    | true => V.ones l
    | false => false
theorem VR.one {R : Rel} {v : V} {y : Value} (h : VR R v y) (h1 : v.one = true) : y.oneCell' = true := by
  cases h <;> first | exact h1 | rfl | cases h1
theorem VRs.ones {R : Rel} : ∀ {vs : List V} {ys : List Value}, VRs R vs ys → V.ones vs = true → ∀ y ∈ ys, y.oneCell' = true
  | _, _, .nil, _, _, h => by cases h
  | _, _, .cons h t, h1, y, hy => by
    simp only [V.ones] at h1
    split at h1
    · rename_i h2
      rcases List.mem_cons.1 hy with rfl | hy
      · exact h.one h2
      · exact t.ones h1 y hy
    · cases h1
def litOf : V → Option Value
  | .lit x => some x
  | _ => none
def litsOf : List V → Option (List Value)
  | [] => some []
  | v :: l => match litOf v, litsOf l with
    | some x, some m => some (x :: m)
    | _, _ => none
theorem litsOf_ok {R : Rel} : ∀ {vs : List V} {ys xs : List Value}, VRs R vs ys → litsOf vs = some xs → ys = xs
  | _, _, _, .nil, h => by simp [litsOf] at h; exact h.symm
  | _, _, _, .cons (v := v) h t, e => by
    simp only [litsOf] at e
    split at e
    · rename_i x m h1 h2
      simp only [Option.some.injEq] at e
      subst e
      cases v <;> simp [litOf] at h1
      subst h1
      rw [h.lit_inv, litsOf_ok t h2]
    · cases e
/-- A value without an address of the memory's own. -/
def toVal : V → Option Value
  | .lit x => some x
  | .agg cs => match litsOf cs with
    | some l => some (.agg l.toArray)
    | none => none
  | .fn g first caps => match litsOf first, litsOf caps with
    | some l, some m => some (.func (.func g) l.toArray m.toArray)
    | _, _ => none
  | .tup cs => match litsOf cs with
    | some l => some (.tuple l.toArray)
    | none => none
  | _ => none
theorem toVal_ok {R : Rel} {v : V} {y x : Value} (h : VR R v y) (e : toVal v = some x) : y = x := by
  cases h <;> simp only [toVal] at e <;> try cases e
  · rfl
  · rename_i g first caps xs ys h1 h2
    split at e
    · rename_i l m e1 e2
      simp only [Option.some.injEq] at e; subst e
      rw [litsOf_ok h1 e1, litsOf_ok h2 e2]
    · cases e
  · rename_i h
    split at e
    · rename_i l e1
      simp only [Option.some.injEq] at e; subst e
      rw [litsOf_ok h e1]
    · cases e
  · rename_i h
    split at e
    · rename_i l e1
      simp only [Option.some.injEq] at e; subst e
      rw [litsOf_ok h e1]
    · cases e

/-! ### memory -/
abbrev View := Nat → Option Obj
def View.cell? (H : View) (a : Addr) : Option Value :=
  match H a.block with
  | some (.cells c _ _) => if a.spot.isSome then none else c[a.off]?
  | _ => none
def Agree (w : World) (H : View) : Prop := ∀ b o, H b = some o → w.heap[b]? = some o
theorem Agree.cell {w : World} {H : View} (h : Agree w H) {a : Addr} {v : Value} (hc : H.cell? a = some v) : w.cell? a = some v := by
  unfold View.cell? at hc
  unfold World.cell?
  split at hc
  · rename_i c e f hh
    rw [h _ _ hh]
    exact hc
  · cases hc
structure Ent where
  key : Value
  val : V
  born : Nat
inductive Ob where
  | cells (T : TypeId) (cs : List V)
  | row (T : TypeId) (sz : Nat) (cs : List V)
  | map (es : List Ent) (clock : Nat)
  | siter (s : ByteArray) (pos : Nat)
  | miter (m : Option Nat) (since : Nat) (seen : List Nat) (stepped : Nat)
  | ro (T : TypeId) (sz : Nat) (cs : List V)
  | fam (T : TypeId) (sz n : Nat) (f : Nat → List V)
  | fmap (es : List Ent) (clock : Nat) (lk : Value → Bool × V)
/-- The cells of elements, one behind the other. -/
def flat (n : Nat) (f : Nat → List V) : List V := Nat.rec [] (fun k ih => ih ++ f k) n
inductive ER (R : Rel) : List Ent → List MapEntry → Prop
  | nil : ER R [] []
  | cons {e : Ent} {y : Value} {es : List Ent} {ms : List MapEntry} (h : VR R e.val y) (t : ER R es ms) : ER R (e :: es) (⟨e.key, y, e.born⟩ :: ms)
theorem ER.mono {R R' : Rel} (hr : ∀ i b c, R i b c → R' i b c) : ∀ {es : List Ent} {ms : List MapEntry}, ER R es ms → ER R' es ms
  | _, _, .nil => .nil
  | _, _, .cons h t => .cons (h.mono hr) (t.mono hr)
/-- Nothing is related. -/
def R0 : Rel := fun _ _ _ => False
inductive ObR (R : Rel) : Ob → Nat → Obj → Prop
  | cells (T : TypeId) {cs : List V} {ys : List Value} (c : Nat) (h : VRs R cs ys) (h1 : ∀ y ∈ ys, y.oneCell' = true) : ObR R (.cells T cs) c (.cells ys.toArray T (0, 0))
  | row (T : TypeId) (sz : Nat) {cs : List V} {ys sp : List Value} (c : Nat) (h : VRs R cs ys) (h1 : ∀ y ∈ ys, y.oneCell' = true) (hc : (ys ++ sp).length = c * sz) (hm : c ≤ maxLen) : ObR R (.row T sz cs) c (.cells (ys ++ sp).toArray T (0, 0))
  | map {es : List Ent} {ms : List MapEntry} (clock c : Nat) (h : ER R es ms) : ObR R (.map es clock) c (.map ms.toArray clock)
  | siter (s : ByteArray) (pos c : Nat) : ObR R (.siter s pos) c (.stringIter s pos)
  | miterN (since : Nat) (seen : List Nat) (stepped c : Nat) : ObR R (.miter none since seen stepped) c (.mapIter none since seen.toArray stepped)
  | miter {m b c' : Nat} (h : R m b (some c')) (since : Nat) (seen : List Nat) (stepped c : Nat) : ObR R (.miter (some m) since seen stepped) c (.mapIter (some b) since seen.toArray stepped)
  | ro (T : TypeId) (sz : Nat) {cs : List V} {ys sp : List Value} (fz : Nat × Nat) (c : Nat) (h : VRs R cs ys) (h1 : ∀ y ∈ ys, y.oneCell' = true) : ObR R (.ro T sz cs) c (.cells (ys ++ sp).toArray T fz)
  | fam (T : TypeId) (sz : Nat) {n : Nat} {f : Nat → List V} {ys sp : List Value} (c : Nat) (hl : ∀ k, k < n → (f k).length = sz) (h : VRs R0 (flat n f) ys) (h1 : ∀ y ∈ ys, y.oneCell' = true) (hc : (ys ++ sp).length = c * sz) (hm : c ≤ maxLen) : ObR R (.fam T sz n f) c (.cells (ys ++ sp).toArray T (0, 0))
  | fmap {es : List Ent} {ms : List MapEntry} (clock c : Nat) (lk : Value → Bool × V) (h : ER R0 es ms) : ObR R (.fmap es clock lk) c (.map ms.toArray clock)
theorem ObR.mono {R R' : Rel} (hr : ∀ i b c, R i b c → R' i b c) {o : Ob} {c : Nat} {x : Obj} (h : ObR R o c x) : ObR R' o c x := by
  cases h with
  | cells T c h h1 => exact .cells T c (h.mono hr) h1
  | row T sz c h h1 hc hm => exact .row T sz c (h.mono hr) h1 hc hm
  | map clock c h => exact .map clock c (h.mono hr)
  | siter s pos c => exact .siter s pos c
  | miterN a b d => exact .miterN a b d c
  | miter h a b d => exact .miter (hr _ _ _ h) a b d c
  | ro T sz fz c h h1 => exact .ro T sz fz c (h.mono hr) h1
  | fam T sz c hl h h1 hc hm => exact .fam T sz c hl h h1 hc hm
  | fmap clock c lk h => exact .fmap clock c lk h
/-- A row of no elements may stand without a block. -/
def Ob.isVoid : Ob → Bool
  | .fam _ _ n _ => Nat.beq n 0
  | _ => false
/-- How the abstract memory stands to a world. -/
structure Cn (H : View) (R : Rel) (hp : PT Ob) (w : World) : Prop where
  agree : Agree w H
  all : ∀ id o, hp.get id = some o → (o.isVoid = true ∧ ∃ b, R id b none) ∨ ∃ b c x, R id b (some c) ∧ H b = none ∧ w.heap[b]? = some x ∧ ObR R o c x
  fn : ∀ id b c b' c', R id b c → R id b' c' → b = b' ∧ c = c'
  inj : ∀ id id' o o' b c c', hp.get id = some o → hp.get id' = some o' → R id b (some c) → R id' b (some c') → id = id'
theorem Cn.obj {H : View} {R : Rel} {hp : PT Ob} {w : World} (h : Cn H R hp w) (id : Nat) (o : Ob) (hg : hp.get id = some o) (hv : o.isVoid = false) : ∃ b c x, R id b (some c) ∧ H b = none ∧ w.heap[b]? = some x ∧ ObR R o c x := by
  rcases h.all id o hg with ⟨k, _⟩ | k
  · rw [hv] at k; cases k
  · exact k
theorem Cn.notVoid {H : View} {R : Rel} {hp : PT Ob} {w : World} (h : Cn H R hp w) {id : Nat} {o : Ob} (hg : hp.get id = some o) (hv : o.isVoid = false) {b : Nat} (hr : R id b none) : False := by
  obtain ⟨b', c', _, k1, _⟩ := h.obj id o hg hv
  cases (h.fn _ _ _ _ _ hr k1).2
theorem Cn.at {H : View} {R : Rel} {hp : PT Ob} {w : World} (h : Cn H R hp w) {id : Nat} {o : Ob} (hg : hp.get id = some o) {b c : Nat} (hr : R id b (some c)) : ∃ x, H b = none ∧ w.heap[b]? = some x ∧ ObR R o c x := by
  rcases h.all id o hg with ⟨_, b', k⟩ | ⟨b', c', x, k1, k2, k3, k4⟩
  · have := (h.fn _ _ _ _ _ hr k).2; cases this
  · obtain ⟨rfl, e⟩ := h.fn _ _ _ _ _ hr k1
    cases e
    exact ⟨x, k2, k3, k4⟩
/-- One step, or many: what has come, and what stays. -/
structure St (R : Rel) (nx : Nat) (hp : PT Ob) (w : World) (R' : Rel) (nx' : Nat) (hp' : PT Ob) (w' : World) : Prop where
  grow : ∀ i b c, R i b c → R' i b c
  dom : ∀ i b c, R' i b c → R i b c ∨ (nx ≤ i ∧ i < nx' ∧ (c = none ∨ w.heap.size ≤ b ∨ ∃ i0 c0 o, R i0 b (some c0) ∧ hp.get i0 = some o))
  dead : ∀ i, i < nx → hp.get i = none → hp'.get i = none
  le : nx ≤ nx'
  below : Below 0 w w'
  fr : ∀ b o, w.heap[b]? = some o → (∀ i c, R i b (some c) → hp.get i = none) → w'.heap[b]? = some o
section
variable {H : View} {R R' R'' : Rel} {nx nx' nx'' : Nat} {hp hp' hp'' : PT Ob} {w w' w'' : World}
theorem St.refl (R : Rel) (nx : Nat) (hp : PT Ob) (w : World) : St R nx hp w R nx hp w :=
  ⟨fun _ _ _ h => h, fun _ _ _ h => .inl h, fun _ _ h => h, Nat.le_refl _, Below.refl _ _, fun _ _ h _ => h⟩
theorem lt_of_some {w : World} {b : Nat} {o : Obj} (h : w.heap[b]? = some o) : b < w.heap.size := (Array.getElem?_eq_some_iff.1 h).1
theorem St.trans (h : St R nx hp w R' nx' hp' w') (k : St R' nx' hp' w' R'' nx'' hp'' w'') (hnx : ∀ i b c, R i b c → i < nx) : St R nx hp w R'' nx'' hp'' w'' := by
  refine ⟨fun i b c x => k.grow _ _ _ (h.grow _ _ _ x), ?_, ?_, Nat.le_trans h.le k.le, h.below.trans k.below, ?_⟩
  · intro i b c x
    rcases k.dom i b c x with x | ⟨h1, h2, h3⟩
    · rcases h.dom i b c x with x | ⟨h1, h2, h3⟩
      · exact .inl x
      · exact .inr ⟨h1, Nat.lt_of_lt_of_le h2 k.le, h3⟩
    · refine .inr ⟨Nat.le_trans h.le h1, h2, ?_⟩
      rcases h3 with h3 | h3 | ⟨i0, c0, o, h3, h4⟩
      · exact .inl h3
      · exact .inr (.inl (Nat.le_trans h.below.size h3))
      · rcases h.dom i0 b _ h3 with x | ⟨h5, h6, h7⟩
        · refine .inr (.inr ⟨i0, c0, ?_⟩)
          cases ho : hp.get i0 with
          | some o' => exact ⟨o', x, rfl⟩
          | none =>
            have := h.dead i0 (hnx _ _ _ x) ho
            rw [this] at h4; cases h4
        · rcases h7 with h7 | h7
          · cases h7
          · exact .inr h7
  · intro i hi hn
    exact k.dead i (Nat.lt_of_lt_of_le hi h.le) (h.dead i hi hn)
  · intro b o hb hd
    refine k.fr b o (h.fr b o hb hd) ?_
    intro i c x
    rcases h.dom i b _ x with x | ⟨h1, h2, h3⟩
    · exact h.dead i (hnx _ _ _ x) (hd i c x)
    · rcases h3 with h3 | h3 | ⟨i0, c0, o0, h3, h4⟩
      · cases h3
      · have := lt_of_some hb; omega
      · rw [hd i0 c0 h3] at h4; cases h4
theorem St.nxlt (h : St R nx hp w R' nx' hp' w') (hnx : ∀ i b c, R i b c → i < nx) : ∀ i b c, R' i b c → i < nx' := by
  intro i b c x
  rcases h.dom i b c x with x | ⟨_, h2, _⟩
  · exact Nat.lt_of_lt_of_le (hnx _ _ _ x) h.le
  · exact h2
theorem Cn.lt (h : Cn H R hp w) {id : Nat} {o : Ob} (hg : hp.get id = some o) {b c : Nat} (hr : R id b (some c)) : b < w.heap.size := by
  obtain ⟨x, _, h2, _⟩ := h.at hg hr
  exact lt_of_some h2
/-- A new object. -/
def addR (R : Rel) (id b : Nat) (c : Option Nat) : Rel := fun i b' c' => R i b' c' ∨ (i = id ∧ b' = b ∧ c' = c)
theorem Agree.put {w w' : World} {H : View} (h : Agree w H) (hw : ∀ b o, H b = some o → w'.heap[b]? = w.heap[b]?) : Agree w' H := fun b o hb => (hw b o hb).trans (h b o hb)
theorem Agree.new {w : World} {H : View} (h : Agree w H) {b : Nat} (hb : w.heap.size ≤ b) : H b = none := by
  cases hh : H b with
  | none => rfl
  | some o => have := lt_of_some (h b o hh); omega
theorem heap_alloc_lt (w : World) (x : Obj) {b : Nat} (h : b < w.heap.size) : (w.alloc x).heap[b]? = w.heap[b]? := Below.heap_alloc w x b h
theorem heap_alloc_at (w : World) (x : Obj) : (w.alloc x).heap[w.heap.size]? = some x := by show (w.heap.push _)[w.heap.size]? = _; simp
/-- A new block in the world, a new object in the memory: at number id. -/
theorem Cn.new (hC : Cn H R hp w) {id : Nat} (hid : ∀ b c, ¬ R id b c) (hg : hp.get id = none) (c : Nat) {o : Ob} {x : Obj} (hx : ObR R o c x) :
    Cn H (addR R id w.heap.size (some c)) (hp.put id (some o)) (w.alloc x) := by
  have gr : ∀ i b c', R i b c' → addR R id w.heap.size (some c) i b c' := fun _ _ _ h => .inl h
  have old : ∀ i o', hp.get i = some o' → ∀ b c', R i b (some c') → b < w.heap.size := fun i o' h b c' h' => hC.lt h h'
  refine ⟨hC.agree.put fun b o h => heap_alloc_lt w x (lt_of_some (hC.agree b o h)), ?_, ?_, ?_⟩
  · intro i o' h
    rw [PT.get_put] at h
    split at h
    · rename_i e
      subst e
      simp only [Option.some.injEq] at h; subst h
      exact .inr ⟨w.heap.size, c, x, .inr ⟨rfl, rfl, rfl⟩, hC.agree.new (Nat.le_refl _), heap_alloc_at w x, hx.mono gr⟩
    · rcases hC.all i o' h with ⟨h1, b, h2⟩ | ⟨b, c', x', h1, h2, h3, h4⟩
      · exact .inl ⟨h1, b, .inl h2⟩
      · exact .inr ⟨b, c', x', .inl h1, h2, by rw [heap_alloc_lt w x (lt_of_some h3)]; exact h3, h4.mono gr⟩
  · rintro i b c1 b' c1' (h | ⟨rfl, rfl, rfl⟩) (h' | ⟨e, rfl, rfl⟩)
    · exact hC.fn _ _ _ _ _ h h'
    · subst e; exact absurd h (hid _ _)
    · exact absurd h' (hid _ _)
    · exact ⟨rfl, rfl⟩
  · intro i i' o1 o2 b c1 c2 h1 h2 h3 h4
    rw [PT.get_put] at h1 h2
    split at h1 <;> split at h2
    · omega
    · rename_i e1 e2
      rcases h4 with h4 | ⟨e, _⟩
      · have := old _ _ h2 _ _ h4
        rcases h3 with h3 | ⟨_, rfl, _⟩
        · subst e1; exact absurd h3 (hid _ _)
        · omega
      · exact absurd e e2
    · rename_i e1 e2
      rcases h3 with h3 | ⟨e, _⟩
      · have := old _ _ h1 _ _ h3
        rcases h4 with h4 | ⟨_, rfl, _⟩
        · subst e2; exact absurd h4 (hid _ _)
        · omega
      · exact absurd e e1
    · rename_i e1 e2
      rcases h3 with h3 | ⟨e, _⟩
      · rcases h4 with h4 | ⟨e, _⟩
        · exact hC.inj _ _ _ _ _ _ _ h1 h2 h3 h4
        · exact absurd e e2
      · exact absurd e e1
theorem St.new (R : Rel) {nx id : Nat} (hp : PT Ob) (w : World) (o : Ob) (x : Obj) (c : Nat) (nx' : Nat) (h1 : nx ≤ id) (h2 : id < nx') : St R nx hp w (addR R id w.heap.size (some c)) nx' (hp.put id (some o)) (w.alloc x) := by
  refine ⟨fun _ _ _ h => .inl h, ?_, ?_, by omega, (Below.refl _ _).alloc (Nat.zero_le _) _, fun b o hb _ => by rw [heap_alloc_lt w x (lt_of_some hb)]; exact hb⟩
  · rintro i b c' (h | ⟨rfl, rfl, rfl⟩)
    · exact .inl h
    · exact .inr ⟨h1, h2, .inr (.inl (Nat.le_refl _))⟩
  · intro i hi hn
    rw [PT.get_put, if_neg (by omega)]
    exact hn
/-- A block that is written anew. -/
theorem Cn.set (hC : Cn H R hp w) {id : Nat} {o : Ob} (hg : hp.get id = some o) {b c : Nat} (hr : R id b (some c)) {o' : Ob} {x : Obj} (hx : ObR R o' c x) {w' : World} (hb : w'.heap[b]? = some x) (hs : ∀ k, k ≠ b → w'.heap[k]? = w.heap[k]?) :
    Cn H R (hp.put id (some o')) w' := by
  obtain ⟨x0, h2, h3, h4⟩ := hC.at hg hr
  refine ⟨hC.agree.put fun k ok hk => hs k (fun e => by subst e; rw [h2] at hk; cases hk), ?_, hC.fn, ?_⟩
  · intro i oi hi
    rw [PT.get_put] at hi
    split at hi
    · rename_i e
      subst e
      simp only [Option.some.injEq] at hi; subst hi
      exact .inr ⟨b, c, x, hr, h2, hb, hx⟩
    · rename_i e
      rcases hC.all i oi hi with k | ⟨b', c', x', k1, k2, k3, k4⟩
      · exact .inl k
      refine .inr ⟨b', c', x', k1, k2, ?_, k4⟩
      rw [hs b' (fun e' => e (by subst e'; exact hC.inj _ _ _ _ _ _ _ hi hg k1 hr))]
      exact k3
  · intro i i' o1 o2 b1 c1 c2 k1 k2 k3 k4
    have aux : ∀ i o1, (hp.put id (some o')).get i = some o1 → ∃ o2, hp.get i = some o2 := by
      intro i o1 h
      rw [PT.get_put] at h
      split at h
      · rename_i e; subst e; exact ⟨_, hg⟩
      · exact ⟨_, h⟩
    obtain ⟨_, q1⟩ := aux _ _ k1
    obtain ⟨_, q2⟩ := aux _ _ k2
    exact hC.inj _ _ _ _ _ _ _ q1 q2 k3 k4
theorem St.set {id : Nat} {o : Ob} (hg : hp.get id = some o) {b c : Nat} (hr : R id b (some c)) (nx : Nat) (o' : Ob) {w' : World} (hb : Below 0 w w') (hs : ∀ k, k ≠ b → w'.heap[k]? = w.heap[k]?) :
    St R nx hp w R nx (hp.put id (some o')) w' := by
  refine ⟨fun _ _ _ h => h, fun _ _ _ h => .inl h, ?_, Nat.le_refl _, hb, ?_⟩
  · intro i hi hn
    rw [PT.get_put]
    split
    · rename_i e; subst e; rw [hg] at hn; cases hn
    · exact hn
  · intro k ok hk hd
    rw [hs k (fun e => by subst e; have := hd id c hr; rw [hg] at this; cases this)]
    exact hk
end
end Go.Vm
