/- Regions that draw their order, evaluated in the text's order: what is looked at, and what is noted down. -/
import Derived.Test.YtdghfmbbohlcgaaGreatDoorVmJ
set_option linter.unusedVariables false
set_option linter.unusedSimpArgs false
namespace Go.Vm
open Go.RowKit

def memN (t : Nat) : List Nat → Bool
  | [] => false
  | x :: l => match Nat.beq t x with
    | true => true
    | false => memN t l
theorem memN_mem {t : Nat} : ∀ {l : List Nat}, memN t l = true → t ∈ l
  | [], h => by cases h
  | x :: l, h => by
    simp only [memN] at h
    split at h
    · rename_i hb
      rw [Nat.eq_of_beq_eq_true hb]
      simp
    · exact List.mem_cons_of_mem _ (memN_mem h)
/-- The values of an operation's own operands. -/
def rhoO (sl : PT V) (o : Oper) : Rho
  | .tmp t => match memN t (tmpsOf o.op.operands.toList) with
    | true => sl.get t
    | false => none
  | .const x => some (.lit x)
  | .func f => some (.fn f [] [])
  | .global g => some (.lit (.pointer (some ⟨g, 0, none⟩)))
def stepL (P : Program) (H : View) (callR : CallR) (ρ : Rho) (n : Nat) (G : PT Ob) (o : Oper) : Option (V × Nat × PT Ob) :=
  match callOf ρ o with
  | some (g, args) => match entersB P g with
    | true => callR g args n G
    | false => none
  | none => evW P H ρ n G o
def commit (ms : List Nat) (nx0 i : Nat) : List (Nat × Ob) → PT Ob → PT Ob
  | [], h => h
  | (k, ob) :: l, h => match bef ms k i with
    | true => (commit ms nx0 i l h).put (Nat.add nx0 k) (some ob)
    | false => commit ms nx0 i l h
def keepA (ms : List Nat) (i : Nat) : List (Nat × Ob) → List (Nat × Ob)
  | [] => []
  | (k, ob) :: l => match bef ms k i with
    | true => keepA ms i l
    | false => (k, ob) :: keepA ms i l
def commitAll (nx0 : Nat) : List (Nat × Ob) → PT Ob → PT Ob
  | [], h => h
  | (k, ob) :: l, h => (commitAll nx0 l h).put (Nat.add nx0 k) (some ob)
def allBef (ms : List Nat) (i : Nat) : List (Nat × PT Ob) → Bool
  | [] => true
  | (k, _) :: l => match bef ms k i with
    | true => allBef ms i l
    | false => false
def backOk (ev : PT Ob → Option V) (v : V) (ms : List Nat) (i : Nat) : List (Nat × PT Ob) → Bool
  | [] => true
  | (k, hb) :: l => match bef ms k i with
    | true => true
    | false => match isSame (ev hb) v with
      | true => backOk ev v ms i l
      | false => false
abbrev Rds := List (Nat × Oper × PT V × V)
def fwdOk (P : Program) (H : View) (ms : List Nat) (i : Nat) (h' : PT Ob) : Rds → Bool
  | [] => true
  | (j, o, sl, v) :: l => match bef ms j i with
    | true => fwdOk P H ms i h' l
    | false => match isSame (evR P H h' (rhoO sl o) o) v with
      | true => fwdOk P H ms i h' l
      | false => false
inductive Kd where
  | q
  | r
  | a (ob : Ob)
  | l (pv : Option Nat) (G : PT Ob) (n : Nat) (h : PT Ob) (n' : Nat)
structure En where
  kd : Kd
  v : V
  sl : PT V
/-- The text's order. -/
def go (P : Program) (H : View) (callR : CallR) (nt : Nat) (ops : List Oper) (ms : List Nat) (nx0 : Nat) : List Oper → Nat → PT V → Option Nat → PT Ob → Nat → List (Nat × Ob) → List (Nat × PT Ob) → Rds → List En → Option (PT V × Nat × PT Ob × List En)
  | [], i, sl, pv, h, n, as, hist, rds, tr => some (sl, n, commitAll nx0 as h, tr)
  | o :: l, i, sl, pv, h, n, as, hist, rds, tr => match wantV ops sl o with
    | none => none
    | some false => match putD nt sl o.dst (.lit undef) with
      | some sl' => go P H callR nt ops ms nx0 l (Nat.succ i) sl' pv h n as hist rds (tr ++ [⟨.q, .lit undef, sl⟩])
      | none => none
    | some true => match evP P (rhoO sl o) o with
      | some v => match putD nt sl o.dst v with
        | some sl' => go P H callR nt ops ms nx0 l (Nat.succ i) sl' pv h n as hist rds (tr ++ [⟨.q, v, sl⟩])
        | none => none
      | none => match evR P H (commit ms nx0 i as h) (rhoO sl o) o with
        | some v => match backOk (fun hb => evR P H hb (rhoO sl o) o) v ms i hist with
          | true => match putD nt sl o.dst v with
            | some sl' => go P H callR nt ops ms nx0 l (Nat.succ i) sl' pv h n as hist ((i, o, sl, v) :: rds) (tr ++ [⟨.r, v, sl⟩])
            | none => none
          | false => none
        | none => match evA P (rhoO sl o) o with
          | some (ob, f) => match putD nt sl o.dst (f (Nat.add nx0 i)) with
            | some sl' => go P H callR nt ops ms nx0 l (Nat.succ i) sl' pv h n ((i, ob) :: as) hist rds (tr ++ [⟨.a ob, f (Nat.add nx0 i), sl⟩])
            | none => none
          | none => match allBef ms i hist with
            | true => match stepL P H callR (rhoO sl o) n (commit ms nx0 i as h) o with
              | some (v, n', h') => match fwdOk P H ms i h' rds with
                | true => match putD nt sl o.dst v with
                  | some sl' => go P H callR nt ops ms nx0 l (Nat.succ i) sl' (some i) h' n' (keepA ms i as) ((i, h) :: hist) rds (tr ++ [⟨.l pv (commit ms nx0 i as h) n h' n', v, sl⟩])
                  | none => none
                | false => none
              | none => none
            | false => none
def dstsOk (nt : Nat) : List Oper → Bool
  | [] => true
  | o :: l => match o.dst with
    | none => dstsOk nt l
    | some d => match Nat.ble (Nat.succ d) nt with
      | true => dstsOk nt l
      | false => false
theorem dstsOk_spec {nt : Nat} : ∀ {l : List Oper}, dstsOk nt l = true → ∀ (k : Nat) (o : Oper) (d : Nat), l[k]? = some o → o.dst = some d → d < nt
  | [], _, k, o, d, h, _ => by simp at h
  | x :: l, hb, k, o, d, h, hd => by
    simp only [dstsOk] at hb
    cases k with
    | zero =>
      simp only [List.getElem?_cons_zero, Option.some.injEq] at h
      subst h
      rw [hd] at hb
      simp only at hb
      split at hb
      · rename_i hle; exact Nat.le_of_ble_eq_true hle
      · cases hb
    | succ k =>
      simp only [List.getElem?_cons_succ] at h
      split at hb
      · exact dstsOk_spec hb k o d h hd
      · split at hb
        · exact dstsOk_spec hb k o d h hd
        · cases hb
def evDraw (P : Program) (H : View) (callR : CallR) (nt : Nat) (ops : List Oper) (sl : PT V) (nx : Nat) (hp : PT Ob) : Option (PT V × Nat × PT Ob) :=
  match regOk ops && dstsOk nt ops with
  | true => match go P H callR nt ops (masks ops []) nx ops 0 sl none hp (Nat.add nx ops.length) [] [] [] [] with
    | some (sl', n, h, _) => some (sl', n, h)
    | none => none
  | false => none

/-! ### what the notes say -/
def kdAt (tr : List En) (k : Nat) : Option Kd := (tr[k]?).map (·.kd)
def isL (tr : List En) (k : Nat) : Prop := ∃ pv G n h n', kdAt tr k = some (.l pv G n h n')
def isA (tr : List En) (k : Nat) (ob : Ob) : Prop := kdAt tr k = some (.a ob)
def hAt (hp0 : PT Ob) (tr : List En) : Option Nat → PT Ob
  | none => hp0
  | some k => match kdAt tr k with
    | some (.l _ _ _ h _) => h
    | _ => hp0
def nAt (n0 : Nat) (tr : List En) : Option Nat → Nat
  | none => n0
  | some k => match kdAt tr k with
    | some (.l _ _ _ _ n') => n'
    | _ => n0
def slotAt (ops : List Oper) (sl0 : PT V) (tr : List En) (k t : Nat) : Option V :=
  match dstIx ops 0 t with
  | some j => if j < k then (tr[j]?).map (·.v) else sl0.get t
  | none => sl0.get t
def Node (tr : List En) (c : Option Nat) : Prop := ∀ p, c = some p → isL tr p
section
variable (P : Program) (H : View) (ops : List Oper) (sl0 : PT V) (hp0 : PT Ob) (nx0 : Nat)
abbrev MS : List Nat := masks ops []
/-- An operation that reads: what it comes to, in any world to which the memory stands. -/
def RdOk (hp : PT Ob) (ρ : Rho) (o : Oper) (v : V) : Prop := ∀ (R : Rel) (a : Act) (w : World), RhoR R ρ a → Cn H R hp w → ∃ y, VR R v y ∧ (execOp a.eval o).run P w = .ok (.value y) w
/-- An operation that writes, or a call: where it leads, from any world to which the memory stands. -/
def LnOk (ρ : Rho) (n : Nat) (G : PT Ob) (o : Oper) (v : V) (n' : Nat) (h' : PT Ob) : Prop := ∀ (R : Rel) (a : Act) (w : World) (K : Act → World → Prop) (Q : Exit → Act → World → Prop), RhoR R ρ a → Cn H R G w → (∀ i b c, R i b c → i < n) →
  (∀ R' y w', VR R' v y → Cn H R' h' w' → St R n G w R' n' h' w' → K (a.put o.dst y) w') → o.wp P a w K Q
/-- An operation that lays a new object. -/
def AlOk (ρ : Rho) (o : Oper) (ob : Ob) (f : Nat → V) : Prop := ∀ (R : Rel) (a : Act), RhoR R ρ a → ∃ (x : Obj) (c : Nat) (g : Nat → Value), ObR R ob c x ∧ (∀ w, (execOp a.eval o).run P w = .ok (.value (g w.heap.size)) (w.alloc x)) ∧ ∀ id (R' : Rel) b, R' id b (some c) → VR R' (f id) (g b)
def ROk (tr : List En) (k : Nat) (e : En) (o : Oper) (c : Option Nat) : Prop :=
  RdOk P H (hAt hp0 tr c) (rhoO e.sl o) o e.v ∨
  ((∀ p, c = some p → p < k) ∧ ∃ W, RdOk P H W (rhoO e.sl o) o e.v ∧ ∀ id ob, W.get id = some ob → (hAt hp0 tr c).get id = some ob ∨ ∃ k', id = nx0 + k' ∧ isA tr k' ob ∧ bef (MS ops) k' k = true ∧ ∀ j, isL tr j → j < k → bef (MS ops) k' j = false)
/-- An operation that neither reads nor writes. -/
def PureOk (ρ : Rho) (o : Oper) (v : V) : Prop := ∀ (R : Rel) (a : Act), RhoR R ρ a → ∃ y, VR R v y ∧ ∀ w, (execOp a.eval o).run P w = .ok (.value y) w
/-- More of the world, nothing else. -/
def Grows (w w' : World) : Prop := (∀ (b : Nat) (x : Obj), w.heap[b]? = some x → w'.heap[b]? = some x) ∧ Below 0 w w'
/-- An operation, or a call, that leaves nothing in the memory and asks nothing of it but what lies outside. -/
def PureW (ρ : Rho) (o : Oper) (v : V) : Prop := ∀ (R : Rel) (a : Act) (w : World) (K : Act → World → Prop) (Q : Exit → Act → World → Prop), RhoR R ρ a → Agree w H →
  (∀ y w', VR R v y → Grows w w' → K (a.put o.dst y) w') → o.wp P a w K Q
def KdOk (tr : List En) (k : Nat) (e : En) (o : Oper) : Kd → Prop
  | .q => (wantV ops e.sl o = some false ∧ e.v = .lit undef) ∨ (wantV ops e.sl o = some true ∧ PureW P H (rhoO e.sl o) o e.v)
  | .r => wantV ops e.sl o = some true ∧ ∀ c, Node tr c → (∀ j, isL tr j → bef (MS ops) j k = true → ∃ p, c = some p ∧ j ≤ p) → (∀ p, c = some p → bef (MS ops) k p = false) → ROk P H ops hp0 nx0 tr k e o c
  | .a ob => wantV ops e.sl o = some true ∧ ∃ f, AlOk P (rhoO e.sl o) o ob f ∧ e.v = f (nx0 + k)
  | .l pv G n h n' => wantV ops e.sl o = some true ∧ LnOk P H (rhoO e.sl o) n G o e.v n' h ∧ n = nAt (nx0 + ops.length) tr pv ∧
      (∀ id, (∃ k' ob, id = nx0 + k' ∧ isA tr k' ob ∧ bef (MS ops) k' k = true ∧ (∀ j, isL tr j → j < k → bef (MS ops) k' j = false) ∧ G.get id = some ob) ∨
        ((¬ ∃ k' ob, id = nx0 + k' ∧ isA tr k' ob ∧ bef (MS ops) k' k = true ∧ ∀ j, isL tr j → j < k → bef (MS ops) k' j = false) ∧ G.get id = (hAt hp0 tr pv).get id)) ∧
      (∀ p, pv = some p → isL tr p ∧ p < k) ∧ (∀ j, isL tr j → j < k → ∃ p, pv = some p ∧ j ≤ p) ∧ ∀ j, isL tr j → j < k → bef (MS ops) j k = true
inductive Chain (tr : List En) : Option Nat → List (Nat × PT Ob) → Prop
  | nil : Chain tr none []
  | cons {k : Nat} {pv : Option Nat} {G : PT Ob} {n : Nat} {h : PT Ob} {n' : Nat} {l : List (Nat × PT Ob)} (hk : kdAt tr k = some (.l pv G n h n')) (t : Chain tr pv l) : Chain tr (some k) ((k, hAt hp0 tr pv) :: l)
structure TInv (i : Nat) (sl : PT V) (pv : Option Nat) (h : PT Ob) (n : Nat) (as : List (Nat × Ob)) (hist : List (Nat × PT Ob)) (rds : Rds) (tr : List En) : Prop where
  len : tr.length = i
  slots : ∀ t, sl.get t = slotAt ops sl0 tr i t
  ents : ∀ k e o, tr[k]? = some e → ops[k]? = some o → (∀ t, e.sl.get t = slotAt ops sl0 tr k t) ∧ KdOk P H ops hp0 nx0 tr k e o e.kd
  node : Node tr pv
  last : ∀ k, isL tr k → ∃ p, pv = some p ∧ k ≤ p
  heq : h = hAt hp0 tr pv
  neq : n = nAt (nx0 + ops.length) tr pv
  asOk : ∀ k ob, (k, ob) ∈ as ↔ isA tr k ob ∧ ∀ j, isL tr j → bef (MS ops) k j = false
  chain : Chain hp0 tr pv hist
  rdsOk : ∀ k e, tr[k]? = some e → e.kd = .r → ∃ o, ops[k]? = some o ∧ (k, o, e.sl, e.v) ∈ rds
end
section
variable {P : Program} {H : View} {callR : CallR} {ops : List Oper} {sl0 : PT V} {hp0 : PT Ob} {nx0 : Nat} {tr : List En} {e : En}
theorem PureOk.toW {ρ : Rho} {o : Oper} {v : V} (h : PureOk P ρ o v) : PureW P H ρ o v := by
  intro R a w K Q hr _ hk
  obtain ⟨y, hy, hrun⟩ := h R a hr
  unfold Oper.wp
  rw [hrun w, Oper.upon_value]
  exact hk y w hy ⟨fun _ _ h => h, Below.refl _ _⟩
theorem CnR.grows {R : Rel} {g : Mem} {w w' : World} (h : CnR H R g w) (hg : Grows w w') : CnR H R g w' :=
  ⟨fun b o hb => hg.1 _ _ (h.agree b o hb), fun id o ho => (h.all id o ho).imp (fun k => k) fun ⟨b, c, x, h1, h2, h3, h4⟩ => ⟨b, c, x, h1, h2, hg.1 _ _ h3, h4⟩, h.fn, h.inj⟩
theorem StR.grows {R R' : Rel} {n n' : Nat} {g g' : Mem} {w0 w w' : World} (h : StR R n g w0 R' n' g' w) (hg : Grows w w') : StR R n g w0 R' n' g' w' :=
  ⟨h.grow, h.dom, h.dead, h.below.trans hg.2, fun b o hb hd => hg.1 _ _ (h.fr b o hb hd)⟩
theorem kdAt_old {k : Nat} (hk : k < tr.length) : kdAt (tr ++ [e]) k = kdAt tr k := by
  unfold kdAt
  rw [List.getElem?_append_left hk]
theorem kdAt_new : kdAt (tr ++ [e]) tr.length = some e.kd := by
  unfold kdAt
  simp
theorem kdAt_lt {k : Nat} {x : Kd} (h : kdAt tr k = some x) : k < tr.length := by
  unfold kdAt at h
  obtain ⟨e, he, _⟩ := Option.map_eq_some_iff.1 h
  exact (List.getElem?_eq_some_iff.1 he).1
theorem kdAt_cases {k : Nat} {x : Kd} (h : kdAt (tr ++ [e]) k = some x) : kdAt tr k = some x ∨ (k = tr.length ∧ e.kd = x) := by
  have := kdAt_lt h
  simp only [List.length_append, List.length_cons, List.length_nil] at this
  rcases Nat.lt_or_ge k tr.length with hl | hl
  · rw [kdAt_old hl] at h; exact .inl h
  · have : k = tr.length := by omega
    subst this
    rw [kdAt_new] at h
    exact .inr ⟨rfl, Option.some.inj h⟩
theorem kdAt_grow {k : Nat} {x : Kd} (h : kdAt tr k = some x) : kdAt (tr ++ [e]) k = some x := by rw [kdAt_old (kdAt_lt h)]; exact h
theorem isL_grow {k : Nat} (h : isL tr k) : isL (tr ++ [e]) k := by
  obtain ⟨a, b, c, d, f, h⟩ := h
  exact ⟨a, b, c, d, f, kdAt_grow h⟩
theorem isL_cases {k : Nat} (h : isL (tr ++ [e]) k) : isL tr k ∨ (k = tr.length ∧ ∃ pv G n h n', e.kd = .l pv G n h n') := by
  obtain ⟨a, b, c, d, f, h⟩ := h
  rcases kdAt_cases h with h | ⟨h1, h2⟩
  · exact .inl ⟨a, b, c, d, f, h⟩
  · exact .inr ⟨h1, a, b, c, d, f, h2⟩
theorem isL_lt {k : Nat} (h : isL tr k) : k < tr.length := by
  obtain ⟨a, b, c, d, f, h⟩ := h
  exact kdAt_lt h
theorem isA_cases {k : Nat} {ob : Ob} (h : isA (tr ++ [e]) k ob) : isA tr k ob ∨ (k = tr.length ∧ e.kd = .a ob) := kdAt_cases h
theorem hAt_old {c : Option Nat} (hc : Node tr c) : hAt hp0 (tr ++ [e]) c = hAt hp0 tr c := by
  cases c with
  | none => rfl
  | some k => simp only [hAt]; rw [kdAt_old (isL_lt (hc k rfl))]
theorem nAt_old {n0 : Nat} {c : Option Nat} (hc : Node tr c) : nAt n0 (tr ++ [e]) c = nAt n0 tr c := by
  cases c with
  | none => rfl
  | some k => simp only [nAt]; rw [kdAt_old (isL_lt (hc k rfl))]
theorem slotAt_old {k t : Nat} (hk : k ≤ tr.length) : slotAt ops sl0 (tr ++ [e]) k t = slotAt ops sl0 tr k t := by
  unfold slotAt
  split
  · rename_i j _
    by_cases hj : j < k
    · simp only [hj, if_true]
      rw [List.getElem?_append_left (by omega)]
    · simp only [hj, if_false]
  · rfl
theorem Chain.grow {c : Option Nat} {l : List (Nat × PT Ob)} (h : Chain hp0 tr c l) : Chain hp0 (tr ++ [e]) c l := by
  induction h with
  | nil => exact .nil
  | @cons k pv G n h n' l hk t ih =>
    have hn : Node tr pv := by
      cases t with
      | nil => intro p hp; cases hp
      | cons hk2 t2 => intro p hp; simp only [Option.some.injEq] at hp; subst hp; exact ⟨_, _, _, _, _, hk2⟩
    rw [← hAt_old (e := e) hn]
    exact .cons (kdAt_grow hk) ih
/-- The slots behind an operation. -/
theorem slotAt_next (hR : RegOk ops) {nt : Nat} {sl sl' : PT V} {o : Oper} (ho : ops[tr.length]? = some o) (hs : ∀ t, sl.get t = slotAt ops sl0 tr tr.length t) (hp : putD nt sl o.dst e.v = some sl') (t : Nat) : sl'.get t = slotAt ops sl0 (tr ++ [e]) (tr.length + 1) t := by
  have key : ∀ t, o.dst ≠ some t → slotAt ops sl0 (tr ++ [e]) (tr.length + 1) t = slotAt ops sl0 tr tr.length t := by
    intro t ht
    unfold slotAt
    cases hd : dstIx ops 0 t with
    | none => rfl
    | some j =>
      obtain ⟨-, o', ho', hd'⟩ := dstIx_some hd
      simp only [Nat.sub_zero] at ho'
      have hne : j ≠ tr.length := fun e => by subst e; rw [ho] at ho'; cases ho'; exact ht hd'
      by_cases hj : j < tr.length
      · simp only [hj, if_true, show j < tr.length + 1 by omega]
        rw [List.getElem?_append_left hj]
      · simp only [hj, if_false, show ¬ j < tr.length + 1 by omega]
  unfold putD at hp
  split at hp
  · rename_i hd
    simp only [Option.some.injEq] at hp; subst hp
    rw [hs, key t (by rw [hd]; simp)]
  · rename_i d hd
    split at hp
    · simp only [Option.some.injEq] at hp; subst hp
      rw [PT.get_put]
      by_cases ht : t = d
      · subst ht
        rw [if_pos rfl]
        unfold slotAt
        obtain ⟨j, hj⟩ := dstIx_mem (k := 0) ho hd
        obtain ⟨-, o', ho', hd'⟩ := dstIx_some hj
        simp only [Nat.sub_zero] at ho'
        have := hR.uniq _ _ _ _ _ ho' ho hd' hd
        subst this
        rw [hj]
        simp
      · rw [if_neg ht, hs, key t (by rw [hd]; simp only [ne_eq, Option.some.injEq]; exact fun e => ht e.symm)]
    · cases hp
/-- Old notes stay true. -/
theorem KdOk.grow (hR : RegOk ops) (hlen : tr.length < ops.length) {k : Nat} {e' : En} {o : Oper} {x : Kd} (hk : k < tr.length) (hx : kdAt tr k = some x) (h : KdOk P H ops hp0 nx0 tr k e' o x)
    (hfwd : x = .r → ∀ pv G n h n', e.kd = .l pv G n h n' → bef (MS ops) k tr.length = false → RdOk P H h (rhoO e'.sl o) o e'.v) : KdOk P H ops hp0 nx0 (tr ++ [e]) k e' o x := by
  have noA : ∀ k' ob, isA (tr ++ [e]) k' ob → bef (MS ops) k' k = true → isA tr k' ob := by
    intro k' ob h hb
    rcases isA_cases h with h | ⟨h1, _⟩
    · exact h
    · have := bef_lt hR (by omega) hb; omega
  have lLt : ∀ j, isL (tr ++ [e]) j → j < k → isL tr j := by
    intro j h hj
    rcases isL_cases h with h | ⟨h1, _⟩
    · exact h
    · omega
  cases x with
  | q => exact h
  | a ob => exact h
  | r =>
    refine ⟨h.1, fun c hc h1 h2 => ?_⟩
    have h1' : ∀ j, isL tr j → bef (MS ops) j k = true → ∃ p, c = some p ∧ j ≤ p := fun j hj hb => h1 j (isL_grow hj) hb
    by_cases hnew : c = some tr.length
    · subst hnew
      obtain ⟨a1, a2, a3, a4, a5, hl⟩ := hc _ rfl
      rw [kdAt_new] at hl
      simp only [Option.some.injEq] at hl
      refine .inl ?_
      simp only [hAt, kdAt_new, hl]
      exact hfwd rfl _ _ _ _ _ hl (h2 _ rfl)
    · have hc' : Node tr c := by
        intro p hp
        rcases isL_cases (hc p hp) with h | ⟨h3, _⟩
        · exact h
        · subst h3; exact absurd hp hnew
      rcases h.2 c hc' h1' h2 with h3 | ⟨h3, W, h4, h5⟩
      · refine .inl ?_
        rw [hAt_old hc']
        exact h3
      · refine .inr ⟨h3, W, h4, fun id ob hw => ?_⟩
        rw [hAt_old hc']
        rcases h5 id ob hw with h5 | ⟨k', q1, q2, q3, q4⟩
        · exact .inl h5
        · exact .inr ⟨k', q1, kdAt_grow q2, q3, fun j hj hjk => q4 j (lLt j hj hjk) hjk⟩
  | l pv G n h' n' =>
    obtain ⟨h1, h2, h3, h4, h5, h6, h7⟩ := h
    have hpv : Node tr pv := fun p hp => (h5 p hp).1
    refine ⟨h1, h2, by rw [nAt_old hpv]; exact h3, fun id => ?_, fun p hp => ⟨isL_grow (h5 p hp).1, (h5 p hp).2⟩, fun j hj hjk => h6 j (lLt j hj hjk) hjk, fun j hj hjk => h7 j (lLt j hj hjk) hjk⟩
    rw [hAt_old hpv]
    rcases h4 id with ⟨k', ob, q1, q2, q3, q4, q5⟩ | ⟨q1, q2⟩
    · exact .inl ⟨k', ob, q1, kdAt_grow q2, q3, fun j hj hjk => q4 j (lLt j hj hjk) hjk, q5⟩
    · refine .inr ⟨fun ⟨k', ob, p1, p2, p3, p4⟩ => q1 ⟨k', ob, p1, noA k' ob p2 p3, p3, fun j hj hjk => p4 j (isL_grow hj) hjk⟩, q2⟩
theorem commit_get {ms : List Nat} {i : Nat} : ∀ (as : List (Nat × Ob)) (h : PT Ob) (id : Nat), (∃ k ob, id = nx0 + k ∧ (k, ob) ∈ as ∧ bef ms k i = true ∧ (commit ms nx0 i as h).get id = some ob) ∨ ((¬ ∃ k ob, id = nx0 + k ∧ (k, ob) ∈ as ∧ bef ms k i = true) ∧ (commit ms nx0 i as h).get id = h.get id)
  | [], h, id => .inr ⟨fun ⟨k, ob, _, hm, _⟩ => by simp at hm, rfl⟩
  | (k, ob) :: l, h, id => by
    have ih := commit_get (ms := ms) (i := i) l h id
    simp only [commit]
    split
    · rename_i hb
      rw [PT.get_put]
      by_cases he : id = nx0 + k
      · exact .inl ⟨k, ob, he, by simp, hb, by rw [if_pos (by exact he)]⟩
      · rw [if_neg (by exact he)]
        rcases ih with ⟨k', ob', h1, h2, h3, h4⟩ | ⟨h1, h2⟩
        · exact .inl ⟨k', ob', h1, by simp [h2], h3, h4⟩
        · refine .inr ⟨fun ⟨k', ob', q1, q2, q3⟩ => ?_, h2⟩
          rcases List.mem_cons.1 q2 with q2 | q2
          · cases q2; exact he q1
          · exact h1 ⟨k', ob', q1, q2, q3⟩
    · rename_i hb
      rcases ih with ⟨k', ob', h1, h2, h3, h4⟩ | ⟨h1, h2⟩
      · exact .inl ⟨k', ob', h1, by simp [h2], h3, h4⟩
      · refine .inr ⟨fun ⟨k', ob', q1, q2, q3⟩ => ?_, h2⟩
        rcases List.mem_cons.1 q2 with q2 | q2
        · cases q2; rw [hb] at q3; cases q3
        · exact h1 ⟨k', ob', q1, q2, q3⟩
theorem commitAll_get : ∀ (as : List (Nat × Ob)) (h : PT Ob) (id : Nat), (∃ k ob, id = nx0 + k ∧ (k, ob) ∈ as ∧ (commitAll nx0 as h).get id = some ob) ∨ ((¬ ∃ k ob, id = nx0 + k ∧ (k, ob) ∈ as) ∧ (commitAll nx0 as h).get id = h.get id)
  | [], h, id => .inr ⟨fun ⟨k, ob, _, hm⟩ => by simp at hm, rfl⟩
  | (k, ob) :: l, h, id => by
    have ih := commitAll_get l h id
    simp only [commitAll]
    rw [PT.get_put]
    by_cases he : id = nx0 + k
    · exact .inl ⟨k, ob, he, by simp, by rw [if_pos (by exact he)]⟩
    · rw [if_neg (by exact he)]
      rcases ih with ⟨k', ob', h1, h2, h3⟩ | ⟨h1, h2⟩
      · exact .inl ⟨k', ob', h1, by simp [h2], h3⟩
      · refine .inr ⟨fun ⟨k', ob', q1, q2⟩ => ?_, h2⟩
        rcases List.mem_cons.1 q2 with q2 | q2
        · cases q2; exact he q1
        · exact h1 ⟨k', ob', q1, q2⟩
theorem keepA_mem {ms : List Nat} {i : Nat} : ∀ {as : List (Nat × Ob)} {k : Nat} {ob : Ob}, (k, ob) ∈ keepA ms i as ↔ (k, ob) ∈ as ∧ bef ms k i = false
  | [], k, ob => by simp [keepA]
  | (k', ob') :: l, k, ob => by
    simp only [keepA]
    split
    · rename_i hb
      rw [keepA_mem]
      constructor
      · rintro ⟨h1, h2⟩; exact ⟨by simp [h1], h2⟩
      · rintro ⟨h1, h2⟩
        rcases List.mem_cons.1 h1 with h1 | h1
        · cases h1; rw [hb] at h2; cases h2
        · exact ⟨h1, h2⟩
    · rename_i hb
      rw [List.mem_cons, keepA_mem, List.mem_cons]
      constructor
      · rintro (h1 | ⟨h1, h2⟩)
        · cases h1; exact ⟨.inl rfl, hb⟩
        · exact ⟨.inr h1, h2⟩
      · rintro ⟨h1 | h1, h2⟩
        · exact .inl h1
        · exact .inr ⟨h1, h2⟩
theorem allBef_spec {ms : List Nat} {i : Nat} : ∀ {l : List (Nat × PT Ob)}, allBef ms i l = true → ∀ k h, (k, h) ∈ l → bef ms k i = true
  | [], _, k, h, hm => by simp at hm
  | (k', h') :: l, hb, k, h, hm => by
    simp only [allBef] at hb
    split at hb
    · rename_i h1
      rcases List.mem_cons.1 hm with hm | hm
      · cases hm; exact h1
      · exact allBef_spec hb k h hm
    · cases hb
theorem fwdOk_spec {ms : List Nat} {i : Nat} {h' : PT Ob} : ∀ {l : Rds}, fwdOk P H ms i h' l = true → ∀ j o sl v, (j, o, sl, v) ∈ l → bef ms j i = false → evR P H h' (rhoO sl o) o = some v
  | [], _, _, _, _, _, hm, _ => by simp at hm
  | (j', o', sl', v') :: l, hb, j, o, sl, v, hm, hf => by
    simp only [fwdOk] at hb
    split at hb
    · rename_i h1
      rcases List.mem_cons.1 hm with hm | hm
      · cases hm; rw [h1] at hf; cases hf
      · exact fwdOk_spec hb j o sl v hm hf
    · split at hb
      · rename_i h1 h2
        rcases List.mem_cons.1 hm with hm | hm
        · cases hm; exact isSame_eq h2
        · exact fwdOk_spec hb j o sl v hm hf
      · cases hb
theorem backOk_spec {ev : PT Ob → Option V} {v : V} {i : Nat} {ms : List Nat} : ∀ {c0 : Option Nat} {l : List (Nat × PT Ob)}, Chain hp0 tr c0 l → backOk ev v ms i l = true →
    (∀ k pv G n h n', kdAt tr k = some (.l pv G n h n') → (∀ j, isL tr j → j < k → ∃ p, pv = some p ∧ j ≤ p)) → (∀ k, isL tr k → ∃ p, c0 = some p ∧ k ≤ p) ∨ True →
    ∀ c, (∀ j, isL tr j → bef ms j i = true → ∃ p, c = some p ∧ j ≤ p) → c ≠ c0 → (∀ p, c = some p → isL tr p ∧ ∃ q, c0 = some q ∧ p ≤ q) → ev (hAt hp0 tr c) = some v
  | _, _, .nil, _, _, _, c, h1, h2, h3 => by
    cases c with
    | none => exact absurd rfl h2
    | some p => obtain ⟨_, q, h4, _⟩ := h3 p rfl; cases h4
  | _, _, .cons (k := k) (pv := pv) (G := G) (n := n) (h := h) (n' := n') (l := l) hk t, hb, hprev, hd, c, h1, h2, h3 => by
    simp only [backOk] at hb
    split at hb
    · rename_i hbk
      obtain ⟨p, hp, hle⟩ := h1 k ⟨_, _, _, _, _, hk⟩ hbk
      obtain ⟨_, q, h4, h5⟩ := h3 p hp
      simp only [Option.some.injEq] at h4
      subst h4
      have : p = k := by omega
      subst this
      exact absurd hp h2
    · rename_i hbk
      split at hb
      · rename_i hs
        have hs := isSame_eq hs
        by_cases hc : c = pv
        · subst hc; exact hs
        · refine backOk_spec t hb hprev (.inr trivial) c h1 hc fun p hp => ?_
          obtain ⟨q1, q, h4, h5⟩ := h3 p hp
          refine ⟨q1, ?_⟩
          simp only [Option.some.injEq] at h4
          subst h4
          have hne : p ≠ k := fun e => by subst e; exact h2 hp
          exact hprev k _ _ _ _ _ hk p q1 (by omega)
      · cases hb
end
end Go.Vm
