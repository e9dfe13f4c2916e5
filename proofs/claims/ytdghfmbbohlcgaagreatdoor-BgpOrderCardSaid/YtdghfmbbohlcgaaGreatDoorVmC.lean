/- Operations that read the memory, that lay new objects, that write. -/
import Derived.Test.YtdghfmbbohlcgaaGreatDoorVmB
import Derived.ArgAppend
import Derived.Laws.MakeOwn
import Derived.Laws.Append
set_option linter.unusedVariables false
set_option linter.unusedSimpArgs false
namespace Go.Vm
open Go.RowKit

def Ob.cs : Ob → Option (List V)
  | .cells _ cs => some cs
  | .row _ _ cs => some cs
  | _ => none
def Ob.rcs : Ob → Option (List V)
  | .cells _ cs => some cs
  | .row _ _ cs => some cs
  | .ro _ _ cs => some cs
  | _ => none
def Ob.with : Ob → List V → Ob
  | .cells T _, cs => .cells T cs
  | .row T sz _, cs => .row T sz cs
  | o, _ => o
theorem ObR.read {R : Rel} {o : Ob} {c : Nat} {x : Obj} (h : ObR R o c x) {cs : List V} (hc : o.cs = some cs) : ∃ ys sp T, VRs R cs ys ∧ (∀ y ∈ ys, y.oneCell' = true) ∧ x = .cells (ys ++ sp).toArray T (0, 0) := by
  cases h with
  | @cells T _ ys c h h1 => simp only [Ob.cs, Option.some.injEq] at hc; subst hc; exact ⟨ys, [], T, h, h1, by simp⟩
  | @row T sz _ ys sp c h h1 h2 h3 => simp only [Ob.cs, Option.some.injEq] at hc; subst hc; exact ⟨ys, sp, T, h, h1, rfl⟩
  | _ => cases hc
theorem ObR.rread {R : Rel} {o : Ob} {c : Nat} {x : Obj} (h : ObR R o c x) {cs : List V} (hc : o.rcs = some cs) : ∃ ys sp T fz, VRs R cs ys ∧ (∀ y ∈ ys, y.oneCell' = true) ∧ x = .cells (ys ++ sp).toArray T fz := by
  cases h with
  | @cells T _ ys c h h1 => simp only [Ob.rcs, Option.some.injEq] at hc; subst hc; exact ⟨ys, [], T, _, h, h1, by simp; rfl⟩
  | @row T sz _ ys sp c h h1 h2 h3 => simp only [Ob.rcs, Option.some.injEq] at hc; subst hc; exact ⟨ys, sp, T, _, h, h1, rfl⟩
  | @ro T sz _ ys sp fz c h h1 => simp only [Ob.rcs, Option.some.injEq] at hc; subst hc; exact ⟨ys, sp, T, fz, h, h1, rfl⟩
  | _ => cases hc
theorem Ob.cs_void {o : Ob} {cs : List V} (h : o.cs = some cs) : o.isVoid = false := by cases o <;> first | rfl | cases h
theorem Ob.rcs_void {o : Ob} {cs : List V} (h : o.rcs = some cs) : o.isVoid = false := by cases o <;> first | rfl | cases h
/-- Cells that are there, written anew. -/
theorem ObR.write {R : Rel} {o : Ob} {c : Nat} {ys sp : List Value} {T : TypeId} (h : ObR R o c (.cells (ys ++ sp).toArray T (0, 0))) {cs : List V} (hc : o.cs = some cs) (hl : cs.length = ys.length) {cs' : List V} {ys' : List Value} (hv : VRs R cs' ys') (h1 : ∀ y ∈ ys', y.oneCell' = true) (hl' : cs'.length = cs.length) :
    ObR R (o.with cs') c (.cells (ys' ++ sp).toArray T (0, 0)) := by
  have l1 := hv.length
  generalize hx : (Obj.cells (ys ++ sp).toArray T (0, 0)) = x at h
  cases h with
  | @cells T' _ zs c h h1' =>
    simp only [Ob.cs, Option.some.injEq] at hc; subst hc
    simp only [Obj.cells.injEq, and_true] at hx
    obtain ⟨hx, rfl⟩ := hx
    have l2 := h.length
    have hx' : ys ++ sp = zs := by simpa using congrArg Array.toList hx
    have : sp = [] := List.eq_nil_of_length_eq_zero (by have := congrArg List.length hx'; simp at this; omega)
    subst this
    simp only [List.append_nil]
    exact .cells T c hv h1
  | @row T' sz _ zs sp' c h h1' h2 h3 =>
    simp only [Ob.cs, Option.some.injEq] at hc; subst hc
    simp only [Obj.cells.injEq, and_true] at hx
    obtain ⟨hx, rfl⟩ := hx
    have l2 := h.length
    have hx' : ys ++ sp = zs ++ sp' := by simpa using congrArg Array.toList hx
    obtain ⟨rfl, rfl⟩ := List.append_inj hx' (by omega)
    exact .row T sz c hv h1 (by simp only [List.length_append] at h2 ⊢; omega) h3
  | ro => cases hc
  | fam => cases hc
  | _ => cases hx

/-- So many cells from a place on. -/
def cut (cs : List V) (off n : Nat) : Option (List V) :=
  match Nat.beq ((cs.drop off).take n).length n with
  | true => some ((cs.drop off).take n)
  | false => none
theorem cut_ok {R : Rel} {cs u : List V} {ys : List Value} {off n : Nat} (h : VRs R cs ys) (hc : cut cs off n = some u) : VRs R u ((ys.drop off).take n) ∧ u.length = n := by
  unfold cut at hc
  split at hc
  · rename_i hb
    simp only [Option.some.injEq] at hc; subst hc
    exact ⟨(h.drop off).take n, Nat.eq_of_beq_eq_true hb⟩
  · cases hc
def extN (H : View) (a : Addr) : Nat → Nat → Option (List Value)
  | _, 0 => some []
  | k, n + 1 => match H.cell? (a.add k) with
    | some v => match extN H a (k + 1) n with
      | some l => some (v :: l)
      | none => none
    | none => none
theorem extN_ok {H : View} {a : Addr} : ∀ {n k : Nat} {l : List Value}, extN H a k n = some l → l.length = n ∧ ∀ j v, l[j]? = some v → H.cell? (a.add (k + j)) = some v
  | 0, k, l, h => by simp [extN] at h; subst h; exact ⟨rfl, fun j v h => by simp at h⟩
  | n + 1, k, l, h => by
    simp only [extN] at h
    split at h
    · rename_i v hv
      split at h
      · rename_i m hm
        simp only [Option.some.injEq] at h; subst h
        obtain ⟨h1, h2⟩ := extN_ok hm
        refine ⟨by simp [h1], fun j u hj => ?_⟩
        cases j with
        | zero => simp only [List.getElem?_cons_zero, Option.some.injEq] at hj; subst hj; exact hv
        | succ j =>
          simp only [List.getElem?_cons_succ] at hj
          have := h2 j u hj
          rwa [show k + 1 + j = k + (j + 1) by omega] at this
      · cases h
    · cases h
/-- A load. -/
def loadV (P : Program) (H : View) (hp : PT Ob) (t : TypeId) : Option V → Option V
  | some (.ptr id off) => match hp.get id with
    | some o => match o.rcs with
      | some cs => match P.underlying t with
        | some u => match aggD u with
          | true => match sizeV P t with
            | some n => match cut cs off n with
              | some l => some (.agg l)
              | none => none
            | none => none
          | false => cs[off]?
        | none => none
      | none => none
    | none => none
  | some (.lit (.pointer (some a))) => match P.underlying t with
    | some u => match aggD u with
      | true => match sizeV P t with
        | some n => match extN H a 0 n with
          | some l => some (.agg (l.map .lit))
          | none => none
        | none => none
      | false => match H.cell? a with
        | some v => some (.lit v)
        | none => none
    | none => none
  | _ => none
section
variable {P : Program} {H : View} {R : Rel} {hp : PT Ob} {w : World}
theorem Cn.cells (hC : Cn H R hp w) {id : Nat} {o : Ob} {cs : List V} (hg : hp.get id = some o) (hc : o.cs = some cs) {b c : Nat} (hr : R id b (some c)) :
    ∃ ys sp T, VRs R cs ys ∧ (∀ y ∈ ys, y.oneCell' = true) ∧ w.heap[b]? = some (.cells (ys ++ sp).toArray T (0, 0)) ∧ ObR R o c (.cells (ys ++ sp).toArray T (0, 0)) := by
  obtain ⟨x, _, h2, h3⟩ := hC.at hg hr
  obtain ⟨ys, sp, T, h4, h5, rfl⟩ := h3.read hc
  exact ⟨ys, sp, T, h4, h5, h2, h3⟩
theorem Cn.rcells (hC : Cn H R hp w) {id : Nat} {o : Ob} {cs : List V} (hg : hp.get id = some o) (hc : o.rcs = some cs) {b c : Nat} (hr : R id b (some c)) :
    ∃ ys sp T fz, VRs R cs ys ∧ (∀ y ∈ ys, y.oneCell' = true) ∧ w.heap[b]? = some (.cells (ys ++ sp).toArray T fz) := by
  obtain ⟨x, _, h2, h3⟩ := hC.at hg hr
  obtain ⟨ys, sp, T, fz, h4, h5, rfl⟩ := h3.rread hc
  exact ⟨ys, sp, T, fz, h4, h5, h2⟩
theorem cell_of_heap {b off : Nat} {ys sp : List Value} {T : TypeId} {fz : Nat × Nat} {y : Value} (h : w.heap[b]? = some (.cells (ys ++ sp).toArray T fz)) (hy : ys[off]? = some y) : w.cell? ⟨b, off, none⟩ = some y := by
  have hlt := (List.getElem?_eq_some_iff.1 hy).1
  simp [World.cell?, h, List.getElem?_append, hlt, (List.getElem?_eq_some_iff.1 hy).2]
theorem loadV_ok (hC : Cn H R hp w) {t : TypeId} {p : Option V} {v : V} {y : Value} (hp' : ∀ u, p = some u → VR R u y) (h : loadV P H hp t p = some v) : ∃ z, VR R v z ∧ (Instr.loadAt t y).run P w = .ok z w := by
  unfold loadV at h
  split at h
  · rename_i id off
    have hv := hp' _ rfl
    split at h
    · rename_i o ho
      split at h
      · rename_i cs hcs
        split at h
        · rename_i u hu
          cases hv with
          | ptr _ hr =>
            obtain ⟨ys, sp, T, fz, h1, h2, h3⟩ := hC.rcells ho hcs hr
            split at h
            · rename_i hag
              split at h
              · rename_i n hn
                split at h
                · rename_i l hl
                  simp only [Option.some.injEq] at h; subst h
                  obtain ⟨k1, k2⟩ := cut_ok h1 hl
                  refine ⟨_, .agg k1, ?_⟩
                  have hlen := k1.length
                  have := run_loadCells_list (P := P) w ⟨_, off, none⟩ ((ys.drop off).take n) (fun j v hj => by
                    rw [Addr.add_lit]
                    rw [List.getElem?_take] at hj
                    split at hj
                    · rw [List.getElem?_drop] at hj
                      exact cell_of_heap h3 hj
                    · cases hj)
                  rw [show ((ys.drop off).take n).length = n by omega] at this
                  simp only [Instr.loadAt, Instr.sureAddr, Sem.run_bind, Sem.run_pure, Result.andThen_ok, loadVar, run_isAggV hu, hag, if_true, run_sizeV hn, this]
                · cases h
              · cases h
            · rename_i hag
              obtain ⟨z, hz, hvz⟩ := h1.get h
              refine ⟨z, hvz, ?_⟩
              simp only [Instr.loadAt, Instr.sureAddr, Sem.run_bind, Sem.run_pure, Result.andThen_ok, loadVar, run_isAggV hu, hag, Bool.false_eq_true, if_false]
              simp [run_load, cell_of_heap h3 hz]
        · cases h
      · cases h
    · cases h
  · rename_i a
    have hv := (hp' _ rfl).lit_inv
    subst hv
    split at h
    · rename_i u hu
      split at h
      · rename_i hag
        split at h
        · rename_i n hn
          split at h
          · rename_i l hl
            simp only [Option.some.injEq] at h; subst h
            obtain ⟨h1, h2⟩ := extN_ok hl
            refine ⟨_, .agg (VRs.lits l), ?_⟩
            have := run_loadCells_list (P := P) w a l (fun j v hj => by
              have := h2 j v hj
              rw [Nat.zero_add] at this
              exact hC.agree.cell this)
            rw [h1] at this
            simp only [Instr.loadAt, Instr.sureAddr, Sem.run_bind, Sem.run_pure, Result.andThen_ok, loadVar, run_isAggV hu, hag, if_true, run_sizeV hn, this]
          · cases h
        · cases h
      · rename_i hag
        split at h
        · rename_i v' hv'
          simp only [Option.some.injEq] at h; subst h
          refine ⟨_, .lit _, ?_⟩
          simp only [Instr.loadAt, Instr.sureAddr, Sem.run_bind, Sem.run_pure, Result.andThen_ok, loadVar, run_isAggV hu, hag, Bool.false_eq_true, if_false]
          simp [run_load, hC.agree.cell hv']
        · cases h
    · cases h
  · cases h
end

/-! ### maps -/
def fakes : List Ent → List MapEntry
  | [] => []
  | e :: l => ⟨e.key, undef, e.born⟩ :: fakes l
theorem ER.get {R : Rel} : ∀ {es : List Ent} {ms : List MapEntry} {i : Nat} {e : Ent}, ER R es ms → es[i]? = some e → ∃ y, ms[i]? = some ⟨e.key, y, e.born⟩ ∧ VR R e.val y
  | _, _, _, _, .nil, h => by simp at h
  | _, _, 0, _, .cons h t, k => by simp only [List.getElem?_cons_zero, Option.some.injEq] at k; subst k; exact ⟨_, rfl, h⟩
  | _, _, i + 1, _, .cons h t, k => by simp only [List.getElem?_cons_succ] at k ⊢; exact t.get k
theorem ER.length {R : Rel} : ∀ {es : List Ent} {ms : List MapEntry}, ER R es ms → es.length = ms.length
  | _, _, .nil => rfl
  | _, _, .cons _ t => by simp [t.length]
theorem ER.push {R : Rel} {e : Ent} {y : Value} (hv : VR R e.val y) : ∀ {es : List Ent} {ms : List MapEntry}, ER R es ms → ER R (es ++ [e]) (ms ++ [⟨e.key, y, e.born⟩])
  | _, _, .nil => .cons hv .nil
  | _, _, .cons h t => .cons h (t.push hv)
def setAt {α : Type} : List α → Nat → (α → α) → List α
  | [], _, _ => []
  | x :: l, 0, f => f x :: l
  | x :: l, i + 1, f => x :: setAt l i f
theorem setAt_eq {α : Type} : ∀ (l : List α) (i : Nat) (f : α → α), setAt l i f = l.modify i f
  | [], i, f => by simp [setAt]
  | x :: l, 0, f => by simp [setAt]
  | x :: l, i + 1, f => by simp [setAt, setAt_eq l i f]
theorem ER.setAt {R : Rel} {f : Ent → Ent} {g : MapEntry → MapEntry} (h : ∀ e y, VR R e.val y → ∃ z, g ⟨e.key, y, e.born⟩ = ⟨(f e).key, z, (f e).born⟩ ∧ VR R (f e).val z) : ∀ {es : List Ent} {ms : List MapEntry} (i : Nat), ER R es ms → ER R (Vm.setAt es i f) (ms.modify i g)
  | _, _, i, .nil => by simp [Vm.setAt]; exact .nil
  | _, _, 0, .cons (e := e) (y := y) hv t => by
    simp only [Vm.setAt, List.modify_zero_cons]
    obtain ⟨z, h1, h2⟩ := h e y hv
    rw [h1]
    exact .cons h2 t
  | _, _, i + 1, .cons hv t => by
    simp only [Vm.setAt, List.modify_succ_cons]
    exact .cons hv (ER.setAt h i t)
def eraseAt {α : Type} : List α → Nat → List α
  | [], _ => []
  | _ :: l, 0 => l
  | x :: l, i + 1 => x :: eraseAt l i
theorem ER.eraseAt {R : Rel} : ∀ {es : List Ent} {ms : List MapEntry} (i : Nat), ER R es ms → ER R (Vm.eraseAt es i) (ms.eraseIdx i)
  | _, _, i, .nil => by simp [Vm.eraseAt]; exact .nil
  | _, _, 0, .cons hv t => by simp only [Vm.eraseAt, List.eraseIdx_zero, List.tail_cons]; exact t
  | _, _, i + 1, .cons hv t => by simp only [Vm.eraseAt, List.eraseIdx_cons_succ]; exact .cons hv (t.eraseAt i)
theorem findNow_fakes {R : Rel} (u : TypeDesc) (k : Value) : ∀ {es : List Ent} {ms : List MapEntry} (n : Nat) (r : Option (Option (Nat × Value))), ER R es ms → Instr.findNow u k (fakes es) n = r →
    (match r with
      | none => Instr.findNow u k ms n = none
      | some none => Instr.findNow u k ms n = some none
      | some (some (i, _)) => n ≤ i ∧ ∃ m, ms[i - n]? = some m ∧ Instr.findNow u k ms n = some (some (i, m.val)))
  | _, _, n, r, .nil, h => by simp [fakes, Instr.findNow] at h; subst h; simp [Instr.findNow]
  | _, _, n, r, .cons (e := e) (y := y) (es := es) (ms := ms) hv t, h => by
    simp only [fakes, Instr.findNow] at h
    simp only [Instr.findNow]
    cases hs : Instr.sameNow u k e.key with
    | none => simp only [hs] at h; subst h; rfl
    | some b =>
      cases b with
      | true => simp only [hs] at h; subst h; simp
      | false =>
        simp only [hs] at h
        have ih := findNow_fakes u k (n + 1) r t h
        cases r with
        | none => simpa using ih
        | some q =>
          cases q with
          | none => simpa using ih
          | some p =>
            obtain ⟨i, v⟩ := p
            simp only at ih ⊢
            obtain ⟨h1, m, h2, h3⟩ := ih
            refine ⟨by omega, m, ?_, h3⟩
            rw [show i - n = (i - (n + 1)) + 1 by omega]
            simpa using h2
theorem pr_bind {α β : Type} {P : Program} {s : Sem α} {f : α → Sem β} {b : β} (h : pr P (s >>= f) = some b) : ∃ a, pr P s = some a ∧ pr P (f a) = some b := by
  induction s with
  | pure x => exact ⟨x, rfl, h⟩
  | program k ih => exact ih P h
  | mark m k ih => exact ih h
  | _ => cases h
theorem findAsking_fakes {P : Program} {R : Rel} (kt : TypeId) (k : Value) : ∀ {es : List Ent} {ms : List MapEntry} (n : Nat) (r : Option (Nat × Value)), ER R es ms → pr P (Instr.findAsking kt k (fakes es) n) = some r →
    (match r with
      | none => ∀ w, (Instr.findAsking kt k ms n).run P w = .ok none w
      | some (i, _) => n ≤ i ∧ ∃ m, ms[i - n]? = some m ∧ ∀ w, (Instr.findAsking kt k ms n).run P w = .ok (some (i, m.val)) w)
  | _, _, n, r, .nil, h => by
    simp only [fakes, Instr.findAsking] at h
    cases h
    intro w
    rfl
  | _, _, n, r, .cons (e := e) (y := y) (es := es) (ms := ms) hv t, h => by
    simp only [fakes, Instr.findAsking] at h
    obtain ⟨b, hb, h⟩ := pr_bind h
    have hrun := fun w => pr_run hb w
    cases b with
    | true =>
      simp only [if_true] at h
      cases h
      refine ⟨Nat.le_refl _, ⟨e.key, y, e.born⟩, by simp, fun w => ?_⟩
      simp only [Instr.findAsking, Sem.run_bind, hrun, Result.andThen_ok, if_true, Sem.run_pure]
    | false =>
      simp only [Bool.false_eq_true, if_false] at h
      have ih := findAsking_fakes kt k (n + 1) r t h
      cases r with
      | none =>
        intro w
        simp only [Instr.findAsking, Sem.run_bind, hrun, Result.andThen_ok, Bool.false_eq_true, if_false]
        exact ih w
      | some p =>
        obtain ⟨i, v⟩ := p
        simp only at ih ⊢
        obtain ⟨h1, m, h2, h3⟩ := ih
        refine ⟨by omega, m, ?_, fun w => ?_⟩
        · rw [show i - n = (i - (n + 1)) + 1 by omega]
          simpa using h2
        · simp only [Instr.findAsking, Sem.run_bind, hrun, Result.andThen_ok, Bool.false_eq_true, if_false]
          exact h3 w
/-- The place of a key. -/
def findV (P : Program) (kt : TypeId) (k : Value) (es : List Ent) : Option (Option Nat) :=
  match pr P (Instr.findKey kt k (fakes es)) with
  | some (some (i, _)) => some (some i)
  | some none => some none
  | none => none
theorem findV_ok {P : Program} {R : Rel} {kt : TypeId} {k : Value} {es : List Ent} {ms : List MapEntry} (hE : ER R es ms) {r : Option Nat} (h : findV P kt k es = some r) :
    match r with
      | none => ∀ w, (Instr.findKey kt k ms).run P w = .ok none w
      | some i => ∃ m, ms[i]? = some m ∧ ∀ w, (Instr.findKey kt k ms).run P w = .ok (some (i, m.val)) w := by
  have key : ∀ q, pr P (Instr.findKey kt k (fakes es)) = some q → (match q with
      | none => ∀ w, (Instr.findKey kt k ms).run P w = .ok none w
      | some (i, _) => ∃ m, ms[i]? = some m ∧ ∀ w, (Instr.findKey kt k ms).run P w = .ok (some (i, m.val)) w) := by
    intro q hq
    unfold Instr.findKey at hq
    obtain ⟨u, hu, hq⟩ := pr_bind hq
    have hur := fun w => pr_run hu w
    cases hn : Instr.findNow u k (fakes es) 0 with
    | some r' =>
      simp only [hn] at hq
      have hk := findNow_fakes u k 0 _ hE hn
      have : q = r' := by cases hq; rfl
      subst this
      cases q with
      | none =>
        intro w
        simp only at hk
        simp only [Instr.findKey, Sem.run_bind, hur, Result.andThen_ok, hk, Sem.run_pure]
      | some p =>
        obtain ⟨i, v⟩ := p
        simp only at hk ⊢
        obtain ⟨-, m, h2, h3⟩ := hk
        refine ⟨m, by simpa using h2, fun w => ?_⟩
        simp only [Instr.findKey, Sem.run_bind, hur, Result.andThen_ok, h3, Sem.run_pure]
    | none =>
      simp only [hn] at hq
      have hk := findNow_fakes u k 0 _ hE hn
      simp only at hk
      have ha := findAsking_fakes kt k 0 q hE hq
      cases q with
      | none =>
        intro w
        simp only [Instr.findKey, Sem.run_bind, hur, Result.andThen_ok, hk]
        exact ha w
      | some p =>
        obtain ⟨i, v⟩ := p
        simp only at ha ⊢
        obtain ⟨-, m, h2, h3⟩ := ha
        refine ⟨m, by simpa using h2, fun w => ?_⟩
        simp only [Instr.findKey, Sem.run_bind, hur, Result.andThen_ok, hk]
        exact h3 w
  unfold findV at h
  split at h
  · rename_i i v hq
    simp only [Option.some.injEq] at h; subst h
    exact key _ hq
  · rename_i hq
    simp only [Option.some.injEq] at h; subst h
    exact key _ hq
  · cases h
end Go.Vm
