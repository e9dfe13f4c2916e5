/- Operations that write: copy, maps, iterators; all of them together. -/
import Derived.Test.YtdghfmbbohlcgaaGreatDoorVmE
set_option linter.unusedVariables false
set_option linter.unusedSimpArgs false
namespace Go.Vm
open Go.RowKit

section
variable {P : Program} {H : View} {R : Rel} {nx : Nat} {hp : PT Ob} {w : World} {ρ : Rho} {a : Act} {o : Oper}
/-! ### copy -/
def minN (a b : Nat) : Nat := match Nat.ble a b with
  | true => a
  | false => b
theorem minN_eq (a b : Nat) : minN a b = Nat.min a b := by
  unfold minN
  split
  · rename_i h
    have := Nat.le_of_ble_eq_true h
    exact (Nat.min_eq_left this).symm
  · rename_i h
    have : ¬ a ≤ b := fun hh => by rw [Nat.ble_eq_true_of_le hh] at h; cases h
    exact (Nat.min_eq_right (by omega)).symm
def copyV (P : Program) (H : View) (nx : Nat) (hp : PT Ob) (t : TypeId) (d x : V) : Option (V × Nat × PT Ob) :=
  match P.underlying t with
  | some (.slice e) => match sizeV P e with
    | some sz => match newsV H hp sz x with
      | some (m, u) => match d with
        | .sl id off dn c => match hp.get id with
          | some ob => match ob.cs with
            | some cs => match Nat.ble (Nat.add off (Nat.mul (minN m dn) sz)) cs.length with
              | true => some (.lit (.int .i64 (.ofNat (minN m dn))), nx, hp.put id (some (ob.with (layV cs off (u.take (Nat.mul (minN m dn) sz))))))
              | false => none
            | none => none
          | none => none
        | .osl id i z dn => match Nat.ble 1 dn with
          | true => match hp.get id with
            | some ob => match ob.cs with
              | some cs => match Nat.ble (Nat.add (Nat.mul i z) (Nat.mul (minN m dn) sz)) cs.length with
                | true => some (.lit (.int .i64 (.ofNat (minN m dn))), nx, hp.put id (some (ob.with (layV cs (Nat.mul i z) (u.take (Nat.mul (minN m dn) sz))))))
                | false => none
              | none => none
            | none => none
          | false => some (.lit (.int .i64 (.ofNat 0)), nx, hp)
        | .lit (.slice none n c) => match n with
          | 0 => some (.lit (.int .i64 (.ofNat 0)), nx, hp)
          | _ + 1 => none
        | _ => none
      | none => none
    | none => none
  | _ => none
theorem copy_aux {t e : TypeId} {sz : Nat} (hu : P.underlying t = some (.slice e)) (hsz : sizeV P e = some sz) (ts ty : TypeId) (hC : Cn H R hp w) {id off dn c : Nat} {ob : Ob} {cs : List V} (hg : hp.get id = some ob) (hcs : ob.cs = some cs) {b cc : Nat} (hR : R id b cc)
    {A : Option Addr} {m c2 : Nat} {u : List V} {zs : List Value} (z1 : VRs R u zs) (z2 : ∀ z ∈ zs, z.oneCell' = true) (z3 : zs.length = m * sz) (z4 : (A = none ∧ m = 0) ∨ ∃ ad, A = some ad ∧ ∀ j v, zs[j]? = some v → w.cell? (ad.add j) = some v)
    (hl : off + minN m dn * sz ≤ cs.length) : ∃ w', (Builtin.copy_ #[t, ts] ty #[.slice (some ⟨b, off, none⟩) dn c, .slice A m c2]).run P w = .ok (.int .i64 ((minN m dn : Nat) : Int)) w' ∧ Cn H R (hp.put id (some (ob.with (layV cs off (u.take (minN m dn * sz)))))) w' ∧ St R nx hp w R nx (hp.put id (some (ob.with (layV cs off (u.take (minN m dn * sz)))))) w' := by
  have hle : minN m dn ≤ m := by rw [minN_eq]; exact Nat.min_le_left _ _
  have hle2 : minN m dn * sz ≤ m * sz := Nat.mul_le_mul_right _ hle
  have ulen := z1.length
  obtain ⟨w', r1, r2, r3⟩ := wr_ok (nx := nx) (off := off) hC hg hcs hR (z1.take (minN m dn * sz)) (fun z hz => z2 z (List.mem_of_mem_take hz)) (by rw [List.length_take]; omega)
  refine ⟨w', ?_, r2, r3⟩
  have hfc : (Builtin.firstCells sz (minN m dn) (.slice A m c2)).run P w = .ok (zs.take (minN m dn * sz)).toArray w := by
    rcases z4 with ⟨rfl, rfl⟩ | ⟨ad, rfl, hcell⟩
    · have : zs = [] := List.eq_nil_of_length_eq_zero (by omega)
      subst this
      simp [Builtin.firstCells]
    · refine run_firstCells_some (P := P) w sz _ ad m c2 _ (by rw [List.length_take]; omega) fun j v hj => ?_
      rw [List.getElem?_take] at hj
      split at hj
      · exact hcell j v hj
      · cases hj
  have hmin : m.min dn = minN m dn := (minN_eq m dn).symm
  simp only [Builtin.copy_, List.getElem?_toArray, List.getElem?_cons_zero, List.getElem?_cons_succ, Sem.run_bind, run_underlying hu, Result.andThen_ok, Builtin.lenOf, Sem.run_pure, hmin, run_sizeV hsz, hfc, r1 P, goInt]
theorem copyV_ok (hC : Cn H R hp w) {t ts : TypeId} {d x : V} {yd yx : Value} (hd : VR R d yd) (hx : VR R x yx) {v : V} {nx' : Nat} {hp' : PT Ob} (h : copyV P H nx hp t d x = some (v, nx', hp')) (ty : TypeId) :
    ∃ y w', (Builtin.copy_ #[t, ts] ty #[yd, yx]).run P w = .ok y w' ∧ VR R v y ∧ Cn H R hp' w' ∧ St R nx hp w R nx' hp' w' := by
  unfold copyV at h
  split at h
  · rename_i e hu
    split at h
    · rename_i sz hsz
      split at h
      · rename_i m u hnews
        obtain ⟨A, c2, zs, rfl, z1, z2, z3, z4⟩ := newsV_ok hC hx hnews
        split at h
        · rename_i id off dn c
          split at h
          · rename_i ob hg
            split at h
            · rename_i cs hcs
              split at h
              · rename_i hl
                have hl := Nat.le_of_ble_eq_true hl
                simp only [Option.some.injEq, Prod.mk.injEq] at h
                obtain ⟨rfl, rfl, rfl⟩ := h
                cases hd with
                | sl _ _ _ hR =>
                  obtain ⟨w', r1, r2, r3⟩ := copy_aux (nx := nx) (c := c) (c2 := c2) hu hsz ts ty hC hg hcs hR z1 z2 z3 z4 hl
                  exact ⟨_, w', r1, .lit _, r2, r3⟩
              · cases h
            · cases h
          · cases h
        · rename_i id i z dn
          split at h
          · rename_i hdn
            have hdn := Nat.le_of_ble_eq_true hdn
            split at h
            · rename_i ob hg
              split at h
              · rename_i cs hcs
                split at h
                · rename_i hl
                  have hl := Nat.le_of_ble_eq_true hl
                  simp only [Option.some.injEq, Prod.mk.injEq] at h
                  obtain ⟨rfl, rfl, rfl⟩ := h
                  cases hd with
                  | osl0 _ hR => exact (hC.notVoid hg (Ob.cs_void hcs) hR).elim
                  | @osl _ b cc _ _ _ p hR hn hp =>
                    obtain rfl := hp (by omega)
                    obtain ⟨w', r1, r2, r3⟩ := copy_aux (nx := nx) (c := cc - i) (c2 := c2) hu hsz ts ty hC hg hcs hR z1 z2 z3 z4 hl
                    exact ⟨_, w', r1, .lit _, r2, r3⟩
                · cases h
              · cases h
            · cases h
          · rename_i hdn
            have hdn : dn = 0 := by
              cases dn with
              | zero => rfl
              | succ k => rw [show Nat.ble 1 (k + 1) = true from Nat.ble_eq_true_of_le (by omega)] at hdn; cases hdn
            subst hdn
            simp only [Option.some.injEq, Prod.mk.injEq] at h
            obtain ⟨rfl, rfl, rfl⟩ := h
            obtain ⟨p, cc, rfl⟩ : ∃ p cc, yd = .slice p 0 cc := by cases hd <;> exact ⟨_, _, rfl⟩
            refine ⟨_, w, ?_, .lit _, hC, St.refl _ _ _ _⟩
            have hmin : m.min 0 = 0 := Nat.min_zero m
            have hfc : (Builtin.firstCells sz 0 (.slice A m c2)).run P w = .ok #[] w := by
              cases A <;> simp [Builtin.firstCells, loadCells, loadCellsFrom]
            simp only [Builtin.copy_, List.getElem?_toArray, List.getElem?_cons_zero, List.getElem?_cons_succ, Sem.run_bind, run_underlying hu, Result.andThen_ok, Builtin.lenOf, Sem.run_pure, hmin, run_sizeV hsz, hfc, goInt]
            cases p <;> rfl
        · rename_i n c
          have := hd.lit_inv
          subst this
          split at h
          · simp only [Option.some.injEq, Prod.mk.injEq] at h
            obtain ⟨rfl, rfl, rfl⟩ := h
            refine ⟨_, w, ?_, .lit _, hC, St.refl _ _ _ _⟩
            have hmin : m.min 0 = 0 := Nat.min_zero m
            have hfc : (Builtin.firstCells sz 0 (.slice A m c2)).run P w = .ok #[] w := by
              cases A <;> simp [Builtin.firstCells, loadCells, loadCellsFrom]
            simp only [Builtin.copy_, List.getElem?_toArray, List.getElem?_cons_zero, List.getElem?_cons_succ, Sem.run_bind, run_underlying hu, Result.andThen_ok, Builtin.lenOf, Sem.run_pure, hmin, run_sizeV hsz, hfc, goInt]
            rfl
          · cases h
        · cases h
      · cases h
    · cases h
  · cases h

/-! ### maps -/
def World.setB (w : World) (b : Nat) (x : Obj) : World := { w with heap := w.heap.setIfInBounds b x }
theorem below_setB (w : World) (b : Nat) (x : Obj) : Below 0 w (World.setB w b x) := ⟨rfl, rfl, rfl, by simp [World.setB], fun k hk => by omega⟩
theorem setB_at {w : World} {b : Nat} {x y : Obj} (h : w.heap[b]? = some y) : (World.setB w b x).heap[b]? = some x := by
  have := lt_of_some h
  simp only [World.setB]
  rw [Array.getElem?_setIfInBounds_self_of_lt this]
theorem setB_ne {w : World} {b k : Nat} {x : Obj} (h : k ≠ b) : (World.setB w b x).heap[k]? = w.heap[k]? := by
  simp only [World.setB]
  rw [Array.getElem?_setIfInBounds_ne (fun e => h e.symm)]
def notCells : Obj → Bool
  | .cells _ _ _ => false
  | _ => true
theorem run_setObj_ {b : Nat} {x y : Obj} (h : w.heap[b]? = some y) (hn : notCells y = true) : (setObj b x).run P w = .ok () (World.setB w b x) := by
  cases y <;> simp [notCells] at hn <;> simp [setObj, Sem.run, h, World.setB]
/-- A map, or an iterator, is written anew. -/
theorem setMap (hC : Cn H R hp w) {id : Nat} {ob ob' : Ob} (hg : hp.get id = some ob) {b c : Nat} (hr : R id b (some c)) {x : Obj} (hx : ObR R ob' c x) : Cn H R (hp.put id (some ob')) (World.setB w b x) ∧ St R nx hp w R nx (hp.put id (some ob')) (World.setB w b x) := by
  obtain ⟨x0, _, h2, _⟩ := hC.at hg hr
  exact ⟨hC.set hg hr hx (setB_at h2) fun k hk => setB_ne hk, St.set hg hr nx ob' (below_setB _ _ _) fun k hk => setB_ne hk⟩
def putV (P : Program) (kt : TypeId) (es : List Ent) (clock : Nat) (kv : Value) (v : V) : Option Ob :=
  match pr P (Instr.checkKey false 10000 kt kv) with
  | some _ => match findV P kt kv es with
    | some (some i) => match es[i]? with
      | some e => match pr P (Instr.keyThatStays e.key kv) with
        | some k' => some (.map (setAt es i fun e => ⟨k', v, e.born⟩) clock)
        | none => none
      | none => none
    | some none => some (.map (es ++ [⟨kv, v, clock⟩]) (Nat.succ clock))
    | none => none
  | none => none
def entV (P : Program) (kt et : TypeId) (es : List Ent) (clock : Nat) (kv : Value) : Option (V × Ob) :=
  match pr P (Instr.checkKey false 10000 kt kv) with
  | some _ => match findV P kt kv es with
    | some (some i) => match es[i]? with
      | some e => match pr P (Instr.keyThatStays e.key kv) with
        | some k' => some (.tup [e.val, .lit (.int .i64 (.ofNat e.born))], .map (setAt es i fun e => ⟨k', e.val, e.born⟩) clock)
        | none => none
      | none => none
    | some none => match zeroV P et with
      | some z => some (.tup [.lit z, .lit (.int .i64 (.ofNat clock))], .map (es ++ [⟨kv, .lit z, clock⟩]) (Nat.succ clock))
      | none => none
    | none => none
  | none => none
theorem putV_ok (hC : Cn H R hp w) {t kt et : TypeId} (hu : P.underlying t = some (.map kt et)) {id clock : Nat} {es : List Ent} (hg : hp.get id = some (.map es clock)) {b c : Nat} (hR : R id b (some c)) {kv : Value} {v : V} {y : Value} (hv : VR R v y) {ob : Ob} (h : putV P kt es clock kv v = some ob) :
    ∃ w', (Instr.mapUpdate t (.map (some b)) kv y).run P w = .ok () w' ∧ Cn H R (hp.put id (some ob)) w' ∧ St R nx hp w R nx (hp.put id (some ob)) w' := by
  obtain ⟨ms, hE, hh⟩ := hC.map hg hR
  unfold putV at h
  split at h
  · rename_i u hck
    split at h
    · rename_i i hf
      split at h
      · rename_i e he
        split at h
        · rename_i k' hk
          simp only [Option.some.injEq] at h; subst h
          have hfo := findV_ok hE hf
          simp only at hfo
          obtain ⟨m', h1, h2⟩ := hfo
          obtain ⟨y0, h3, h4⟩ := hE.get he
          rw [h3] at h1
          simp only [Option.some.injEq] at h1; subst h1
          have hset := ER.setAt (R := R) (f := fun e => ⟨k', v, e.born⟩) (g := fun e => { e with key := k', val := y }) (fun e z hz => ⟨y, rfl, hv⟩) i hE
          obtain ⟨r1, r2⟩ := setMap (nx := nx) hC hg hR (.map clock c hset)
          refine ⟨_, ?_, r1, r2⟩
          have hms : (ms.toArray[i]?).map (·.key) = some e.key := by simp [h3]
          simp only [Instr.mapUpdate, Sem.run_bind, run_underlying hu, Result.andThen_ok, run_getObj_map hh, pr_run hck, h2, hms, Option.getD_some, pr_run hk]
          rw [run_setObj_ hh rfl]
          simp
        · cases h
      · cases h
    · rename_i hf
      simp only [Option.some.injEq] at h; subst h
      have hfo := findV_ok hE hf
      simp only at hfo
      have hpush := ER.push (e := ⟨kv, v, clock⟩) hv hE
      obtain ⟨r1, r2⟩ := setMap (nx := nx) hC hg hR (.map (clock + 1) c hpush)
      refine ⟨_, ?_, r1, r2⟩
      simp only [Instr.mapUpdate, Sem.run_bind, run_underlying hu, Result.andThen_ok, run_getObj_map hh, pr_run hck, hfo]
      rw [run_setObj_ hh rfl]
      simp
    · cases h
  · cases h
theorem entV_ok (hC : Cn H R hp w) {t kt et : TypeId} (hu : P.underlying t = some (.map kt et)) {id clock : Nat} {es : List Ent} (hg : hp.get id = some (.map es clock)) {b c : Nat} (hR : R id b (some c)) {kv : Value} {v : V} {ob : Ob} (h : entV P kt et es clock kv = some (v, ob)) :
    ∃ y w', (Instr.mapEntry t (.map (some b)) kv).run P w = .ok y w' ∧ VR R v y ∧ Cn H R (hp.put id (some ob)) w' ∧ St R nx hp w R nx (hp.put id (some ob)) w' := by
  obtain ⟨ms, hE, hh⟩ := hC.map hg hR
  unfold entV at h
  split at h
  · rename_i u hck
    split at h
    · rename_i i hf
      split at h
      · rename_i e he
        split at h
        · rename_i k' hk
          simp only [Option.some.injEq, Prod.mk.injEq] at h
          obtain ⟨rfl, rfl⟩ := h
          have hfo := findV_ok hE hf
          simp only at hfo
          obtain ⟨m', h1, h2⟩ := hfo
          obtain ⟨y0, h3, h4⟩ := hE.get he
          rw [h3] at h1
          simp only [Option.some.injEq] at h1; subst h1
          have hset := ER.setAt (R := R) (f := fun e => ⟨k', e.val, e.born⟩) (g := fun e => { e with key := k' }) (fun e z hz => ⟨z, rfl, hz⟩) i hE
          obtain ⟨r1, r2⟩ := setMap (nx := nx) hC hg hR (.map clock c hset)
          refine ⟨_, _, ?_, .tup (.cons h4 (.cons (.lit _) .nil)), r1, r2⟩
          have hms : (ms.toArray[i]?).map (·.key) = some e.key := by simp [h3]
          have hmb : (ms.toArray[i]?).map (·.born) = some e.born := by simp [h3]
          simp only [Instr.mapEntry, Sem.run_bind, run_underlying hu, Result.andThen_ok, run_getObj_map hh, pr_run hck, h2, hms, Option.getD_some, pr_run hk]
          rw [run_setObj_ hh rfl]
          simp [h3, goInt]
        · cases h
      · cases h
    · rename_i hf
      split at h
      · rename_i z hz
        simp only [Option.some.injEq, Prod.mk.injEq] at h
        obtain ⟨rfl, rfl⟩ := h
        have hfo := findV_ok hE hf
        simp only at hfo
        have hpush := ER.push (e := ⟨kv, .lit z, clock⟩) (VR.lit (R := R) z) hE
        obtain ⟨r1, r2⟩ := setMap (nx := nx) hC hg hR (.map (clock + 1) c hpush)
        refine ⟨_, _, ?_, .tup (.cons (.lit z) (.cons (.lit _) .nil)), r1, r2⟩
        simp only [Instr.mapEntry, Sem.run_bind, run_underlying hu, Result.andThen_ok, run_getObj_map hh, pr_run hck, hfo, run_zeroV hz]
        rw [run_setObj_ hh rfl]
        simp [goInt]
      · cases h
    · cases h
  · cases h
def bornIx : List Ent → Nat → Nat → Option Nat
  | [], _, _ => none
  | e :: l, n, k => match Nat.beq e.born n with
    | true => some k
    | false => bornIx l n (Nat.succ k)
theorem bornIx_ok {R : Rel} : ∀ {es : List Ent} {ms : List MapEntry} {n k i : Nat}, ER R es ms → bornIx es n k = some i → k ≤ i ∧ ms.findIdx? (fun e => (e.born : Int) == (n : Int)) = some (i - k)
  | _, _, _, _, _, .nil, h => by cases h
  | _, _, n, k, i, .cons (e := f) (y := y) hv t, h => by
    simp only [bornIx] at h
    split at h
    · rename_i hb
      simp only [Option.some.injEq] at h; subst h
      have := Nat.eq_of_beq_eq_true hb
      simp [List.findIdx?_cons, this]
    · rename_i hb
      obtain ⟨h1, h2⟩ := bornIx_ok t h
      have h1 : k + 1 ≤ i := h1
      have hne : ((f.born : Int) == (n : Int)) = false := by
        cases hq : ((f.born : Int) == (n : Int)) with
        | false => rfl
        | true =>
          rw [beq_iff_eq] at hq
          have : f.born = n := by omega
          subst this; simp at hb
      refine ⟨by omega, ?_⟩
      simp only [List.findIdx?_cons, hne, Bool.false_eq_true, if_false, h2, Option.map_some]
      congr 1
      simp only [Nat.succ_eq_add_one]
      omega
theorem stamp_ok (hC : Cn H R hp w) {t : TypeId} {id clock : Nat} {es : List Ent} (hg : hp.get id = some (.map es clock)) {b c : Nat} (hR : R id b (some c)) {ik : IntKind} {n i : Nat} {v : V} {y : Value} (hv : VR R v y) (h : bornIx es n 0 = some i) :
    ∃ w', (Instr.entryStore t (.map (some b)) (.int ik (n : Int)) y).run P w = .ok () w' ∧ Cn H R (hp.put id (some (.map (setAt es i fun e => ⟨e.key, v, e.born⟩) clock))) w' ∧ St R nx hp w R nx (hp.put id (some (.map (setAt es i fun e => ⟨e.key, v, e.born⟩) clock))) w' := by
  obtain ⟨ms, hE, hh⟩ := hC.map hg hR
  obtain ⟨-, hf⟩ := bornIx_ok hE h
  have hset := ER.setAt (R := R) (f := fun e => ⟨e.key, v, e.born⟩) (g := fun e => { e with val := y }) (fun e z hz => ⟨y, rfl, hv⟩) i hE
  obtain ⟨r1, r2⟩ := setMap (nx := nx) hC hg hR (.map clock c hset)
  refine ⟨_, ?_, r1, r2⟩
  have hfa : ms.toArray.findIdx? (fun e => (e.born : Int) == (n : Int)) = some i := by simpa using hf
  simp only [Instr.entryStore, Sem.run_bind, Sem.run_pure, Result.andThen_ok, run_getObj_map hh, asInt, asIntOf, hfa]
  rw [run_setObj_ hh rfl]
  simp
/-! iterators -/
def unseen (seen : List Nat) : List Ent → List Ent
  | [] => []
  | e :: l => match seen.contains e.born with
    | true => unseen seen l
    | false => e :: unseen seen l
theorem unseen_ok {R : Rel} (seen : List Nat) : ∀ {es : List Ent} {ms : List MapEntry}, ER R es ms → ER R (unseen seen es) (ms.filter fun e => !seen.contains e.born)
  | _, _, .nil => .nil
  | _, _, .cons (e := e) hv t => by
    simp only [unseen, List.filter_cons]
    split
    · rename_i h
      rw [if_neg (by simpa using h)]
      exact unseen_ok seen t
    · rename_i h
      rw [if_pos (by simpa using h)]
      exact .cons hv (unseen_ok seen t)
def allGe (last : Nat) : List Ent → Bool
  | [] => true
  | e :: l => match Nat.ble last e.born with
    | true => allGe last l
    | false => false
theorem allGe_ok {R : Rel} (last : Nat) : ∀ {es : List Ent} {ms : List MapEntry}, ER R es ms → ms.all (fun e => decide (e.born ≥ last)) = allGe last es
  | _, _, .nil => rfl
  | _, _, .cons (e := e) hv t => by
    simp only [allGe, List.all_cons, allGe_ok last t]
    split
    · rename_i h
      have := Nat.le_of_ble_eq_true h
      simp [this]
    · rename_i h
      have : ¬ last ≤ e.born := fun hh => by rw [Nat.ble_eq_true_of_le hh] at h; cases h
      simp [this]
/-- The one that is left; none; or more (nothing is said). -/
def nextV (es : List Ent) (since last : Nat) (seen : List Nat) : Option (Option Ent) :=
  match !seen.isEmpty && !es.isEmpty && allGe last es with
  | true => none
  | false => match unseen seen es with
    | [] => some none
    | [e] => match Nat.ble (Nat.succ e.born) since with
      | true => some (some e)
      | false => none
    | _ => none
theorem run_choose_one (q : Nat) (h : q ≤ 1) : (choose (.mapNext q)).run P w = .ok 0 w := by
  simp [choose, Sem.run, Question.forced, h]
theorem nextV_ok {es : List Ent} {ms : List MapEntry} (hE : ER R es ms) {bm b since last clock : Nat} {seen : List Nat} (hh : w.heap[bm]? = some (.map ms.toArray clock)) (hi : w.heap[b]? = some (.mapIter (some bm) since seen.toArray last)) (ty : TypeId) {r : Option Ent} (h : nextV es since last seen = some r) :
    match r with
      | none => (Instr.next (.pointer (some ⟨b, 0, none⟩)) false ty).run P w = .ok (.tuple #[.bool false]) w
      | some e => ∃ y, VR R e.val y ∧ (Instr.next (.pointer (some ⟨b, 0, none⟩)) false ty).run P w = .ok (.tuple #[.bool true, e.key, y]) (World.setB w b (.mapIter (some bm) since (seen ++ [e.born]).toArray clock)) := by
  have hg1 : (getObj b).run P w = .ok (.mapIter (some bm) since seen.toArray last) w := by simp [getObj, Sem.run, hi]
  unfold nextV at h
  split at h
  · cases h
  · rename_i hno
    have hcond : (!seen.toArray.isEmpty && !ms.toArray.isEmpty && ms.toArray.all fun e => decide (e.born ≥ last)) = false := by
      rw [← hno, ← allGe_ok last hE]
      have := hE.length
      cases seen <;> cases es <;> cases ms <;> simp_all
    have hun := unseen_ok seen hE
    have hleft : (ms.toArray.filter fun e => !seen.toArray.contains e.born) = (ms.filter fun e => !seen.contains e.born).toArray := by
      simp
    split at h
    · rename_i hu
      simp only [Option.some.injEq] at h; subst h
      rw [hu] at hun
      generalize hms : (ms.filter fun e => !seen.contains e.born) = l at hun hleft
      cases hun
      simp only [Instr.next, Sem.run_bind, Sem.run_pure, Result.andThen_ok, hg1, run_getObj_map hh, hcond, Bool.false_eq_true, if_false, hleft]
      simp [choose, Sem.run, Question.forced]
    · rename_i e hu
      split at h
      · rename_i hlt
        have hlt : e.born < since := Nat.le_of_ble_eq_true hlt
        simp only [Option.some.injEq] at h; subst h
        rw [hu] at hun
        generalize hms : (ms.filter fun e => !seen.contains e.born) = l at hun hleft
        cases hun with
        | @cons _ y _ _ hv t =>
          cases t
          refine ⟨y, hv, ?_⟩
          simp only [Instr.next, Sem.run_bind, Sem.run_pure, Result.andThen_ok, hg1, run_getObj_map hh, hcond, Bool.false_eq_true, if_false, hleft]
          have hlt' : ¬ since ≤ e.born := by omega
          have f1 : (#[({ key := e.key, val := y, born := e.born } : MapEntry)].filter fun x => decide (x.born < since)) = #[⟨e.key, y, e.born⟩] := by simp [hlt]
          have f2 : (#[({ key := e.key, val := y, born := e.born } : MapEntry)].filter fun x => decide (x.born ≥ since)) = #[] := by simp [hlt']
          simp only [f1, f2]
          simp [choose, Sem.run, Question.forced, run_setObj_ (P := P) hi rfl, hi, World.setB]
      · cases h
    · cases h
end
end Go.Vm
