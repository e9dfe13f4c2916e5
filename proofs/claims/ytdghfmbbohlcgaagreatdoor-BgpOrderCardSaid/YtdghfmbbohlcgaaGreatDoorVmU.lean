/- One operation over values of which not all is known: loads, stores, append, copy. -/
import Derived.Test.YtdghfmbbohlcgaaGreatDoorVmT
set_option linter.unusedVariables false
set_option linter.unusedSimpArgs false
namespace Go.Vm
open Go.RowKit

def ldV (P : Program) (t : TypeId) (cs : List V) (off : Nat) : Option V := match P.underlying t with
  | some u => match aggD u with
    | true => match sizeV P t with
      | some n => match cut cs off n with
        | some l => some (.agg l)
        | none => none
      | none => none
    | false => cs[off]?
  | none => none
/-- Is it a struct of so many cells? -/
def isAgg (P : Program) (t : TypeId) (z : Nat) : Bool := match P.underlying t with
  | some u => match aggD u with
    | true => match sizeV P t with
      | some n => Nat.beq n z
      | none => false
    | false => false
  | none => false
/-- A load: a whole element as it is. -/
def ldE (P : Program) (t : TypeId) (z : Nat) (cs : List V) (off : Nat) : Option V := match off with
  | 0 => match isAgg P t z with
    | true => some (.agg cs)
    | false => ldV P t cs 0
  | k + 1 => ldV P t cs (k + 1)
def readU (P : Program) (H : View) (hp : PT Ob) (ρ : Rho) (o : Oper) : Option (Option Prop × V) := match o.op with
  | .load t x => match ρ x with
    | some (.ep id i z off) => match hp.get id with
      | some (.fam _ z' n f) => match Nat.beq z' z, ldE P t z (f i) off with
        | true, some v => some (some (i < n), v)
        | _, _ => none
      | _ => none
    | some (.xp b o' i z off f) => match ldE P t z (f i) off with
      | some v => some (some (XE H b o' z f i), v)
      | none => none
    | _ => none
  | _ => none
/-- What is appended, or copied from. -/
def newsU (H : View) (hp : PT Ob) (sz : Nat) : V → Option (Option Prop × Nat × (Nat → List V))
  | .xs b o j z m _ f => match Nat.beq z sz with
    | true => some (some (∀ k, k < m → XE H b o z f (Nat.add k j)), m, fun k => f (Nat.add k j))
    | false => none
  | .osl id j z m => match hp.get id with
    | some (.fam _ z' n f) => match Nat.beq z sz, Nat.beq z' sz with
      | true, true => some (some (Nat.add m j ≤ n), m, fun k => f (Nat.add k j))
      | _, _ => none
    | _ => none
  | .sl id off m _ => match m with
    | 1 => match hp.get id with
      | some ob => match ob.cs with
        | some cs => match cut cs off sz with
          | some u => match noIds u with
            | true => some (none, 1, fun _ => u)
            | false => none
          | none => none
        | none => none
      | none => none
    | _ => none
  | .lit (.slice none n _) => match n with
    | 0 => some (none, 0, fun _ => [])
    | _ + 1 => none
  | _ => none
def appU (P : Program) (H : View) (nx : Nat) (hp : PT Ob) (t : TypeId) (s x : V) : Option (Option Prop × V × Nat × PT Ob) :=
  match P.underlying t with
  | some (.slice e) => match P.info? e with
    | some i => match i.zero with
      | some z => match Nat.beq z.cells.toList.length i.size, i.size, newsU H hp i.size x with
        | true, q + 1, some (p, m, g) => match s with
          | .osl id j zz n => match j, Nat.beq zz (q + 1), hp.get id with
            | 0, true, some (.fam T z' N f) => match Nat.beq z' (q + 1), Nat.beq T e with
              | true, true => some (some (wh p (n = N ∧ Nat.mul (Nat.add n m) i.bytes ≤ 140737488355328 ∧ Nat.add n m ≤ 140737488355328)), .osl nx 0 (q + 1) (Nat.add n m), Nat.succ nx, (hp.put id none).put nx (some (.fam e (q + 1) (Nat.add n m) (appF n f g))))
              | _, _ => none
            | _, _, _ => none
          | .lit (.slice none n c) => match n, c with
            | 0, 0 => some (some (wh p (Nat.mul m i.bytes ≤ 140737488355328 ∧ m ≤ 140737488355328)), .osl nx 0 (q + 1) m, Nat.succ nx, hp.put nx (some (.fam e (q + 1) m g)))
            | _, _ => none
          | .sl _ _ n c => match n, c with
            | 0, 0 => some (some (wh p (Nat.mul m i.bytes ≤ 140737488355328 ∧ m ≤ 140737488355328)), .osl nx 0 (q + 1) m, Nat.succ nx, hp.put nx (some (.fam e (q + 1) m g)))
            | _, _ => none
          | .xs b o j zz n c f => match Nat.beq zz (q + 1) with
            | true => some (some (wh p ((∀ k, k < n → XE H b o zz f (Nat.add k j)) ∧ c < Nat.add n m ∧ Nat.mul (Nat.add n m) i.bytes ≤ 140737488355328 ∧ Nat.add n m ≤ 140737488355328)), .osl nx 0 (q + 1) (Nat.add n m), Nat.succ nx, hp.put nx (some (.fam e (q + 1) (Nat.add n m) (appF n (fun k => f (Nat.add k j)) g))))
            | false => none
          | _ => none
        | _, _, _ => none
      | none => none
    | none => none
  | _ => none
section
variable {P : Program} {H : View} {R : Rel} {hp : PT Ob} {nx : Nat} {w : World} {ρ : Rho} {a : Act} {o : Oper}
/-- A family and the cells of its block. -/
theorem Cn.fam (hC : Cn H R hp w) {id T sz n : Nat} {f : Nat → List V} (hg : hp.get id = some (.fam T sz n f)) {b c : Nat} (hr : R id b (some c)) :
    ∃ ys sp, VRs R0 (flat n f) ys ∧ (∀ y ∈ ys, y.oneCell' = true) ∧ (∀ k, k < n → (f k).length = sz) ∧ ys.length = n * sz ∧ (ys ++ sp).length = c * sz ∧ c ≤ maxLen ∧ w.heap[b]? = some (.cells (ys ++ sp).toArray T (0, 0)) ∧ H b = none := by
  obtain ⟨x, h1, h2, h3⟩ := hC.at hg hr
  cases h3 with
  | fam _ _ _ hl h h1' hc hm => exact ⟨_, _, h, h1', hl, by rw [← h.length, flat_length hl], hc, hm, h2, h1⟩
theorem VRs.at {R : Rel} {vs : List V} {ys : List Value} (h : VRs R vs ys) {i : Nat} {v : V} (hv : vs[i]? = some v) : ∃ y, ys[i]? = some y ∧ VR R v y := h.get hv
theorem run_loadAgg {t : TypeId} {u : TypeDesc} {n : Nat} (hu : P.underlying t = some u) (hag : aggD u = true) (hn : sizeV P t = some n) (ad : Addr) (zs : List Value) (hl : zs.length = n) (hc : ∀ j v, zs[j]? = some v → w.cell? (ad.add j) = some v) : (Instr.loadAt t (.pointer (some ad))).run P w = .ok (.agg zs.toArray) w := by
  have := run_loadCells_list (P := P) w ad zs hc
  rw [hl] at this
  simp only [Instr.loadAt, Instr.sureAddr, Sem.run_bind, Sem.run_pure, Result.andThen_ok, loadVar, run_isAggV hu, hag, if_true, run_sizeV hn, this]
theorem run_loadOne {t : TypeId} {u : TypeDesc} (hu : P.underlying t = some u) (hag : aggD u = false) (ad : Addr) (z : Value) (hc : w.cell? ad = some z) : (Instr.loadAt t (.pointer (some ad))).run P w = .ok z w := by
  simp only [Instr.loadAt, Instr.sureAddr, Sem.run_bind, Sem.run_pure, Result.andThen_ok, loadVar, run_isAggV hu, hag, Bool.false_eq_true, if_false]
  simp [run_load, hc]
/-- Cells that are known, loaded. -/
theorem ldV_ok {t : TypeId} {cs : List V} {off : Nat} {v : V} (h : ldV P t cs off = some v) {ys : List Value} (hv : VRs R0 cs ys) {b o' : Nat} (hc : ∀ j y, ys[j]? = some y → w.cell? ⟨b, o' + j, none⟩ = some y) : ∃ z, VR R v z ∧ (Instr.loadAt t (.pointer (some ⟨b, o' + off, none⟩))).run P w = .ok z w := by
  unfold ldV at h
  split at h
  · rename_i u hu
    split at h
    · rename_i hag
      split at h
      · rename_i n hn
        split at h
        · rename_i l hl
          simp only [Option.some.injEq] at h; subst h
          obtain ⟨k1, k2⟩ := cut_ok hv hl
          refine ⟨_, .agg (R0s_any k1), run_loadAgg hu hag hn _ _ (by have := k1.length; omega) fun j v hj => ?_⟩
          rw [Addr.add_lit]
          rw [List.getElem?_take] at hj
          split at hj
          · rw [List.getElem?_drop] at hj
            have := hc _ _ hj
            rw [Nat.add_assoc]; exact this
          · cases hj
        · cases h
      · cases h
    · rename_i hag
      obtain ⟨z, hz, hvz⟩ := hv.get h
      exact ⟨z, R0_any hvz, run_loadOne hu hag _ _ (hc _ _ hz)⟩
  · cases h
theorem ldE_ok {t : TypeId} {z0 : Nat} {cs : List V} {off : Nat} {v : V} (h : ldE P t z0 cs off = some v) {ys : List Value} (hv : VRs R0 cs ys) (hlen : ys.length = z0) {b o' : Nat} (hc : ∀ j y, ys[j]? = some y → w.cell? ⟨b, o' + j, none⟩ = some y) : ∃ z, VR R v z ∧ (Instr.loadAt t (.pointer (some ⟨b, o' + off, none⟩))).run P w = .ok z w := by
  unfold ldE at h
  split at h
  · split at h
    · rename_i hag
      simp only [Option.some.injEq] at h; subst h
      unfold isAgg at hag
      split at hag
      · rename_i u hu
        split at hag
        · rename_i hag2
          split at hag
          · rename_i n hn
            obtain rfl := Nat.eq_of_beq_eq_true hag
            refine ⟨_, .agg (R0s_any hv), run_loadAgg hu hag2 hn _ _ hlen fun j v hj => ?_⟩
            rw [Addr.add_lit, Nat.add_zero]
            exact hc _ _ hj
          · cases hag
        · cases hag
      · cases hag
    · exact ldV_ok h hv hc
  · exact ldV_ok h hv hc
theorem fam_cell {n sz : Nat} {f : Nat → List V} {ys : List Value} (hv : VRs R0 (flat n f) ys) (hl : ∀ k, k < n → (f k).length = sz) {i : Nat} (hi : i < n) : ∃ zs, VRs R0 (f i) zs ∧ zs.length = sz ∧ ∀ j y, zs[j]? = some y → ys[i * sz + j]? = some y := by
  have hb : i * sz + sz ≤ n * sz := by rw [← Nat.succ_mul]; exact Nat.mul_le_mul_right _ hi
  have hfl := flat_length hl
  have e : ((flat n f).drop (i * sz)).take sz = f i := by
    apply List.ext_getElem?
    intro j
    rw [List.getElem?_take]
    split
    · rename_i hj
      rw [List.getElem?_drop]
      exact flat_get hl hi hj
    · rw [List.getElem?_eq_none (by rw [hl i hi]; omega)]
  refine ⟨(ys.drop (i * sz)).take sz, by rw [← e]; exact (hv.drop _).take _, ?_, fun j y hj => ?_⟩
  · rw [List.length_take, List.length_drop, ← hv.length, hfl]; omega
  · rw [List.getElem?_take] at hj
    split at hj
    · rw [List.getElem?_drop] at hj; exact hj
    · cases hj
theorem readU_ok {p : Option Prop} {v : V} (h : readU P H hp ρ o = some (p, v)) (hq : hs p) : RdOk P H hp ρ o v := by
  intro R a w hr hC
  unfold readU at h
  split at h
  · rename_i t x ho
    split at h
    · rename_i id i z off hx
      split at h
      · rename_i T z' n f hg
        split at h
        · rename_i u hb hl
          obtain rfl := Nat.eq_of_beq_eq_true hb
          simp only [Option.some.injEq, Prod.mk.injEq] at h
          obtain ⟨rfl, rfl⟩ := h
          have hq : i < n := hq
          have hv := hr _ _ hx
          generalize hxx : a.eval x = xx at hv
          cases hv with
          | ep _ _ _ hR =>
            obtain ⟨ys, sp, k1, k2, k3, k4, k5, k6, k7, k8⟩ := hC.fam hg hR
            obtain ⟨zs, q1, q2, q3⟩ := fam_cell k1 k3 hq
            obtain ⟨y, hy, hrun⟩ := ldE_ok (R := R) (w := w) hl q1 q2 (b := _) (o' := i * z') fun j y hj => cell_of_heap k7 (q3 j y hj)
            exact ⟨y, hy, by simp [execOp, ho, hxx, hrun]⟩
        · cases h
      · cases h
    · rename_i b o' i z off f hx
      split at h
      · rename_i u hl
        simp only [Option.some.injEq, Prod.mk.injEq] at h
        obtain ⟨rfl, rfl⟩ := h
        have hq : XE H b o' z f i := hq
        have hv := hr _ _ hx
        generalize hxx : a.eval x = xx at hv
        cases hv with
        | xp _ _ _ _ _ _ =>
          obtain ⟨ys, q1, q2, q3⟩ := hq.get
          obtain ⟨y, hy, hrun⟩ := ldE_ok (R := R) (w := w) hl q1 (by rw [← q1.length]; exact hq.1) (b := b) (o' := o' + i * z) fun j y hj => hC.agree.cell (q3 j y hj)
          exact ⟨y, hy, by simp [execOp, ho, hxx, hrun]⟩
      · cases h
    · cases h
  · cases h
/-- Cells of a family are written over. -/
theorem wrFam (hC : Cn H R hp w) {id T sz n : Nat} {f f' : Nat → List V} (hg : hp.get id = some (.fam T sz n f)) {b c : Nat} (hR : R id b (some c)) {pos : Nat} {u : List V} {zs : List Value} (hu : VRs R0 u zs) (h1 : ∀ z ∈ zs, z.oneCell' = true) (hpos : pos + u.length ≤ n * sz) (hlay : layV (flat n f) pos u = flat n f') (hlen : ∀ k, k < n → (f' k).length = sz) :
    ∃ w', (∀ P : Program, (storeCells ⟨b, pos, none⟩ zs).run P w = .ok () w') ∧ Cn H R (hp.put id (some (.fam T sz n f'))) w' ∧ St R nx hp w R nx (hp.put id (some (.fam T sz n f'))) w' := by
  obtain ⟨ys, sp, k1, k2, k3, k4, k5, k6, k7, k8⟩ := hC.fam hg hR
  have l2 := hu.length
  have l1 := k1.length
  have hrun := fun P => run_storeCells_at (P := P) b pos T zs 0 (ys ++ sp).toArray w k7 (by simp only [List.size_toArray, List.length_append]; omega) h1
  have e : (List.take (pos + 0) (ys ++ sp).toArray.toList ++ zs ++ List.drop (pos + 0 + zs.length) (ys ++ sp).toArray.toList) = (ys.take pos ++ zs ++ ys.drop (pos + zs.length)) ++ sp := by
    simp only [Nat.add_zero]
    rw [List.take_append_of_le_length (by omega), List.drop_append_of_le_length (by omega)]
    simp [List.append_assoc]
  rw [e] at hrun
  have hl := layV_ok k1 hu pos
  rw [hlay] at hl
  have hone : ∀ y ∈ ys.take pos ++ zs ++ ys.drop (pos + zs.length), y.oneCell' = true := by
    intro y hy
    simp only [List.mem_append] at hy
    rcases hy with (hy | hy) | hy
    · exact k2 y (List.mem_of_mem_take hy)
    · exact h1 y hy
    · exact k2 y (List.mem_of_mem_drop hy)
  refine ⟨_, hrun, ?_, ?_⟩
  · refine hC.set hg hR (.fam T sz c hlen hl hone ?_ k6) (setRow_heap w b _ _ T (0, 0) k7) fun k hk => setRow_other w b k _ hk
    rw [← k5]
    simp only [List.length_append, List.length_take, List.length_drop]
    omega
  · exact St.set hg hR nx _ (below_setRow _ _ _) fun k hk => setRow_other w b k _ hk
/-- An element is written over. -/
def setF (f : Nat → List V) (i : Nat) (u : List V) : Nat → List V := fun k => match Nat.beq k i with
  | true => u
  | false => f k
theorem setF_upd {f : Nat → List V} {i : Nat} {u : List V} {k : Nat} (h : u.length = (f i).length) : updF f i 0 u k = setF f i u k := by
  by_cases e : k = i
  · subst e
    rw [updF_at]
    unfold setF
    rw [Nat.beq_refl]
    simp [layV, h]
  · rw [updF_ne _ _ _ e]
    unfold setF
    split
    · rename_i hb; exact absurd (Nat.eq_of_beq_eq_true hb) e
    · rfl
def whV : Bool → V → Option (List V)
  | true, .agg l => some l
  | _, _ => none
theorem whV_eq {b : Bool} {v : V} {l : List V} (h : whV b v = some l) : b = true ∧ v = .agg l := by
  unfold whV at h
  split at h
  · simp only [Option.some.injEq] at h; subst h; exact ⟨rfl, rfl⟩
  · cases h
def storeU (P : Program) (ρ : Rho) (nx : Nat) (hp : PT Ob) (t : TypeId) (p x : Operand) : Option (Option Prop × V × Nat × PT Ob) :=
  match ρ p with
  | some (.ep id i z off) => match ρ x with
    | some v => match hp.get id with
      | some (.fam T z' n f) => match sizeV P t with
        | some k => match whV (Nat.beq off 0 && (Nat.beq k z && Nat.beq z' z)) v with
         | some l => some (some (i < n ∧ l.length = z ∧ V.ones l = true ∧ noIds l = true), .lit undef, nx, hp.put id (some (.fam T z n (setF f i l))))
         | none => match Nat.beq z' z && (Nat.beq v.cells.length k && (Nat.ble (Nat.add off v.cells.length) z && (V.ones v.cells && noIds v.cells))) with
          | true => some (some (i < n), .lit undef, nx, hp.put id (some (.fam T z n (updF f i off v.cells))))
          | false => none
        | none => none
      | _ => none
    | none => none
  | _ => none
theorem storeU_ok {t : TypeId} {pp x : Operand} (ho : o.op = .store t pp x) {p : Option Prop} {v : V} {nx' : Nat} {hp' : PT Ob} (h : storeU P ρ nx hp t pp x = some (p, v, nx', hp')) (hq : hs p) : LnOk P H ρ nx hp o v nx' hp' := by
  intro R a w K Q hr hC hnx hk
  unfold storeU at h
  split at h
  · rename_i id i z off hp0
    split at h
    · rename_i u hu
      split at h
      · rename_i T z' n f hg
        split at h
        · rename_i k hk'
          split at h
          · rename_i l hb
            obtain ⟨hb1, rfl⟩ := whV_eq hb
            simp only [Bool.and_eq_true] at hb1
            obtain ⟨b1, b2, b3⟩ := hb1
            obtain rfl := Nat.eq_of_beq_eq_true b1
            obtain rfl := Nat.eq_of_beq_eq_true b2
            obtain rfl := Nat.eq_of_beq_eq_true b3
            simp only [Option.some.injEq, Prod.mk.injEq] at h
            obtain ⟨rfl, rfl, rfl, rfl⟩ := h
            obtain ⟨hi, hll, b4, b5⟩ : _ ∧ _ ∧ _ ∧ _ := hq
            have hv := hr _ _ hp0
            have hx := (hr _ _ hu).cells
            generalize hxx : a.eval pp = xx at hv
            cases hv with
            | @ep _ bb _ _ _ _ hR =>
              have hx0 := noIds_R0 (R' := R0) _ b5 hx
              obtain ⟨ys, sp, k1, k2, k3, k4, k5, k6, k7, k8⟩ := hC.fam hg hR
              obtain ⟨e1, e2⟩ := flat_upd k3 hi (off := 0) (u := l) (by omega)
              have hs : ∀ k, updF f i 0 l k = setF f i l k := fun k => setF_upd (by rw [hll, k3 i hi])
              rw [flat_congr fun j _ => hs j] at e1
              have hb : i * z' + z' ≤ n * z' := by rw [← Nat.succ_mul]; exact Nat.mul_le_mul_right _ hi
              obtain ⟨w', q1, q2, q3⟩ := wrFam (nx := nx) hC hg hR hx0 (hx.ones b4) (show i * z' + 0 + l.length ≤ n * z' by omega) e1 (fun k hk => by rw [← hs k]; exact e2 k hk)
              have hl := hx.length
              simp only [V.cells, Array.length_toList] at hl
              unfold Oper.wp
              have hst : (Instr.storeAt t (.pointer (some ⟨bb, i * z' + 0, none⟩)) (a.eval x)).run P w = .ok () w' := by
                simp only [Instr.storeAt, Instr.sureAddr, storeVar, Sem.run_bind, Sem.run_pure, Result.andThen_ok, run_sizeV hk']
                rw [if_neg (by omega)]
                exact q1 P
              have : (execOp a.eval o).run P w = .ok .skip w' := by simp only [execOp, ho, hxx, Sem.run_bind, hst]; rfl
              rw [this, Oper.upon_skip]
              exact hk R undef w' (.lit _) q2 q3
          · split at h
            · rename_i hb
              simp only [Bool.and_eq_true] at hb
              obtain ⟨b1, b2, b3, b4, b5⟩ := hb
              obtain rfl := Nat.eq_of_beq_eq_true b1
              have b2 := Nat.eq_of_beq_eq_true b2
              have b3 : off + u.cells.length ≤ z' := Nat.le_of_ble_eq_true b3
              simp only [Option.some.injEq, Prod.mk.injEq] at h
              obtain ⟨rfl, rfl, rfl, rfl⟩ := h
              have hi : i < n := hq
              have hv := hr _ _ hp0
              have hx := (hr _ _ hu).cells
              generalize hxx : a.eval pp = xx at hv
              cases hv with
              | @ep _ bb _ _ _ _ hR =>
                have hx0 := noIds_R0 (R' := R0) _ b5 hx
                obtain ⟨ys, sp, k1, k2, k3, k4, k5, k6, k7, k8⟩ := hC.fam hg hR
                obtain ⟨e1, e2⟩ := flat_upd k3 hi b3
                have hb : i * z' + z' ≤ n * z' := by rw [← Nat.succ_mul]; exact Nat.mul_le_mul_right _ hi
                obtain ⟨w', q1, q2, q3⟩ := wrFam (nx := nx) hC hg hR hx0 (hx.ones b4) (show i * z' + off + u.cells.length ≤ n * z' by omega) e1 e2
                have hl := hx.length
                simp only [Array.length_toList] at hl
                unfold Oper.wp
                have hst : (Instr.storeAt t (.pointer (some ⟨bb, i * z' + off, none⟩)) (a.eval x)).run P w = .ok () w' := by
                  simp only [Instr.storeAt, Instr.sureAddr, storeVar, Sem.run_bind, Sem.run_pure, Result.andThen_ok, run_sizeV hk']
                  rw [if_neg (by omega)]
                  exact q1 P
                have : (execOp a.eval o).run P w = .ok .skip w' := by simp only [execOp, ho, hxx, Sem.run_bind, hst]; rfl
                rw [this, Oper.upon_skip]
                exact hk R undef w' (.lit _) q2 q3
            · cases h
        · cases h
      · cases h
    · cases h
  · cases h
theorem ext_cells {b o' z j : Nat} {f : Nat → List V} : ∀ {m : Nat}, (∀ k, k < m → XE H b o' z f (k + j)) → ∃ zs, VRs R0 (flat m fun k => f (k + j)) zs ∧ (∀ y ∈ zs, y.oneCell' = true) ∧ zs.length = m * z ∧ ∀ q y, zs[q]? = some y → H.cell? ⟨b, o' + j * z + q, none⟩ = some y
  | 0, _ => ⟨[], .nil, (fun y h => by cases h), by simp, fun q y h => by simp at h⟩
  | m + 1, h => by
    obtain ⟨zs, h1, h2, h3, h4⟩ := ext_cells (m := m) fun k hk => h k (Nat.lt_succ_of_lt hk)
    have hm := h m (Nat.lt_succ_self m)
    obtain ⟨ys, q1, q2, q3⟩ := hm.get
    have hl := q1.length
    have hl2 := hm.1
    refine ⟨zs ++ ys, by rw [flat_succ]; exact h1.append q1, fun y hy => ?_, by rw [List.length_append, h3, ← hl, hl2, Nat.succ_mul], fun q y hq => ?_⟩
    · rcases List.mem_append.1 hy with hy | hy
      · exact h2 y hy
      · exact q2 y hy
    · rw [List.getElem?_append] at hq
      split at hq
      · exact h4 q y hq
      · have := q3 _ y hq
        rw [show o' + j * z + q = o' + (m + j) * z + (q - zs.length) by rw [Nat.add_mul, h3]; omega]
        exact this
theorem newsU_ok (hC : Cn H R hp w) {sz : Nat} {x : V} {y : Value} (hx : VR R x y) {p : Option Prop} {m : Nat} {g : Nat → List V} (h : newsU H hp sz x = some (p, m, g)) (hq : hs p) :
    ∃ A c zs, y = .slice A m c ∧ VRs R0 (flat m g) zs ∧ (∀ z ∈ zs, z.oneCell' = true) ∧ (∀ k, k < m → (g k).length = sz) ∧ ((A = none ∧ m = 0) ∨ ∃ ad, A = some ad ∧ ∀ j v, zs[j]? = some v → w.cell? (ad.add j) = some v) := by
  have empty : ∀ {A : Option Addr} {c : Nat} {g : Nat → List V}, ∃ A' c' zs, Value.slice A 0 c = .slice A' 0 c' ∧ VRs R0 (flat 0 g) zs ∧ (∀ z ∈ zs, z.oneCell' = true) ∧ (∀ k, k < 0 → (g k).length = sz) ∧ ((A' = none ∧ 0 = 0) ∨ ∃ ad, A' = some ad ∧ ∀ j v, zs[j]? = some v → w.cell? (ad.add j) = some v) := by
    intro A c g
    refine ⟨A, c, [], rfl, .nil, (fun z hz => by cases hz), (fun k hk => by omega), ?_⟩
    cases A with
    | none => exact .inl ⟨rfl, rfl⟩
    | some ad => exact .inr ⟨ad, rfl, fun j v hj => by simp at hj⟩
  unfold newsU at h
  split at h
  · rename_i b o' j z m' c f
    split at h
    · rename_i hb
      obtain rfl := Nat.eq_of_beq_eq_true hb
      simp only [Option.some.injEq, Prod.mk.injEq] at h
      obtain ⟨rfl, rfl, rfl⟩ := h
      have hq : ∀ k, k < m' → XE H b o' z f (k + j) := hq
      cases hx with
      | @xs _ _ _ _ _ _ _ pa hn hpa =>
        rcases Nat.eq_zero_or_pos m' with h0 | h0
        · subst h0; exact empty
        · obtain rfl := hpa (by omega)
          obtain ⟨zs, q1, q2, q3, q4⟩ := ext_cells hq
          refine ⟨_, _, zs, rfl, q1, q2, fun k hk => (hq k hk).1, .inr ⟨_, rfl, fun j' v hj => ?_⟩⟩
          rw [Addr.add_lit]
          exact hC.agree.cell (q4 _ _ hj)
    · cases h
  · rename_i id j z m'
    split at h
    · rename_i T z' n f hg
      split at h
      · rename_i hb1 hb2
        obtain rfl := Nat.eq_of_beq_eq_true hb1
        obtain rfl := Nat.eq_of_beq_eq_true hb2
        simp only [Option.some.injEq, Prod.mk.injEq] at h
        obtain ⟨rfl, rfl, rfl⟩ := h
        have hq : m' + j ≤ n := hq
        cases hx with
        | osl0 _ _ => exact empty
        | @osl _ b c _ _ _ pa hR hn hpa =>
          obtain ⟨ys, sp, k1, k2, k3, k4, k5, k6, k7, k8⟩ := hC.fam hg hR
          rcases Nat.eq_zero_or_pos m' with h0 | h0
          · subst h0; exact empty
          · obtain rfl := hpa (by omega)
            have hfl := flat_length k3
            have hle : j * z' + m' * z' ≤ n * z' := by rw [← Nat.add_mul]; exact Nat.mul_le_mul_right _ (by omega)
            have e : ((flat n f).drop (j * z')).take (m' * z') = flat m' fun k => f (k + j) := by
              refine flat_split (sz := z') (by rw [List.length_take, List.length_drop, hfl]; omega) (fun k hk => k3 _ (by omega)) fun k q hk hq' => ?_
              have hb' : k * z' + q < m' * z' := by
                have := Nat.mul_le_mul_right z' (show k + 1 ≤ m' by omega)
                rw [Nat.succ_mul] at this; omega
              rw [List.getElem?_take, if_pos hb', List.getElem?_drop, ← flat_get k3 (show k + j < n by omega) hq', Nat.add_mul]
              congr 1; omega
            refine ⟨_, _, (ys.drop (j * z')).take (m' * z'), rfl, by show VRs R0 (flat m' fun k => f (k + j)) _; rw [← e]; exact (k1.drop _).take _, fun y hy => k2 y (List.mem_of_mem_drop (List.mem_of_mem_take hy)), fun k hk => k3 _ (show k + j < n by omega), .inr ⟨_, rfl, fun q v hj => ?_⟩⟩
            rw [Addr.add_lit]
            rw [List.getElem?_take] at hj
            split at hj
            · rw [List.getElem?_drop] at hj
              exact cell_of_heap k7 hj
            · cases hj
      · cases h
    · cases h
  · rename_i id off m' c
    split at h
    · split at h
      · rename_i ob hg
        split at h
        · rename_i cs hcs
          split at h
          · rename_i u hcut
            split at h
            · rename_i hno
              simp only [Option.some.injEq, Prod.mk.injEq] at h
              obtain ⟨rfl, rfl, rfl⟩ := h
              cases hx with
              | sl _ _ _ hR =>
                obtain ⟨ys, sp, T, k1, k2, k3, -⟩ := hC.cells hg hcs hR
                obtain ⟨q1, q2⟩ := cut_ok k1 hcut
                refine ⟨_, _, (ys.drop off).take sz, rfl, ?_, fun z hz => k2 z (List.mem_of_mem_drop (List.mem_of_mem_take hz)), fun k _ => q2, .inr ⟨_, rfl, fun j v hj => ?_⟩⟩
                · show VRs R0 ([] ++ u) _
                  exact noIds_R0 _ hno q1
                · rw [Addr.add_lit]
                  rw [List.getElem?_take] at hj
                  split at hj
                  · rw [List.getElem?_drop] at hj
                    exact cell_of_heap k3 hj
                  · cases hj
            · cases h
          · cases h
        · cases h
      · cases h
    · cases h
  · rename_i n c
    have := hx.lit_inv
    subst this
    split at h
    · simp only [Option.some.injEq, Prod.mk.injEq] at h
      obtain ⟨rfl, rfl, rfl⟩ := h
      exact empty
    · cases h
  · cases h
/-- A row of no elements, at no block. -/
theorem addVoid (hC : Cn H R hp w) (hnx : ∀ i b c, R i b c → i < nx) (hd : hp.get nx = none) {T sz : Nat} {f : Nat → List V} : Cn H (addR R nx 0 none) (hp.put nx (some (.fam T sz 0 f))) w ∧ St R nx hp w (addR R nx 0 none) (Nat.succ nx) (hp.put nx (some (.fam T sz 0 f))) w := by
  have hid : ∀ b c, ¬ R nx b c := fun b c h => by have := hnx _ _ _ h; omega
  have gr : ∀ i b c', R i b c' → addR R nx 0 none i b c' := fun _ _ _ h => .inl h
  refine ⟨⟨hC.agree, fun i o' h => ?_, ?_, ?_⟩, ⟨gr, ?_, ?_, by omega, Below.refl _ _, fun _ _ h _ => h⟩⟩
  · rw [PT.get_put] at h
    split at h
    · rename_i e
      simp only [Option.some.injEq] at h
      subst e; subst h
      exact .inl ⟨rfl, 0, .inr ⟨rfl, rfl, rfl⟩⟩
    · rcases hC.all i o' h with ⟨h1, b, h2⟩ | ⟨b, c', x', h1, h2, h3, h4⟩
      · exact .inl ⟨h1, b, .inl h2⟩
      · exact .inr ⟨b, c', x', .inl h1, h2, h3, h4.mono gr⟩
  · rintro i b c1 b' c1' (h | ⟨rfl, rfl, rfl⟩) (h' | ⟨e, rfl, rfl⟩)
    · exact hC.fn _ _ _ _ _ h h'
    · subst e; exact absurd h (hid _ _)
    · exact absurd h' (hid _ _)
    · exact ⟨rfl, rfl⟩
  · intro i i' o1 o2 b c1 c2 h1 h2 h3 h4
    rcases h3 with h3 | ⟨_, _, e⟩
    · rcases h4 with h4 | ⟨_, _, e⟩
      · have n1 : i ≠ nx := fun e => by subst e; exact hid _ _ h3
        have n2 : i' ≠ nx := fun e => by subst e; exact hid _ _ h4
        rw [PT.get_put, if_neg n1] at h1
        rw [PT.get_put, if_neg n2] at h2
        exact hC.inj _ _ _ _ _ _ _ h1 h2 h3 h4
      · cases e
    · cases e
  · rintro i b c' (h | ⟨rfl, rfl, rfl⟩)
    · exact .inl h
    · exact .inr ⟨Nat.le_refl _, Nat.lt_succ_self _, .inl rfl⟩
  · intro i hi hn
    rw [PT.get_put, if_neg (by omega)]
    exact hn
theorem newFam (hC : Cn H R hp w) (hnx : ∀ i b c, R i b c → i < nx) (hd : hp.get nx = none) {e : TypeId} {sz m : Nat} {g : Nat → List V} {zs : List Value} (hu : VRs R0 (flat m g) zs) (hg : ∀ k, k < m → (g k).length = sz) (h1 : ∀ z ∈ zs, z.oneCell' = true) (z : Array Value) (hz : z.size = sz) (cap : Nat) (hge : m ≤ cap) (hcm : cap ≤ maxLen) :
    ∃ R', VR R' (.osl nx 0 sz m) (.slice (some ⟨w.heap.size, 0, none⟩) m cap) ∧ Cn H R' (hp.put nx (some (.fam e sz m g))) (w.drew.alloc (.cells (zs.toArray ++ Builtin.zeroCells z (cap - m)) e)) ∧
      St R nx hp w R' (Nat.succ nx) (hp.put nx (some (.fam e sz m g))) (w.drew.alloc (.cells (zs.toArray ++ Builtin.zeroCells z (cap - m)) e)) := by
  have hfr : ∀ b c, ¬ R nx b c := fun b c h => by have := hnx _ _ _ h; omega
  have hl : zs.length = m * sz := by rw [← hu.length, flat_length hg]
  have hob : ObR R (.fam e sz m g) cap (.cells (zs ++ (Builtin.zeroCells z (cap - m)).toList).toArray e (0, 0)) := by
    refine .fam e sz cap hg hu h1 ?_ hcm
    have hzl : (Builtin.zeroCells z (cap - m)).toList.length = (cap - m) * sz := by
      rw [← hz, ← size_zeroCells z (cap - m)]
      exact Array.length_toList
    rw [List.length_append, hzl, hl, ← Nat.add_mul]
    congr 1
    omega
  have he : (zs ++ (Builtin.zeroCells z (cap - m)).toList).toArray = zs.toArray ++ Builtin.zeroCells z (cap - m) := by
    apply Array.ext'
    simp
  rw [he] at hob
  refine ⟨addR R nx w.drew.heap.size (some cap), ?_, hC.drew.new hfr hd cap hob, (St.drew R nx hp w).trans (St.new R hp w.drew _ _ cap (Nat.succ nx) (Nat.le_refl _) (Nat.lt_succ_self _)) hnx⟩
  have : VR (addR R nx w.drew.heap.size (some cap)) (.osl nx 0 sz m) (.slice (some ⟨w.drew.heap.size, 0 * sz, none⟩) m (cap - 0)) := .osl 0 sz m (.inr ⟨rfl, rfl, rfl⟩) (by omega) (fun _ => rfl)
  simpa using this
/-- Onto a slice that has no room at all. -/
theorem appEmpty (hC : Cn H R hp w) (hnx : ∀ i b c, R i b c → i < nx) (hd : hp.get nx = none) {t e : TypeId} {i : TypeInfo} {z : Value} {q : Nat} (hu : P.underlying t = some (.slice e)) (hi : P.info? e = some i) (hz : i.zero = some z) (hsz : i.size = q + 1) (hzl : z.cells.size = q + 1)
    {A : Option Addr} {m c2 : Nat} {g : Nat → List V} {zs : List Value} (z1 : VRs R0 (flat m g) zs) (z2 : ∀ z ∈ zs, z.oneCell' = true) (z3 : ∀ k, k < m → (g k).length = q + 1) (z4 : (A = none ∧ m = 0) ∨ ∃ ad, A = some ad ∧ ∀ j v, zs[j]? = some v → w.cell? (ad.add j) = some v)
    (hb1 : m * i.bytes ≤ 140737488355328) (hb2 : m ≤ 140737488355328) (p : Option Addr) (ty : TypeId) :
    ∃ R' y w', (Builtin.append_ #[t, t] ty #[.slice p 0 0, .slice A m c2]).run P w = .ok y w' ∧ VR R' (.osl nx 0 (q + 1) m) y ∧ Cn H R' (hp.put nx (some (.fam e (q + 1) m g))) w' ∧ St R nx hp w R' (Nat.succ nx) (hp.put nx (some (.fam e (q + 1) m g))) w' := by
  rcases Nat.eq_zero_or_pos m with h0 | h0
  · subst h0
    obtain ⟨r1, r2⟩ := addVoid (T := e) (sz := q + 1) (f := g) hC hnx hd
    refine ⟨_, .slice p 0 0, w, ?_, .osl0 _ (.inr ⟨rfl, rfl, rfl⟩), r1, r2⟩
    rcases z4 with ⟨rfl, _⟩ | ⟨ad, rfl, _⟩
    · exact run_append_zero hu hi ty (Nat.le_refl _) w
    · exact run_append_zero_at hu hi ty (Nat.le_refl _) w
  · obtain ⟨_, h⟩ | ⟨ad, rfl, hcell⟩ := z4
    · omega
    have hl : zs.length = m * i.size := by rw [← z1.length, flat_length z3, hsz]
    cases p with
    | none =>
      have hge : m ≤ grownCap w m 0 e := grownCap_ge w m 0 e
      have hcm := grownCap_le_maxLen w m 0 e (le_maxLen hb2)
      obtain ⟨R', r1, r2, r3⟩ := newFam hC hnx hd (e := e) z1 z3 z2 z.cells hzl _ hge hcm
      exact ⟨R', _, _, run_append_nil (P := P) (w := w) t ty e i z hu hi hz ad m c2 zs hl hcell h0 (by omega) (by omega), r1, r2, r3⟩
    | some b0 =>
      have hge : 0 + m ≤ grownCap w (0 + m) 0 e := grownCap_ge w (0 + m) 0 e
      have hcm := grownCap_le_maxLen w (0 + m) 0 e (le_maxLen (by omega))
      rw [Nat.zero_add] at hge hcm
      obtain ⟨R', r1, r2, r3⟩ := newFam hC hnx hd (e := e) z1 z3 z2 z.cells hzl _ hge hcm
      have hrun := run_append_grow (P := P) w t ty e i z hu hi hz b0 0 0 [] (by simp) (fun j v hj => by simp at hj) ad m c2 zs hl hcell (by omega) (by omega) (growslice_fits (by omega) (by rw [Nat.zero_add]; exact hb1))
      simp only [Nat.zero_add] at hrun
      refine ⟨R', _, _, hrun, r1, ?_, ?_⟩
      · simpa using r2
      · simpa using r3
theorem Cn.drop1 {R : Rel} {hp : PT Ob} {id nx : Nat} {x : Option Ob} (h : Cn H R (hp.put nx x) w) (hne : id ≠ nx) : Cn H R ((hp.put id none).put nx x) w := by
  refine h.less fun k o hk => ?_
  rw [PT.get_put] at hk ⊢
  split at hk
  · rename_i e; rw [if_pos e]; exact hk
  · rename_i e
    rw [if_neg e]
    rw [PT.get_put] at hk
    split at hk
    · cases hk
    · exact hk
theorem St.drop1 {R R' : Rel} {hp : PT Ob} {id nx nx' : Nat} {w w' : World} {x : Option Ob} (h : St R nx hp w R' nx' (hp.put nx x) w') : St R nx hp w R' nx' ((hp.put id none).put nx x) w' := by
  refine h.fewer fun k o hk => ?_
  rw [PT.get_put] at hk ⊢
  split at hk
  · rename_i e; rw [if_pos e]; exact hk
  · rename_i e
    rw [if_neg e]
    rw [PT.get_put] at hk
    split at hk
    · cases hk
    · exact hk
theorem appU_ok (hC : Cn H R hp w) (hnx : ∀ i b c, R i b c → i < nx) (hd : hp.get nx = none) {t : TypeId} {s x : V} {ys yx : Value} (hs' : VR R s ys) (hx : VR R x yx) {p : Option Prop} {v : V} {nx' : Nat} {hp' : PT Ob} (h : appU P H nx hp t s x = some (p, v, nx', hp')) (hq : hs p) (ty : TypeId) :
    ∃ R' y w', (Builtin.append_ #[t, t] ty #[ys, yx]).run P w = .ok y w' ∧ VR R' v y ∧ Cn H R' hp' w' ∧ St R nx hp w R' nx' hp' w' := by
  unfold appU at h
  split at h
  · rename_i e hu
    split at h
    · rename_i i hi
      split at h
      · rename_i z hz
        split at h
        · rename_i q p0 m g hzl hsz hnews
          have hzl := Nat.eq_of_beq_eq_true hzl
          simp only [Array.length_toList] at hzl
          have hzl' : z.cells.size = q + 1 := by omega
          split at h
          -- an open row
          · rename_i id j zz n
            split at h
            · rename_i T z' N f hzz hg
              split at h
              · rename_i hb1 hb2
                obtain rfl := Nat.eq_of_beq_eq_true hzz
                obtain rfl := Nat.eq_of_beq_eq_true hb1
                obtain rfl := Nat.eq_of_beq_eq_true hb2
                simp only [Option.some.injEq, Prod.mk.injEq] at h
                obtain ⟨rfl, rfl, rfl, rfl⟩ := h
                obtain ⟨hq0, rfl, h1, h2⟩ := wh_spec hq
                have h1 : (n + m) * i.bytes ≤ 140737488355328 := h1
                have h2 : n + m ≤ 140737488355328 := h2
                obtain ⟨A, c2, zs, rfl, z1, z2, z3, z4⟩ := newsU_ok hC hx hnews hq0
                rw [hsz] at z3
                have hne : id ≠ nx := fun e => by subst e; rw [hd] at hg; cases hg
                have empty : n = 0 → ∀ pa, ys = .slice pa 0 0 → ∃ R' y w', (Builtin.append_ #[t, t] ty #[ys, .slice A m c2]).run P w = .ok y w' ∧ VR R' (.osl nx 0 (q + 1) (n + m)) y ∧ Cn H R' ((hp.put id none).put nx (some (.fam T (q + 1) (n + m) (appF n f g)))) w' ∧ St R nx hp w R' (Nat.succ nx) ((hp.put id none).put nx (some (.fam T (q + 1) (n + m) (appF n f g)))) w' := by
                  intro h0 pa hy
                  subst h0; subst hy
                  have e1 : flat m (appF 0 f g) = flat m g := flat_congr fun k hk => by rw [appF_eq, if_neg (by omega)]; rfl
                  obtain ⟨R', y, w', r1, r2, r3, r4⟩ := appEmpty (g := appF 0 f g) (c2 := c2) hC hnx hd hu hi hz hsz hzl' (by rw [e1]; exact z1) z2 (fun k hk => by rw [appF_eq, if_neg (by omega)]; exact z3 _ hk) z4 (by rw [Nat.zero_add] at h1; exact h1) (by rw [Nat.zero_add] at h2; exact h2) pa ty
                  rw [Nat.zero_add]
                  exact ⟨R', y, w', r1, r2, r3.drop1 hne, r4.drop1⟩
                cases hs' with
                | osl0 _ _ => exact empty rfl _ rfl
                | @osl _ b cc _ _ _ pa hR hn hpa =>
                  rcases Nat.eq_zero_or_pos cc with hcc | hcc
                  · subst hcc
                    obtain rfl : n = 0 := by omega
                    exact empty rfl _ rfl
                  obtain rfl := hpa hcc
                  obtain ⟨ys0, sp, k1, k2, k3, k4, k5, k6, k7, k8⟩ := hC.fam hg hR
                  have hfr : ∀ b c, ¬ R nx b c := fun b c h => by have := hnx _ _ _ h; omega
                  have hflat : flat (n + m) (appF n f g) = flat n f ++ flat m g := flat_app
                  have hlens : ∀ k, k < n + m → (appF n f g k).length = q + 1 := by
                    intro k hk
                    rw [appF_eq]
                    split
                    · exact k3 _ ‹_›
                    · exact z3 _ (by omega)
                  have hl : zs.length = m * (q + 1) := by rw [← z1.length, flat_length z3]
                  rcases Nat.eq_zero_or_pos m with h0 | h0
                  · subst h0
                    have hob : ObR R (.fam T (q + 1) (n + 0) (appF n f g)) cc (.cells (ys0 ++ sp).toArray T (0, 0)) := by
                      refine .fam T (q + 1) cc hlens ?_ k2 k5 k6
                      rw [hflat, flat_zero, List.append_nil]; exact k1
                    have hsw := hC.swap (w' := w) hfr hob k7 k8 hC.agree fun i' o b2 c2' hne' hgi hRi => ⟨fun e => by subst e; exact hne' (hC.inj _ _ _ _ _ _ _ hgi hg hRi hR), rfl⟩
                    refine ⟨addR R nx b (some cc), .slice (some ⟨b, 0 * (q + 1), none⟩) n (cc - 0), w, ?_, .osl 0 (q + 1) (n + 0) (.inr ⟨rfl, rfl, rfl⟩) hn (fun _ => rfl), hsw, ?_⟩
                    · rcases z4 with ⟨rfl, _⟩ | ⟨ad, rfl, _⟩
                      · exact run_append_zero hu hi ty (by omega) w
                      · exact run_append_zero_at hu hi ty (by omega) w
                    · refine ⟨fun _ _ _ h => .inl h, ?_, ?_, by omega, Below.refl _ _, fun _ _ h _ => h⟩
                      · rintro i' b2 c3 (h | ⟨rfl, rfl, rfl⟩)
                        · exact .inl h
                        · exact .inr ⟨Nat.le_refl _, Nat.lt_succ_self _, .inr (.inr ⟨id, cc, _, hR, hg⟩)⟩
                      · intro i' hi' hn'
                        rw [PT.get_put, if_neg (by omega), PT.get_put]
                        split
                        · rfl
                        · exact hn'
                  · obtain ⟨_, h⟩ | ⟨ad, rfl, hcell⟩ := z4
                    · omega
                    have hown : w.ownsRow 0 T (q + 1) (.slice (some ⟨b, 0, none⟩) n cc) n ys0 := by
                      refine ⟨k4, .inr ⟨b, cc, _, rfl, Nat.zero_le _, k7, by omega, k6, by simpa using k5, ?_⟩⟩
                      simp only
                      rw [← k4]
                      simp
                    obtain ⟨v', w', p1, p2, p3, p4, p5⟩ := run_append_own_at (P := P) w 0 t ty T i z (q + 1) i.bytes hu hi hz hsz rfl hzl' (Nat.succ_pos _) _ n ys0 hown ad m c2 zs hl hcell z2 (le_maxLen h2) h1 (Nat.zero_le _)
                    rcases p2.2 with ⟨e1, e2⟩ | ⟨g', cap, cur, e1, _, e3, e4, e5, e6, e7⟩
                    · omega
                    · subst e1
                      simp only [Value.ownBlock, Option.some.injEq] at p5
                      have hcur : cur = (ys0 ++ zs ++ cur.toList.drop ((n + m) * (q + 1))).toArray := by
                        apply Array.ext'
                        rw [← e7]
                        simp
                      rw [hcur] at e3
                      have hob : ObR R (.fam T (q + 1) (n + m) (appF n f g)) cap (.cells (ys0 ++ zs ++ cur.toList.drop ((n + m) * (q + 1))).toArray T (0, 0)) := by
                        refine .fam T (q + 1) cap hlens (by rw [hflat]; exact k1.append z1) ?_ ?_ e5
                        · intro y hy
                          rcases List.mem_append.1 hy with hy | hy
                          · exact k2 y hy
                          · exact z2 y hy
                        · have hl2 : (ys0 ++ zs).length = (n + m) * (q + 1) := p2.1
                          have hle : (n + m) * (q + 1) ≤ cap * (q + 1) := Nat.mul_le_mul_right _ e4
                          rw [List.length_append, hl2, List.length_drop, Array.length_toList, e6]
                          omega
                      have hgH : H g' = none := by
                        rcases p5 with p5 | p5
                        · rw [p5]; exact k8
                        · rw [p5]; exact hC.agree.new (Nat.le_refl _)
                      have hold : ∀ i' o' b2 c2, i' ≠ id → hp.get i' = some o' → R i' b2 (some c2) → b2 ≠ b := by
                        intro i' o' b2 c2 hne hgi hRi e
                        subst e
                        exact hne (hC.inj _ _ _ _ _ _ _ hgi hg hRi hR)
                      refine ⟨addR R nx g' (some cap), .slice (some ⟨g', 0, none⟩) (n + m) cap, w', by simpa using p1, ?_, hC.swap hfr hob e3 hgH (hC.agree.put fun b2 o2 h2 => ?_) ?_, ?_⟩
                      · have : VR (addR R nx g' (some cap)) (.osl nx 0 (q + 1) (n + m)) (.slice (some ⟨g', 0 * (q + 1), none⟩) (n + m) (cap - 0)) := .osl 0 (q + 1) (n + m) (.inr ⟨rfl, rfl, rfl⟩) (by omega) (fun _ => rfl)
                        simpa using this
                      · exact p3.block b2 (lt_of_some (hC.agree _ _ h2)) (fun e => by simp only [Value.ownBlock, Option.some.injEq] at e; subst e; rw [k8] at h2; cases h2)
                      · intro i' o' b2 c3 hne hgi hRi
                        have hb2 := hold i' o' b2 c3 hne hgi hRi
                        have hlt := hC.lt hgi hRi
                        refine ⟨fun e => ?_, p3.block b2 hlt (fun e => by simp only [Value.ownBlock, Option.some.injEq] at e; exact hb2 e)⟩
                        rcases p5 with p5 | p5
                        · exact hb2 (e.trans p5)
                        · omega
                      · refine ⟨fun _ _ _ h => .inl h, ?_, ?_, by omega, ⟨p3.os, p3.tape, p3.output, p3.size, fun k hk => by omega⟩, ?_⟩
                        · rintro i' b2 c3 (h | ⟨rfl, rfl, rfl⟩)
                          · exact .inl h
                          · refine .inr ⟨Nat.le_refl _, Nat.lt_succ_self _, ?_⟩
                            rcases p5 with p5 | p5
                            · exact .inr (.inr ⟨id, cc, _, by rw [p5]; exact hR, hg⟩)
                            · exact .inr (.inl (by omega))
                        · intro i' hi' hn'
                          rw [PT.get_put, if_neg (by omega), PT.get_put]
                          split
                          · rfl
                          · exact hn'
                        · intro k2' o2 hk2 hdead
                          rw [p3.block k2' (lt_of_some hk2) (fun e => by
                            simp only [Value.ownBlock, Option.some.injEq] at e
                            subst e
                            have := hdead id cc hR
                            rw [hg] at this; cases this)]
                          exact hk2
              · cases h
            · cases h
          -- nil
          · rename_i n c
            have := hs'.lit_inv
            subst this
            split at h
            · simp only [Option.some.injEq, Prod.mk.injEq] at h
              obtain ⟨rfl, rfl, rfl, rfl⟩ := h
              obtain ⟨hq0, h1, h2⟩ := wh_spec hq
              obtain ⟨A, c2, zs, rfl, z1, z2, z3, z4⟩ := newsU_ok hC hx hnews hq0
              rw [hsz] at z3
              exact appEmpty hC hnx hd hu hi hz hsz hzl' z1 z2 z3 z4 h1 h2 none ty
            · cases h
          -- a literal of nothing
          · rename_i n c
            split at h
            · simp only [Option.some.injEq, Prod.mk.injEq] at h
              obtain ⟨rfl, rfl, rfl, rfl⟩ := h
              obtain ⟨hq0, h1, h2⟩ := wh_spec hq
              obtain ⟨A, c2, zs, rfl, z1, z2, z3, z4⟩ := newsU_ok hC hx hnews hq0
              rw [hsz] at z3
              cases hs' with
              | sl _ _ _ hR => exact appEmpty hC hnx hd hu hi hz hsz hzl' z1 z2 z3 z4 h1 h2 _ ty
            · cases h
          -- what lies outside
          · rename_i b o' j zz n c f
            split at h
            · rename_i hzz
              obtain rfl := Nat.eq_of_beq_eq_true hzz
              simp only [Option.some.injEq, Prod.mk.injEq] at h
              obtain ⟨rfl, rfl, rfl, rfl⟩ := h
              obtain ⟨hq0, hx1, hx2, h1, h2⟩ := wh_spec hq
              have hx2 : c < n + m := hx2
              have h1 : (n + m) * i.bytes ≤ 140737488355328 := h1
              have h2 : n + m ≤ 140737488355328 := h2
              obtain ⟨A, c2, zs, rfl, z1, z2, z3, z4⟩ := newsU_ok hC hx hnews hq0
              rw [hsz] at z3
              have hl : zs.length = m * (q + 1) := by rw [← z1.length, flat_length z3]
              cases hs' with
              | @xs _ _ _ _ _ _ _ pa hn hpa =>
                obtain ⟨_, h⟩ | ⟨ad, rfl, hcell⟩ := z4
                · omega
                obtain ⟨olds, q1, q2, q3, q4⟩ := ext_cells hx1
                have hflat : flat (n + m) (appF n (fun k => f (k + j)) g) = flat n (fun k => f (k + j)) ++ flat m g := flat_app
                have hlens : ∀ k, k < n + m → (appF n (fun k => f (k + j)) g k).length = q + 1 := by
                  intro k hk
                  rw [appF_eq]
                  split
                  · exact (hx1 _ ‹_›).1
                  · exact z3 _ (by omega)
                rcases Nat.eq_zero_or_pos c with hc0 | hc0
                · subst hc0
                  obtain rfl : n = 0 := by omega
                  have e1 : flat m (appF 0 (fun k => f (k + j)) g) = flat m g := flat_congr fun k hk => by rw [appF_eq, if_neg (by omega)]; rfl
                  obtain ⟨R', y, w', r1, r2, r3, r4⟩ := appEmpty (g := appF 0 (fun k => f (k + j)) g) (c2 := c2) hC hnx hd hu hi hz hsz hzl' (by rw [e1]; exact z1) z2 (fun k hk => by rw [appF_eq, if_neg (by omega)]; exact z3 _ hk) (.inr ⟨ad, rfl, hcell⟩) (by rw [Nat.zero_add] at h1; exact h1) (by rw [Nat.zero_add] at h2; exact h2) pa ty
                  simp only [show Nat.add 0 m = m from Nat.zero_add m]
                  exact ⟨R', y, w', r1, r2, r3, r4⟩
                · obtain rfl := hpa (by omega)
                  have hge := grownCap_ge w (n + m) c e
                  have hcm := grownCap_le_maxLen w (n + m) c e (le_maxLen h2)
                  have holds : ∀ j' v, olds[j']? = some v → w.cell? ((⟨b, o' + j * (q + 1), none⟩ : Addr).add j') = some v := fun j' v hj => by
                    rw [Addr.add_lit]
                    exact hC.agree.cell (q4 _ _ hj)
                  obtain ⟨R', r1, r2, r3⟩ := newFam (nx := nx) (e := e) (sz := q + 1) (m := n + m) (g := appF n (fun k => f (k + j)) g) (zs := olds ++ zs) hC hnx hd (by rw [hflat]; exact q1.append z1) hlens (fun y hy => by
                    rcases List.mem_append.1 hy with hy | hy
                    · exact q2 y hy
                    · exact z2 y hy) z.cells hzl' _ hge hcm
                  refine ⟨R', _, _, run_append_grow (P := P) w t ty e i z hu hi hz _ n c olds (by rw [q3, hsz]) holds ad m c2 zs (by rw [hsz]; exact hl) hcell (by omega) (by omega) (growslice_fits (by omega) h1), r1, ?_, ?_⟩
                  · simpa using r2
                  · simpa using r3
            · cases h
          · cases h
        · cases h
      · cases h
    · cases h
  · cases h
end
end Go.Vm
