/- Operations that write: stores, append, copy. -/
import Derived.Test.YtdghfmbbohlcgaaGreatDoorVmD
set_option linter.unusedVariables false
set_option linter.unusedSimpArgs false
namespace Go.Vm
open Go.RowKit

section
variable {P : Program} {H : View} {R : Rel} {nx : Nat} {hp : PT Ob} {w : World} {ρ : Rho} {a : Act} {o : Oper}
theorem below_setRow (w : World) (b : Nat) (cs : Array Value) : Below 0 w (w.setRow b cs) := ⟨rfl, rfl, rfl, by simp [World.setRow], fun k hk => by omega⟩
theorem Cn.drew (hC : Cn H R hp w) : Cn H R hp w.drew := ⟨fun b o h => hC.agree b o h, fun id o h => hC.all id o h, hC.fn, hC.inj⟩
theorem St.drew (R : Rel) (nx : Nat) (hp : PT Ob) (w : World) : St R nx hp w R nx hp w.drew := ⟨fun _ _ _ h => h, fun _ _ _ h => .inl h, fun _ _ h => h, Nat.le_refl _, (Below.refl _ _).drew, fun _ _ h _ => h⟩
/-- Cells are written. -/
theorem wr_ok (hC : Cn H R hp w) {id : Nat} {ob : Ob} {cs : List V} (hg : hp.get id = some ob) (hcs : ob.cs = some cs) {b c : Nat} (hr : R id b (some c)) {off : Nat} {u : List V} {zs : List Value} (hu : VRs R u zs) (h1 : ∀ z ∈ zs, z.oneCell' = true) (hl : off + u.length ≤ cs.length) :
    ∃ w', (∀ P : Program, (storeCells ⟨b, off, none⟩ zs).run P w = .ok () w') ∧ Cn H R (hp.put id (some (ob.with (layV cs off u)))) w' ∧ St R nx hp w R nx (hp.put id (some (ob.with (layV cs off u)))) w' := by
  obtain ⟨ys, sp, T, k1, k2, k3, k4⟩ := hC.cells hg hcs hr
  have l1 := k1.length
  have l2 := hu.length
  have hrun := fun P => run_storeCells_at (P := P) b off T zs 0 (ys ++ sp).toArray w k3 (by simp only [List.size_toArray, List.length_append]; omega) h1
  have e : (List.take (off + 0) (ys ++ sp).toArray.toList ++ zs ++ List.drop (off + 0 + zs.length) (ys ++ sp).toArray.toList) = (ys.take off ++ zs ++ ys.drop (off + zs.length)) ++ sp := by
    simp only [Nat.add_zero]
    rw [List.take_append_of_le_length (by omega), List.drop_append_of_le_length (by omega)]
    simp [List.append_assoc]
  rw [e] at hrun
  have hlay := layV_ok k1 hu off
  have hone : ∀ y ∈ ys.take off ++ zs ++ ys.drop (off + zs.length), y.oneCell' = true := by
    intro y hy
    simp only [List.mem_append] at hy
    rcases hy with (hy | hy) | hy
    · exact k2 y (List.mem_of_mem_take hy)
    · exact h1 y hy
    · exact k2 y (List.mem_of_mem_drop hy)
  have hlen : (layV cs off u).length = cs.length := by
    simp only [layV, List.length_append, List.length_take, List.length_drop]
    omega
  refine ⟨_, hrun, ?_, ?_⟩
  · exact hC.set hg hr (k4.write hcs l1 hlay hone hlen) (setRow_heap w b _ _ T (0, 0) k3) fun k hk => setRow_other w b k _ hk
  · exact St.set hg hr nx _ (below_setRow _ _ _) fun k hk => setRow_other w b k _ hk
def storeV (P : Program) (ρ : Rho) (nx : Nat) (hp : PT Ob) (t : TypeId) (p x : Operand) : Option (V × Nat × PT Ob) :=
  match ρ p with
  | some (.ptr id off) => match ρ x with
    | some v => match hp.get id with
      | some ob => match ob.cs with
        | some cs => match sizeV P t with
          | some n => match Nat.beq v.cells.length n, Nat.ble (Nat.add off v.cells.length) cs.length, V.ones v.cells with
            | true, true, true => some (.lit undef, nx, hp.put id (some (ob.with (layV cs off v.cells))))
            | _, _, _ => none
          | none => none
        | none => none
      | none => none
    | none => none
  | _ => none
theorem storeV_ok (hr : RhoR R ρ a) (hC : Cn H R hp w) {t : TypeId} {p x : Operand} {v : V} {nx' : Nat} {hp' : PT Ob} (h : storeV P ρ nx hp t p x = some (v, nx', hp')) :
    v = .lit undef ∧ ∃ w', (Instr.storeAt t (a.eval p) (a.eval x)).run P w = .ok () w' ∧ Cn H R hp' w' ∧ St R nx hp w R nx' hp' w' := by
  unfold storeV at h
  split at h
  · rename_i id off hp0
    split at h
    · rename_i u hu
      split at h
      · rename_i ob hg
        split at h
        · rename_i cs hcs
          split at h
          · rename_i n hn
            split at h
            · rename_i b1 b2 b3
              simp only [Option.some.injEq, Prod.mk.injEq] at h
              obtain ⟨rfl, rfl, rfl⟩ := h
              have b1 := Nat.eq_of_beq_eq_true b1
              have b2 := Nat.le_of_ble_eq_true b2
              have hv := hr _ _ hp0
              have hx := (hr _ _ hu).cells
              generalize a.eval p = pp at hv
              cases hv with
              | ptr _ hR =>
                obtain ⟨w', q1, q2, q3⟩ := wr_ok (nx := nx) hC hg hcs hR hx (hx.ones b3) b2
                refine ⟨rfl, w', ?_, q2, q3⟩
                have hl := hx.length
                simp only [Array.length_toList] at hl
                simp only [Instr.storeAt, Instr.sureAddr, storeVar, Sem.run_bind, Sem.run_pure, Result.andThen_ok, run_sizeV hn]
                rw [if_neg (by omega)]
                exact q1 P
            · cases h
          · cases h
        · cases h
      · cases h
    · cases h
  · cases h

/-! ### what is appended -/
def newsV (H : View) (hp : PT Ob) (sz : Nat) : V → Option (Nat × List V)
  | .sl id off n c => match hp.get id with
    | some ob => match ob.cs with
      | some cs => match cut cs off (Nat.mul n sz) with
        | some u => some (n, u)
        | none => none
      | none => none
    | none => none
  | .osl id i z n => match hp.get id with
    | some ob => match ob.cs with
      | some cs => match cut cs (Nat.mul i z) (Nat.mul n sz) with
        | some u => some (n, u)
        | none => none
      | none => none
    | none => none
  | .lit (.slice none n c) => match n with
    | 0 => some (0, [])
    | _ + 1 => none
  | .lit (.slice (some ad) n c) => match extN H ad 0 (Nat.mul n sz) with
    | some l => match V.ones (l.map .lit) with
      | true => some (n, l.map .lit)
      | false => none
    | none => none
  | _ => none
theorem newsV_ok (hC : Cn H R hp w) {sz : Nat} {x : V} {y : Value} (hx : VR R x y) {m : Nat} {u : List V} (h : newsV H hp sz x = some (m, u)) :
    ∃ A c zs, y = .slice A m c ∧ VRs R u zs ∧ (∀ z ∈ zs, z.oneCell' = true) ∧ zs.length = m * sz ∧ ((A = none ∧ m = 0) ∨ ∃ ad, A = some ad ∧ ∀ j v, zs[j]? = some v → w.cell? (ad.add j) = some v) := by
  have obj : ∀ {id off n : Nat} {ob : Ob} {cs : List V} {u : List V} {b c : Nat}, hp.get id = some ob → ob.cs = some cs → R id b (some c) → cut cs off (n * sz) = some u → ∃ zs, VRs R u zs ∧ (∀ z ∈ zs, z.oneCell' = true) ∧ zs.length = n * sz ∧ ∀ j v, zs[j]? = some v → w.cell? ((⟨b, off, none⟩ : Addr).add j) = some v := by
    intro id off n ob cs u b c hg hcs hR hc
    obtain ⟨ys, sp, T, k1, k2, k3, -⟩ := hC.cells hg hcs hR
    obtain ⟨q1, q2⟩ := cut_ok k1 hc
    refine ⟨_, q1, fun z hz => k2 z (List.mem_of_mem_drop (List.mem_of_mem_take hz)), by have := q1.length; omega, fun j v hj => ?_⟩
    rw [Addr.add_lit]
    rw [List.getElem?_take] at hj
    split at hj
    · rw [List.getElem?_drop] at hj
      exact cell_of_heap k3 hj
    · cases hj
  unfold newsV at h
  split at h
  · rename_i id off n c
    split at h
    · rename_i ob hg
      split at h
      · rename_i cs hcs
        split at h
        · rename_i u' hcut
          simp only [Option.some.injEq, Prod.mk.injEq] at h
          obtain ⟨rfl, rfl⟩ := h
          cases hx with
          | sl _ _ _ hR =>
            obtain ⟨zs, z1, z2, z3, z4⟩ := obj hg hcs hR hcut
            exact ⟨_, _, zs, rfl, z1, z2, z3, .inr ⟨_, rfl, z4⟩⟩
        · cases h
      · cases h
    · cases h
  · rename_i id i z n
    split at h
    · rename_i ob hg
      split at h
      · rename_i cs hcs
        split at h
        · rename_i u' hcut
          simp only [Option.some.injEq, Prod.mk.injEq] at h
          obtain ⟨rfl, rfl⟩ := h
          cases hx with
          | osl0 _ hR => exact (hC.notVoid hg (Ob.cs_void hcs) hR).elim
          | @osl _ b c _ _ _ p hR hn hp =>
            obtain ⟨zs, z1, z2, z3, z4⟩ := obj hg hcs hR hcut
            by_cases hic : i < c
            · obtain rfl := hp hic
              exact ⟨_, _, zs, rfl, z1, z2, z3, .inr ⟨_, rfl, z4⟩⟩
            · have h0 : n = 0 := by omega
              refine ⟨p, _, zs, rfl, z1, z2, z3, ?_⟩
              cases p with
              | none => exact .inl ⟨rfl, h0⟩
              | some ad =>
                refine .inr ⟨ad, rfl, fun j v hj => ?_⟩
                rw [List.eq_nil_of_length_eq_zero (show zs.length = 0 by rw [z3, h0]; simp)] at hj
                simp at hj
        · cases h
      · cases h
    · cases h
  · rename_i n c
    have := hx.lit_inv
    split at h
    · simp only [Option.some.injEq, Prod.mk.injEq] at h
      obtain ⟨rfl, rfl⟩ := h
      exact ⟨_, _, [], this, .nil, fun z hz => (by cases hz), by simp, .inl ⟨rfl, rfl⟩⟩
    · cases h
  · rename_i ad n c
    have := hx.lit_inv
    split at h
    · rename_i l hl
      split at h
      · rename_i hone
        simp only [Option.some.injEq, Prod.mk.injEq] at h
        obtain ⟨rfl, rfl⟩ := h
        obtain ⟨q1, q2⟩ := extN_ok hl
        refine ⟨_, _, l, this, VRs.lits l, (VRs.lits (R := R) l).ones hone, q1, .inr ⟨_, rfl, fun j v hj => ?_⟩⟩
        have := q2 j v hj
        rw [Nat.zero_add] at this
        exact hC.agree.cell this
      · cases h
    · cases h
  · cases h

/-! ### append -/
structure ElT (P : Program) (t e : TypeId) (i : TypeInfo) (z : Value) : Prop where
  und : P.underlying t = some (.slice e)
  info : P.info? e = some i
  zero : i.zero = some z
  zs : z.cells.size = i.size
  pos : 0 < i.size
def appV (P : Program) (H : View) (nx : Nat) (hp : PT Ob) (t : TypeId) (s x : V) : Option (V × Nat × PT Ob) :=
  match P.underlying t with
  | some (.slice e) => match P.info? e with
    | some i => match i.zero with
      | some z => match Nat.beq z.cells.toList.length i.size, i.size, newsV H hp i.size x with
        | true, q + 1, some (m, u) => match s with
          | .lit (.slice none n c) => match n, c with
            | 0, 0 => match m with
              | 0 => some (s, nx, hp)
              | m' + 1 => match Nat.ble (Nat.mul m i.bytes) 140737488355328 && Nat.ble m 140737488355328 with
                | true => some (.osl nx 0 (q + 1) m, Nat.succ nx, hp.put nx (some (.row e (q + 1) u)))
                | false => none
            | _, _ => none
          | .sl id off n c => match Nat.ble (Nat.mul (Nat.add n m) i.bytes) 140737488355328 && Nat.ble (Nat.add n m) 140737488355328 with
            | true => match hp.get id with
              | some ob => match ob.cs with
                | some cs => match Nat.ble (Nat.add n m) c with
                  | true => match Nat.ble (Nat.add (Nat.add off (Nat.mul n (q + 1))) u.length) cs.length with
                    | true => some (.sl id off (Nat.add n m) c, nx, hp.put id (some (ob.with (layV cs (Nat.add off (Nat.mul n (q + 1))) u))))
                    | false => none
                  | false => match cut cs off (Nat.mul n (q + 1)), Nat.ble 1 m with
                    | some olds, true => some (.osl nx 0 (q + 1) (Nat.add n m), Nat.succ nx, hp.put nx (some (.row e (q + 1) (olds ++ u))))
                    | _, _ => none
                | none => none
              | none => none
            | false => none
          | .osl id k zz n => match Nat.ble (Nat.mul (Nat.add n m) i.bytes) 140737488355328 && Nat.ble (Nat.add n m) 140737488355328 with
            | true => match Nat.beq zz (q + 1) with
              | true => match hp.get id with
                | some (.row T sz' cs) => match Nat.beq sz' (q + 1) with
                  | true => match Nat.ble (Nat.mul (Nat.add k (Nat.add n m)) (q + 1)) cs.length with
                    | true => some (.osl id k zz (Nat.add n m), nx, hp.put id (some ((Ob.row T sz' cs).with (layV cs (Nat.add (Nat.mul k (q + 1)) (Nat.mul n (q + 1))) u))))
                    | false => match k with
                      | 0 => match Nat.beq (Nat.mul n (q + 1)) cs.length && Nat.ble 1 n, Nat.beq T e with
                        | true, true => some (.osl nx 0 (q + 1) (Nat.add n m), Nat.succ nx, (hp.put id none).put nx (some (.row e (q + 1) (cs ++ u))))
                        | _, _ => none
                      | _ + 1 => none
                  | false => none
                | _ => none
              | false => none
            | false => none
          | .lit (.slice (some ad) n c) => match Nat.ble (Nat.succ c) (Nat.add n m) with
            | true => match Nat.ble (Nat.mul (Nat.add n m) i.bytes) 140737488355328 && Nat.ble (Nat.add n m) 140737488355328 with
              | true => match extN H ad 0 (Nat.mul n (q + 1)) with
                | some olds => match V.ones (olds.map .lit), Nat.ble 1 m with
                  | true, true => some (.osl nx 0 (q + 1) (Nat.add n m), Nat.succ nx, hp.put nx (some (.row e (q + 1) (olds.map .lit ++ u))))
                  | _, _ => none
                | none => none
              | false => none
            | false => none
          | _ => none
        | _, _, _ => none
      | none => none
    | none => none
  | _ => none
/-- Nothing is appended. -/
theorem run_append_zero {t e : TypeId} {i : TypeInfo} (hu : P.underlying t = some (.slice e)) (hi : P.info? e = some i) (ty : TypeId) {A : Option Addr} {n c c2 : Nat} (h : n ≤ c) (w : World) : (Builtin.append_ #[t, t] ty #[.slice A n c, .slice none 0 c2]).run P w = .ok (.slice A n c) w := by
  cases A <;> simp [Builtin.append_, run_underlying hu, sizeOf, typeInfo, hi, Builtin.lenOf, Builtin.firstCells, storeCells, h]
theorem run_append_zero_at {t e : TypeId} {i : TypeInfo} (hu : P.underlying t = some (.slice e)) (hi : P.info? e = some i) (ty : TypeId) {A : Option Addr} {ad : Addr} {n c c2 : Nat} (h : n ≤ c) (w : World) : (Builtin.append_ #[t, t] ty #[.slice A n c, .slice (some ad) 0 c2]).run P w = .ok (.slice A n c) w := by
  cases A <;> simp [Builtin.append_, run_underlying hu, sizeOf, typeInfo, hi, Builtin.lenOf, Builtin.firstCells, loadCells, loadCellsFrom, storeCells, h]
theorem run_append_room_at {t ty e : TypeId} {i : TypeInfo} (ht : P.underlying t = some (.slice e)) (hi : P.info? e = some i)
    (g off sLen sCap : Nat) (ad : Addr) (m c : Nat) (news : List Value) (hl : news.length = m * i.size) (hnews : ∀ j u, news[j]? = some u → w.cell? (ad.add j) = some u)
    (hroom : sLen + m ≤ sCap) {w' : World} (hst : (storeCells ⟨g, off + sLen * i.size, none⟩ news).run P w = .ok () w') :
    (Builtin.append_ #[t, t] ty #[.slice (some ⟨g, off, none⟩) sLen sCap, .slice (some ad) m c]).run P w = .ok (.slice (some ⟨g, off, none⟩) (sLen + m) sCap) w' := by
  have hf := run_firstCells_some (P := P) w i.size m ad m c news hl hnews
  simp [Builtin.append_, run_underlying ht, sizeOf, typeInfo, hi, Builtin.lenOf, hroom, hf, Addr.add_lit, hst]
/-- A new row, in a world that has drawn. -/
theorem newRow_ok (hC : Cn H R hp w) (hnx : ∀ i b c, R i b c → i < nx) (hd : hp.get nx = none) {e : TypeId} {sz m : Nat} {u : List V} {zs : List Value} (hu : VRs R u zs) (h1 : ∀ z ∈ zs, z.oneCell' = true) (hl : zs.length = m * sz) (z : Array Value) (hz : z.size = sz) (cap : Nat) (hge : m ≤ cap) (hcm : cap ≤ maxLen) :
    ∃ R', VR R' (.osl nx 0 sz m) (.slice (some ⟨w.heap.size, 0, none⟩) m cap) ∧ Cn H R' (hp.put nx (some (.row e sz u))) (w.drew.alloc (.cells (zs.toArray ++ Builtin.zeroCells z (cap - m)) e)) ∧
      St R nx hp w R' (Nat.succ nx) (hp.put nx (some (.row e sz u))) (w.drew.alloc (.cells (zs.toArray ++ Builtin.zeroCells z (cap - m)) e)) := by
  have hfr : ∀ b c, ¬ R nx b c := fun b c h => by have := hnx _ _ _ h; omega
  have hob : ObR R (.row e sz u) cap (.cells (zs ++ (Builtin.zeroCells z (cap - m)).toList).toArray e (0, 0)) := by
    refine .row e sz cap hu h1 ?_ hcm
    have hzl : (Builtin.zeroCells z (cap - m)).toList.length = (cap - m) * sz := by
      rw [← hz, ← size_zeroCells z (cap - m)]
      exact Array.length_toList
    rw [List.length_append, hzl, hl, ← Nat.add_mul]
    congr 1
    omega
  have he : (zs ++ (Builtin.zeroCells z (cap - m)).toList).toArray = zs.toArray ++ Builtin.zeroCells z (cap - m) := by
    apply Array.ext'
    simp
  rw [he] at hob
  refine ⟨addR R nx w.drew.heap.size (some cap), ?_, hC.drew.new hfr hd cap hob, (St.drew R nx hp w).trans (St.new R hp w.drew _ _ cap (Nat.succ nx) (Nat.le_refl _) (Nat.lt_succ_self _)) hnx⟩
  have : VR (addR R nx w.drew.heap.size (some cap)) (.osl nx 0 sz m) (.slice (some ⟨w.drew.heap.size, 0 * sz, none⟩) m (cap - 0)) := .osl 0 sz m (.inr ⟨rfl, rfl, rfl⟩) (by omega) (fun _ => rfl)
  simpa using this
/-- An object is let go, another one is laid at a block that nobody else has. -/
theorem Cn.swap (hC : Cn H R hp w) {id nid : Nat} (hid : ∀ b c, ¬ R nid b c) {w' : World} {g c : Nat} {ob : Ob} {x : Obj} (hx : ObR R ob c x) (hg : w'.heap[g]? = some x) (hH : H g = none) (hA : Agree w' H)
    (hlive : ∀ i o b c, i ≠ id → hp.get i = some o → R i b (some c) → b ≠ g ∧ w'.heap[b]? = w.heap[b]?) : Cn H (addR R nid g (some c)) ((hp.put id none).put nid (some ob)) w' := by
  have gr : ∀ i b c', R i b c' → addR R nid g (some c) i b c' := fun _ _ _ h => .inl h
  have look : ∀ i o, ((hp.put id none).put nid (some ob)).get i = some o → (i = nid ∧ o = ob) ∨ (i ≠ nid ∧ i ≠ id ∧ hp.get i = some o) := by
    intro i o h
    rw [PT.get_put] at h
    split at h
    · rename_i e; simp only [Option.some.injEq] at h; exact .inl ⟨e, h.symm⟩
    · rename_i e
      rw [PT.get_put] at h
      split at h
      · cases h
      · rename_i e2; exact .inr ⟨e, e2, h⟩
  refine ⟨hA, ?_, ?_, ?_⟩
  · intro i o h
    rcases look i o h with ⟨rfl, rfl⟩ | ⟨h1, h2, h3⟩
    · exact .inr ⟨g, c, x, .inr ⟨rfl, rfl, rfl⟩, hH, hg, hx.mono gr⟩
    · rcases hC.all i o h3 with ⟨k1, b, k2⟩ | ⟨b, c', x', k1, k2, k3, k4⟩
      · exact .inl ⟨k1, b, .inl k2⟩
      exact .inr ⟨b, c', x', .inl k1, k2, by rw [(hlive i o b c' h2 h3 k1).2]; exact k3, k4.mono gr⟩
  · rintro i b c1 b' c1' (h | ⟨rfl, rfl, rfl⟩) (h' | ⟨e, rfl, rfl⟩)
    · exact hC.fn _ _ _ _ _ h h'
    · subst e; exact absurd h (hid _ _)
    · exact absurd h' (hid _ _)
    · exact ⟨rfl, rfl⟩
  · intro i i' o1 o2 b c1 c2 h1 h2 h3 h4
    rcases look _ _ h1 with ⟨e1, _⟩ | ⟨n1, n1', h1⟩ <;> rcases look _ _ h2 with ⟨e2, _⟩ | ⟨n2, n2', h2⟩
    · omega
    · rcases h4 with h4 | ⟨e, _⟩
      · rcases h3 with h3 | ⟨_, rfl, _⟩
        · subst e1; exact absurd h3 (hid _ _)
        · exact absurd rfl (hlive _ _ _ _ n2' h2 h4).1
      · exact absurd e n2
    · rcases h3 with h3 | ⟨e, _⟩
      · rcases h4 with h4 | ⟨_, rfl, _⟩
        · subst e2; exact absurd h4 (hid _ _)
        · exact absurd rfl (hlive _ _ _ _ n1' h1 h3).1
      · exact absurd e n1
    · rcases h3 with h3 | ⟨e, _⟩
      · rcases h4 with h4 | ⟨e, _⟩
        · exact hC.inj _ _ _ _ _ _ _ h1 h2 h3 h4
        · exact absurd e n2
      · exact absurd e n1

theorem le_maxLen {n : Nat} (h : n ≤ 140737488355328) : n ≤ maxLen := by unfold maxLen; omega
theorem appV_ok (hC : Cn H R hp w) (hnx : ∀ i b c, R i b c → i < nx) (hd : hp.get nx = none) {t : TypeId} {s x : V} {ys yx : Value} (hs : VR R s ys) (hx : VR R x yx) {v : V} {nx' : Nat} {hp' : PT Ob} (h : appV P H nx hp t s x = some (v, nx', hp')) (ty : TypeId) :
    ∃ R' y w', (Builtin.append_ #[t, t] ty #[ys, yx]).run P w = .ok y w' ∧ VR R' v y ∧ Cn H R' hp' w' ∧ St R nx hp w R' nx' hp' w' := by
  unfold appV at h
  split at h
  · rename_i e hu
    split at h
    · rename_i i hi
      split at h
      · rename_i z hz
        split at h
        · rename_i q m u hzl hsz hnews
          have hzl := Nat.eq_of_beq_eq_true hzl
          simp only [Array.length_toList] at hzl
          obtain ⟨A, c2, zs, rfl, z1, z2, z3, z4⟩ := newsV_ok hC hx hnews
          have hzl' : z.cells.size = q + 1 := by omega
          rw [hsz] at z3
          have ulen := z1.length
          split at h
          -- nil
          · rename_i n c
            have := hs.lit_inv
            subst this
            split at h
            · split at h
              · simp only [Option.some.injEq, Prod.mk.injEq] at h
                obtain ⟨rfl, rfl, rfl⟩ := h
                have hzs : zs = [] := List.eq_nil_of_length_eq_zero (by omega)
                subst hzs
                refine ⟨R, _, w, ?_, hs, hC, St.refl _ _ _ _⟩
                rcases z4 with ⟨rfl, _⟩ | ⟨ad, rfl, _⟩
                · exact run_append_zero hu hi ty (Nat.le_refl _) w
                · simp [Builtin.append_, run_underlying hu, sizeOf, typeInfo, hi, Builtin.lenOf, Builtin.firstCells, loadCells, loadCellsFrom]
              · rename_i m'
                split at h
                · rename_i hb
                  simp only [Bool.and_eq_true] at hb
                  have hb1 : (m' + 1) * i.bytes ≤ 140737488355328 := Nat.le_of_ble_eq_true hb.1
                  have hb2 : m' + 1 ≤ 140737488355328 := Nat.le_of_ble_eq_true hb.2
                  simp only [Option.some.injEq, Prod.mk.injEq] at h
                  obtain ⟨rfl, rfl, rfl⟩ := h
                  rcases z4 with ⟨_, h0⟩ | ⟨ad, rfl, hcell⟩
                  · cases h0
                  · have hge := grownCap_ge w (m' + 1) 0 e
                    have hcm := grownCap_le_maxLen w (m' + 1) 0 e (le_maxLen hb2)
                    obtain ⟨R', r1, r2, r3⟩ := newRow_ok (nx := nx) (e := e) (sz := q + 1) (m := m' + 1) hC hnx hd z1 z2 z3 z.cells hzl' _ hge hcm
                    exact ⟨R', _, _, run_append_nil (P := P) w t ty e i z hu hi hz ad (m' + 1) c2 zs (by rw [hsz]; exact z3) hcell (by omega) (by omega) (by omega), r1, r2, r3⟩
                · cases h
            · cases h
          -- a slice of known capacity
          · rename_i id off n c
            split at h
            · rename_i hb
              simp only [Bool.and_eq_true] at hb
              have hb1 : (n + m) * i.bytes ≤ 140737488355328 := Nat.le_of_ble_eq_true hb.1
              have hb2 : n + m ≤ 140737488355328 := Nat.le_of_ble_eq_true hb.2
              split at h
              · rename_i ob hg
                split at h
                · rename_i cs hcs
                  cases hs with
                  | @sl _ b cc _ _ _ hR =>
                    split at h
                    · rename_i hroom
                      have hroom : n + m ≤ c := Nat.le_of_ble_eq_true hroom
                      split at h
                      · rename_i hfit
                        have hfit : off + n * (q + 1) + u.length ≤ cs.length := Nat.le_of_ble_eq_true hfit
                        simp only [Option.some.injEq, Prod.mk.injEq] at h
                        obtain ⟨rfl, rfl, rfl⟩ := h
                        obtain ⟨w', r1, r2, r3⟩ := wr_ok (nx := nx) hC hg hcs hR z1 z2 hfit
                        refine ⟨R, _, w', ?_, .sl off (n + m) c hR, r2, r3⟩
                        rcases z4 with ⟨rfl, h0⟩ | ⟨ad, rfl, hcell⟩
                        · subst h0
                          have hzs : zs = [] := List.eq_nil_of_length_eq_zero (by omega)
                          subst hzs
                          have := r1 P
                          simp only [storeCells, Sem.run_pure, Result.ok.injEq, true_and] at this
                          subst this
                          exact run_append_zero hu hi ty hroom w
                        · refine run_append_room_at hu hi b off n c ad m c2 zs (by rw [hsz]; exact z3) hcell hroom ?_
                          rw [hsz]
                          exact r1 P
                      · cases h
                    · rename_i hroom
                      have hroom : ¬ n + m ≤ c := fun hh => by rw [show Nat.ble (Nat.add n m) c = true from Nat.ble_eq_true_of_le hh] at hroom; cases hroom
                      split at h
                      · rename_i olds hcut hm1
                        have hm1 := Nat.le_of_ble_eq_true hm1
                        simp only [Option.some.injEq, Prod.mk.injEq] at h
                        obtain ⟨rfl, rfl, rfl⟩ := h
                        obtain ⟨ys, sp, T, k1, k2, k3, -⟩ := hC.cells hg hcs hR
                        obtain ⟨q1, q2⟩ := cut_ok k1 hcut
                        have q1 : VRs R olds ((ys.drop off).take (n * (q + 1))) := q1
                        have q2 : olds.length = n * (q + 1) := q2
                        have olen := q1.length
                        have holds : ∀ j v, ((ys.drop off).take (n * (q + 1)))[j]? = some v → w.cell? ((⟨b, off, none⟩ : Addr).add j) = some v := by
                          intro j v hj
                          rw [Addr.add_lit]
                          rw [List.getElem?_take] at hj
                          split at hj
                          · rw [List.getElem?_drop] at hj; exact cell_of_heap k3 hj
                          · cases hj
                        rcases z4 with ⟨rfl, h0⟩ | ⟨ad, rfl, hcell⟩
                        · omega
                        · have hge := grownCap_ge w (n + m) c e
                          have hcm := grownCap_le_maxLen w (n + m) c e (le_maxLen hb2)
                          have hl1 : (((ys.drop off).take (n * (q + 1))) ++ zs).length = (n + m) * (q + 1) := by rw [List.length_append, ← olen, q2, z3, ← Nat.add_mul]
                          obtain ⟨R', r1, r2, r3⟩ := newRow_ok (nx := nx) (e := e) (sz := q + 1) (m := n + m) hC hnx hd (q1.append z1) (fun y hy => by
                            rcases List.mem_append.1 hy with hy | hy
                            · exact k2 y (List.mem_of_mem_drop (List.mem_of_mem_take hy))
                            · exact z2 y hy) hl1 z.cells hzl' _ hge hcm
                          refine ⟨R', _, _, run_append_grow (P := P) w t ty e i z hu hi hz ⟨b, off, none⟩ n c _ (by rw [← olen, q2, hsz]) holds ad m c2 zs (by rw [hsz]; exact z3) hcell (by omega) (by omega) (growslice_fits (by omega) hb1), r1, ?_, ?_⟩
                          · simpa using r2
                          · simpa using r3
                      · cases h
                · cases h
              · cases h
            · cases h
          -- an open row
          · rename_i id k zz n
            split at h
            · rename_i hb
              simp only [Bool.and_eq_true] at hb
              have hb1 : (n + m) * i.bytes ≤ 140737488355328 := Nat.le_of_ble_eq_true hb.1
              have hb2 : n + m ≤ 140737488355328 := Nat.le_of_ble_eq_true hb.2
              split at h
              · rename_i hzz
                have hzz := Nat.eq_of_beq_eq_true hzz
                subst hzz
                split at h
                · rename_i T sz' cs hg
                  split at h
                  · rename_i hs'
                    have hs' := Nat.eq_of_beq_eq_true hs'
                    subst hs'
                    cases hs with
                    | osl0 _ hR => exact (hC.notVoid hg rfl hR).elim
                    | @osl _ b cc _ _ _ p hR hn hpa =>
                      obtain ⟨x', g2, g3, g4⟩ := hC.at hg hR
                      cases g4 with
                      | @row _ _ _ ys sp _ k1 k2 k3 k4 =>
                        have clen := k1.length
                        split at h
                        · rename_i hfit
                          have hfit : (k + (n + m)) * (q + 1) ≤ cs.length := Nat.le_of_ble_eq_true hfit
                          simp only [Option.some.injEq, Prod.mk.injEq] at h
                          obtain ⟨rfl, rfl, rfl⟩ := h
                          have e1 : k * (q + 1) + n * (q + 1) + u.length = (k + (n + m)) * (q + 1) := by
                            rw [ulen, z3]
                            show k * (q + 1) + n * (q + 1) + m * (q + 1) = _
                            rw [Nat.add_mul k (n + m), Nat.add_mul n m]
                            omega
                          obtain ⟨w', r1, r2, r3⟩ := wr_ok (nx := nx) (off := k * (q + 1) + n * (q + 1)) hC hg rfl hR z1 z2 (by rw [e1]; exact hfit)
                          have hcap : k + (n + m) ≤ cc := by
                            have : (k + (n + m)) * (q + 1) ≤ cc * (q + 1) := by rw [← k3, List.length_append]; omega
                            exact Nat.le_of_mul_le_mul_right this (Nat.succ_pos q)
                          refine ⟨R, _, w', ?_, .osl k (q + 1) (n + m) hR hcap hpa, r2, r3⟩
                          by_cases hm0 : m = 0
                          · subst hm0
                            have hzs : zs = [] := List.eq_nil_of_length_eq_zero (by omega)
                            subst hzs
                            have := r1 P
                            simp only [storeCells, Sem.run_pure, Result.ok.injEq, true_and] at this
                            subst this
                            rcases z4 with ⟨rfl, h0⟩ | ⟨ad, rfl, hcell⟩
                            · exact run_append_zero hu hi ty (by omega) w
                            · exact run_append_zero_at hu hi ty (by omega) w
                          · obtain ⟨_, h0⟩ | ⟨ad, rfl, hcell⟩ := z4
                            · omega
                            obtain rfl := hpa (by omega)
                            refine run_append_room_at hu hi b (k * (q + 1)) n (cc - k) ad m c2 zs (by rw [hsz]; exact z3) hcell (by omega) ?_
                            rw [hsz]
                            exact r1 P
                        · split at h
                          · rename_i hno
                            split at h
                            · rename_i hfull hTe
                              rw [Bool.and_eq_true] at hfull
                              have hn1 := Nat.le_of_ble_eq_true hfull.2
                              have hfull : n * (q + 1) = cs.length := Nat.eq_of_beq_eq_true hfull.1
                              obtain rfl := hpa (by omega)
                              have hTe := Nat.eq_of_beq_eq_true hTe
                              subst hTe
                              simp only [Option.some.injEq, Prod.mk.injEq] at h
                              obtain ⟨rfl, rfl, rfl⟩ := h
                              have hmpos : 0 < m := by
                                rcases Nat.eq_zero_or_pos m with h0 | h0
                                · subst h0
                                  rw [show Nat.ble (Nat.mul (Nat.add 0 (Nat.add n 0)) (q + 1)) cs.length = true from Nat.ble_eq_true_of_le (by show (0 + (n + 0)) * (q + 1) ≤ _; rw [Nat.zero_add, Nat.add_zero]; omega)] at hno
                                  cases hno
                                · exact h0
                              rcases z4 with ⟨_, h0⟩ | ⟨ad, rfl, hcell⟩
                              · omega
                              · have hown : w.ownsRow 0 T (q + 1) (.slice (some ⟨b, 0, none⟩) n cc) n ys := by
                                  refine ⟨by omega, .inr ⟨b, cc, _, rfl, Nat.zero_le _, g3, by omega, k4, by simpa using k3, ?_⟩⟩
                                  simp only
                                  rw [show n * (q + 1) = ys.length by omega]
                                  simp
                                obtain ⟨v', w', p1, p2, p3, p4, p5⟩ := run_append_own_at (P := P) w 0 t ty T i z (q + 1) i.bytes hu hi hz hsz rfl hzl' (Nat.succ_pos _) _ n ys hown ad m c2 zs z3 hcell z2 (le_maxLen hb2) hb1 (Nat.zero_le _)
                                rcases p2.2 with ⟨e1, e2⟩ | ⟨g', cap, cur, e1, _, e3, e4, e5, e6, e7⟩
                                · omega
                                · subst e1
                                  simp only [Value.ownBlock, Option.some.injEq] at p5
                                  have hcur : cur = (ys ++ zs ++ cur.toList.drop ((n + m) * (q + 1))).toArray := by
                                    apply Array.ext'
                                    rw [← e7]
                                    simp
                                  rw [hcur] at e3
                                  have hob : ObR R (.row T (q + 1) (cs ++ u)) cap (.cells (ys ++ zs ++ cur.toList.drop ((n + m) * (q + 1))).toArray T (0, 0)) := by
                                    refine .row T (q + 1) cap (k1.append z1) ?_ ?_ e5
                                    · intro y hy
                                      rcases List.mem_append.1 hy with hy | hy
                                      · exact k2 y hy
                                      · exact z2 y hy
                                    · have hl2 : (ys ++ zs).length = (n + m) * (q + 1) := p2.1
                                      have hle : (n + m) * (q + 1) ≤ cap * (q + 1) := Nat.mul_le_mul_right _ e4
                                      rw [List.length_append, hl2, List.length_drop, Array.length_toList, e6]
                                      omega
                                  have hfr : ∀ b c, ¬ R nx b c := fun b c h => by have := hnx _ _ _ h; omega
                                  have hgH : H g' = none := by
                                    rcases p5 with p5 | p5
                                    · rw [p5]; exact g2
                                    · rw [p5]; exact hC.agree.new (Nat.le_refl _)
                                  have hold : ∀ i' o' b2 c2, i' ≠ id → hp.get i' = some o' → R i' b2 (some c2) → b2 ≠ b := by
                                    intro i' o' b2 c2 hne hgi hRi e
                                    subst e
                                    exact hne (hC.inj _ _ _ _ _ _ _ hgi hg hRi hR)
                                  refine ⟨addR R nx g' (some cap), _, w', by simpa using p1, ?_, hC.swap hfr hob e3 hgH (hC.agree.put fun b2 o2 h2 => ?_) ?_, ?_⟩
                                  · have : VR (addR R nx g' (some cap)) (.osl nx 0 (q + 1) (n + m)) (.slice (some ⟨g', 0 * (q + 1), none⟩) (n + m) (cap - 0)) := .osl 0 (q + 1) (n + m) (.inr ⟨rfl, rfl, rfl⟩) (by omega) (fun _ => rfl)
                                    simpa using this
                                  · exact p3.block b2 (lt_of_some (hC.agree _ _ h2)) (fun e => by simp only [Value.ownBlock, Option.some.injEq] at e; subst e; rw [g2] at h2; cases h2)
                                  · intro i' o' b2 c3 hne hgi hRi
                                    have hb2 := hold i' o' b2 c3 hne hgi hRi
                                    have hlt := hC.lt hgi hRi
                                    refine ⟨fun e => ?_, p3.block b2 hlt (fun e => by simp only [Value.ownBlock, Option.some.injEq] at e; exact hb2 e)⟩
                                    rcases p5 with p5 | p5
                                    · exact hb2 (e.trans p5)
                                    · omega
                                  · refine ⟨fun _ _ _ h => .inl h, ?_, ?_, by omega, ⟨p3.os, p3.tape, p3.output, p3.size, fun k hk => by omega⟩, ?_⟩
                                    · rintro i' b2 c3 (h | ⟨rfl, rfl, rfl⟩)
                                      · exact .inl h
                                      · refine .inr ⟨Nat.le_refl _, Nat.lt_succ_self _, ?_⟩
                                        rcases p5 with p5 | p5
                                        · exact .inr (.inr ⟨id, cc, _, by rw [p5]; exact hR, hg⟩)
                                        · exact .inr (.inl (by omega))
                                    · intro i' hi' hn'
                                      rw [PT.get_put, if_neg (by omega), PT.get_put]
                                      split
                                      · rfl
                                      · exact hn'
                                    · intro k2' o2 hk2 hdead
                                      rw [p3.block k2' (lt_of_some hk2) (fun e => by
                                        simp only [Value.ownBlock, Option.some.injEq] at e
                                        subst e
                                        have := hdead id cc hR
                                        rw [hg] at this; cases this)]
                                      exact hk2
                            · cases h
                          · cases h
                  · cases h
                · cases h
              · cases h
            · cases h
          -- what lies outside
          · rename_i ad0 n c
            have := hs.lit_inv
            subst this
            split at h
            · rename_i hfull
              have hfull : c + 1 ≤ n + m := Nat.le_of_ble_eq_true hfull
              split at h
              · rename_i hb
                simp only [Bool.and_eq_true] at hb
                have hb1 : (n + m) * i.bytes ≤ 140737488355328 := Nat.le_of_ble_eq_true hb.1
                have hb2 : n + m ≤ 140737488355328 := Nat.le_of_ble_eq_true hb.2
                split at h
                · rename_i olds hext
                  split at h
                  · rename_i hone hm1
                    have hm1 := Nat.le_of_ble_eq_true hm1
                    simp only [Option.some.injEq, Prod.mk.injEq] at h
                    obtain ⟨rfl, rfl, rfl⟩ := h
                    obtain ⟨q1, q2⟩ := extN_ok hext
                    have q1 : olds.length = n * (q + 1) := q1
                    rcases z4 with ⟨rfl, h0⟩ | ⟨ad, rfl, hcell⟩
                    · omega
                    · have hge := grownCap_ge w (n + m) c e
                      have hcm := grownCap_le_maxLen w (n + m) c e (le_maxLen hb2)
                      have hl1 : (olds ++ zs).length = (n + m) * (q + 1) := by rw [List.length_append, q1, z3, ← Nat.add_mul]
                      have holds : ∀ j v, olds[j]? = some v → w.cell? (ad0.add j) = some v := fun j v hj => by
                        have := q2 j v hj
                        rw [Nat.zero_add] at this
                        exact hC.agree.cell this
                      obtain ⟨R', r1, r2, r3⟩ := newRow_ok (nx := nx) (e := e) (sz := q + 1) (m := n + m) hC hnx hd ((VRs.lits olds).append z1) (fun y hy => by
                        rcases List.mem_append.1 hy with hy | hy
                        · exact (VRs.lits (R := R) olds).ones hone y hy
                        · exact z2 y hy) hl1 z.cells hzl' _ hge hcm
                      refine ⟨R', _, _, run_append_grow (P := P) w t ty e i z hu hi hz ad0 n c olds (by rw [q1, hsz]) holds ad m c2 zs (by rw [hsz]; exact z3) hcell (by omega) (by omega) (growslice_fits (by omega) hb1), r1, ?_, ?_⟩
                      · simpa using r2
                      · simpa using r3
                  · cases h
                · cases h
              · cases h
            · cases h
          · cases h
        · cases h
      · cases h
    · cases h
  · cases h
end
end Go.Vm
