/- Every operation but calls. -/
import Derived.Test.YtdghfmbbohlcgaaGreatDoorVmF
import Derived.Laws.IdiomStrings
set_option linter.unusedVariables false
set_option linter.unusedSimpArgs false
namespace Go.Vm
open Go.RowKit

def clearV (P : Program) (nx : Nat) (hp : PT Ob) (t : TypeId) : V → Option (V × Nat × PT Ob)
  | .sl id off n c => match n with
    | 0 => some (.lit (.tuple #[]), nx, hp)
    | n' + 1 => match P.underlying t with
      | some (.slice e) => match zeroV P e, hp.get id with
        | some z, some ob => match ob.cs, V.ones (z.cells.toList.map .lit) with
          | some cs, true => match Nat.ble (Nat.add off (Nat.mul (n' + 1) z.cells.toList.length)) cs.length with
            | true => some (.lit (.tuple #[]), nx, hp.put id (some (ob.with (layV cs off ((rep z.cells.toList (n' + 1)).map .lit)))))
            | false => none
          | _, _ => none
        | _, _ => none
      | _ => none
  | .osl id i sz n => match n with
    | 0 => some (.lit (.tuple #[]), nx, hp)
    | n' + 1 => match P.underlying t with
      | some (.slice e) => match zeroV P e, hp.get id with
        | some z, some ob => match ob.cs, V.ones (z.cells.toList.map .lit) with
          | some cs, true => match Nat.ble (Nat.add (Nat.mul i sz) (Nat.mul (n' + 1) z.cells.toList.length)) cs.length with
            | true => some (.lit (.tuple #[]), nx, hp.put id (some (ob.with (layV cs (Nat.mul i sz) ((rep z.cells.toList (n' + 1)).map .lit)))))
            | false => none
          | _, _ => none
        | _, _ => none
      | _ => none
  | .lit (.slice none _ _) => some (.lit (.tuple #[]), nx, hp)
  | .lit (.slice (some a) 0 c) => some (.lit (.tuple #[]), nx, hp)
  | _ => none
theorem VRs.litsMap {R : Rel} : ∀ l : List UInt8, VRs R (l.map fun b => V.lit (.int .u8 (b.toNat : Int))) (l.map fun b => Value.int .u8 (b.toNat : Int))
  | [] => .nil
  | b :: l => .cons (.lit _) (VRs.litsMap l)
def strV (P : Program) (nx : Nat) (hp : PT Ob) (src dst : TypeId) (s : ByteArray) : Option (V × Nat × PT Ob) :=
  match P.underlying src, P.underlying dst with
  | some .string, some (.slice e) => match P.underlying e with
    | some (.int .u8) => some (.osl nx 0 1 s.data.toList.length, Nat.succ nx, hp.put nx (some (.ro e 1 (s.data.toList.map fun b => .lit (.int .u8 (b.toNat : Int))))))
    | _ => none
  | _, _ => none
theorem strV_ok {P : Program} {H : View} {R : Rel} {nx : Nat} {hp : PT Ob} {w : World} (hC : Cn H R hp w) (hnx : ∀ i b c, R i b c → i < nx) (hd : hp.get nx = none) {src dst : TypeId} {s : ByteArray} {v : V} {nx' : Nat} {hp' : PT Ob} (h : strV P nx hp src dst s = some (v, nx', hp')) :
    ∃ R' y w', (convert src dst (.string s)).run P w = .ok y w' ∧ VR R' v y ∧ Cn H R' hp' w' ∧ St R nx hp w R' nx' hp' w' := by
  unfold strV at h
  split at h
  · rename_i e hs hdst
    split at h
    · rename_i he
      simp only [Option.some.injEq, Prod.mk.injEq] at h
      obtain ⟨rfl, rfl, rfl⟩ := h
      have hrun := run_bytes_of_string (P := P) w src dst e s hs hdst he
      have hge : s.size ≤ grownCap w s.size 0 e := grownCap_ge w _ _ _
      generalize grownCap w s.size 0 e = cap at hrun hge
      have hfr : ∀ b c, ¬ R nx b c := fun b c h => by have := hnx _ _ _ h; omega
      generalize hfz : ((bytesRow s cap).size, (bytesRow s cap).size + 1) = fz at hrun
      have hl : s.data.toList.length = s.size := Array.length_toList
      let vs : List V := s.data.toList.map fun b => .lit (.int .u8 (b.toNat : Int))
      let ys : List Value := s.data.toList.map fun b => .int .u8 (b.toNat : Int)
      have hvs : VRs R vs ys := VRs.litsMap s.data.toList
      have h1 : ∀ y ∈ ys, y.oneCell' = true := by
        intro y hy
        obtain ⟨b, _, rfl⟩ := List.mem_map.1 hy
        rfl
      have hrow : bytesRow s cap = (ys ++ List.replicate (cap - s.size) (Value.int .u8 0)).toArray := by
        apply Array.ext'
        simp [bytesRow, ys]
      rw [hrow] at hrun
      refine ⟨addR R nx w.drew.heap.size (some cap), _, _, hrun, ?_, hC.drew.new hfr hd cap (.ro e 1 fz cap hvs h1), (St.drew R nx hp w).trans (St.new R hp w.drew _ _ cap (Nat.succ nx) (Nat.le_refl _) (Nat.lt_succ_self _)) hnx⟩
      have : VR (addR R nx w.drew.heap.size (some cap)) (.osl nx 0 1 s.data.toList.length) (.slice (some ⟨w.drew.heap.size, 0 * 1, none⟩) s.data.toList.length (cap - 0)) := .osl 0 1 s.data.toList.length (.inr ⟨rfl, rfl, rfl⟩) (by omega) (fun _ => rfl)
      simpa [hl] using this
    · cases h
  · cases h
def evW0 (P : Program) (H : View) (ρ : Rho) (nx : Nat) (hp : PT Ob) (o : Oper) : Option (V × Nat × PT Ob) :=
  match o.op with
  | .store t p x => storeV P ρ nx hp t p x
  | .mapUpdate t m k x | .insert t m k x => match P.underlying t with
    | some (.map kt _) => match ρ m, valOf (ρ k), ρ x with
      | some (.mp id), some kv, some v => match hp.get id with
        | some (.map es clock) => match putV P kt es clock kv v with
          | some ob => some (.lit undef, nx, hp.put id (some ob))
          | none => none
        | _ => none
      | _, _, _ => none
    | _ => none
  | .mapEntry t m k => match P.underlying t with
    | some (.map kt et) => match ρ m, valOf (ρ k) with
      | some (.mp id), some kv => match hp.get id with
        | some (.map es clock) => match entV P kt et es clock kv with
          | some (v, ob) => some (v, nx, hp.put id (some ob))
          | none => none
        | _ => none
      | _, _ => none
    | _ => none
  | .entryStore t m s x => match ρ m, natOf (ρ s), ρ x with
    | some (.mp id), some n, some v => match hp.get id with
      | some (.map es clock) => match bornIx es n 0 with
        | some i => some (.lit undef, nx, hp.put id (some (.map (setAt es i fun e => ⟨e.key, v, e.born⟩) clock)))
        | none => none
      | _ => none
    | _, _, _ => none
  | .range t x => match ρ x with
    | some (.lit (.string s)) => match P.underlying t with
      | some .string => some (.ptr nx 0, Nat.succ nx, hp.put nx (some (.siter s 0)))
      | _ => none
    | some (.mp id) => match P.underlying t with
      | some (.map _ _) => match hp.get id with
        | some (.map _ clock) => some (.ptr nx 0, Nat.succ nx, hp.put nx (some (.miter (some id) clock [] clock)))
        | _ => none
      | _ => none
    | some (.lit (.map none)) => match P.underlying t with
      | some (.map _ _) => some (.ptr nx 0, Nat.succ nx, hp.put nx (some (.miter none 0 [] 0)))
      | _ => none
    | _ => none
  | .next it isString => match ρ it with
    | some (.ptr r off) => match off with
      | 0 => match hp.get r, isString with
        | some (.siter s pos), true => match Nat.ble (Nat.succ pos) s.size with
          | true => match Utf8.decode s pos with
            | (c, k) => some (.tup [.lit (.bool true), .lit (.int .i64 (.ofNat pos)), .lit (.int .i32 (.ofNat c))], nx, hp.put r (some (.siter s (Nat.add pos k))))
          | false => some (.tup [.lit (.bool false)], nx, hp)
        | some (.miter none _ _ _), false => some (.tup [.lit (.bool false)], nx, hp)
        | some (.miter (some m) since seen last), false => match hp.get m with
          | some (.map es clock) => match nextV es since last seen with
            | some none => some (.tup [.lit (.bool false)], nx, hp)
            | some (some e) => some (.tup [.lit (.bool true), .lit e.key, e.val], nx, hp.put r (some (.miter (some m) since (seen ++ [e.born]) clock)))
            | none => none
          | _ => none
        | _, _ => none
      | _ + 1 => none
    | _ => none
  | .convert src dst x => match ρ x with
    | some (.lit (.string s)) => strV P nx hp src dst s
    | _ => none
  | .call { callee, args, argTypes } => match callee with
    | .builtin .append => match args.toList, argTypes.toList with
      | [s, x], [t, t'] => match Nat.beq t t', ρ s, ρ x with
        | true, some sv, some xv => appV P H nx hp t sv xv
        | _, _, _ => none
      | _, _ => none
    | .builtin .copy => match args.toList, argTypes.toList with
      | [d, x], [t, _] => match ρ d, ρ x with
        | some dv, some xv => copyV P H nx hp t dv xv
        | _, _ => none
      | _, _ => none
    | .builtin .clear => match args.toList, argTypes.toList with
      | [x], [t] => match ρ x, P.underlying t with
        | some xv, some _ => clearV P nx hp t xv
        | _, _ => none
      | _, _ => none
    | _ => none
  | _ => none
def evW_mapUpdate (P : Program) (H : View) (ρ : Rho) (nx : Nat) (hp : PT Ob) (o : Oper) (t : TypeId) (m : Operand) (k : Operand) (x : Operand) : Option (V × Nat × PT Ob) := match P.underlying t with
    | some (.map kt _) => match ρ m, valOf (ρ k), ρ x with
      | some (.mp id), some kv, some v => match hp.get id with
        | some (.map es clock) => match putV P kt es clock kv v with
          | some ob => some (.lit undef, nx, hp.put id (some ob))
          | none => none
        | _ => none
      | _, _, _ => none
    | _ => none
def evW_mapEntry (P : Program) (H : View) (ρ : Rho) (nx : Nat) (hp : PT Ob) (o : Oper) (t : TypeId) (m : Operand) (k : Operand) : Option (V × Nat × PT Ob) := match P.underlying t with
    | some (.map kt et) => match ρ m, valOf (ρ k) with
      | some (.mp id), some kv => match hp.get id with
        | some (.map es clock) => match entV P kt et es clock kv with
          | some (v, ob) => some (v, nx, hp.put id (some ob))
          | none => none
        | _ => none
      | _, _ => none
    | _ => none
def evW_entryStore (P : Program) (H : View) (ρ : Rho) (nx : Nat) (hp : PT Ob) (o : Oper) (t : TypeId) (m : Operand) (s : Operand) (x : Operand) : Option (V × Nat × PT Ob) := match ρ m, natOf (ρ s), ρ x with
    | some (.mp id), some n, some v => match hp.get id with
      | some (.map es clock) => match bornIx es n 0 with
        | some i => some (.lit undef, nx, hp.put id (some (.map (setAt es i fun e => ⟨e.key, v, e.born⟩) clock)))
        | none => none
      | _ => none
    | _, _, _ => none
def evW_range (P : Program) (H : View) (ρ : Rho) (nx : Nat) (hp : PT Ob) (o : Oper) (t : TypeId) (x : Operand) : Option (V × Nat × PT Ob) := match ρ x with
    | some (.lit (.string s)) => match P.underlying t with
      | some .string => some (.ptr nx 0, Nat.succ nx, hp.put nx (some (.siter s 0)))
      | _ => none
    | some (.mp id) => match P.underlying t with
      | some (.map _ _) => match hp.get id with
        | some (.map _ clock) => some (.ptr nx 0, Nat.succ nx, hp.put nx (some (.miter (some id) clock [] clock)))
        | _ => none
      | _ => none
    | some (.lit (.map none)) => match P.underlying t with
      | some (.map _ _) => some (.ptr nx 0, Nat.succ nx, hp.put nx (some (.miter none 0 [] 0)))
      | _ => none
    | _ => none
def evW_next (P : Program) (H : View) (ρ : Rho) (nx : Nat) (hp : PT Ob) (o : Oper) (it : Operand) (isString : Bool) : Option (V × Nat × PT Ob) := match ρ it with
    | some (.ptr r off) => match off with
      | 0 => match hp.get r, isString with
        | some (.siter s pos), true => match Nat.ble (Nat.succ pos) s.size with
          | true => match Utf8.decode s pos with
            | (c, k) => some (.tup [.lit (.bool true), .lit (.int .i64 (.ofNat pos)), .lit (.int .i32 (.ofNat c))], nx, hp.put r (some (.siter s (Nat.add pos k))))
          | false => some (.tup [.lit (.bool false)], nx, hp)
        | some (.miter none _ _ _), false => some (.tup [.lit (.bool false)], nx, hp)
        | some (.miter (some m) since seen last), false => match hp.get m with
          | some (.map es clock) => match nextV es since last seen with
            | some none => some (.tup [.lit (.bool false)], nx, hp)
            | some (some e) => some (.tup [.lit (.bool true), .lit e.key, e.val], nx, hp.put r (some (.miter (some m) since (seen ++ [e.born]) clock)))
            | none => none
          | _ => none
        | _, _ => none
      | _ + 1 => none
    | _ => none
def evW_convert (P : Program) (H : View) (ρ : Rho) (nx : Nat) (hp : PT Ob) (o : Oper) (src : TypeId) (dst : TypeId) (x : Operand) : Option (V × Nat × PT Ob) := match ρ x with
    | some (.lit (.string s)) => strV P nx hp src dst s
    | _ => none
def evW_call (P : Program) (H : View) (ρ : Rho) (nx : Nat) (hp : PT Ob) (o : Oper) (cl : Call) : Option (V × Nat × PT Ob) := match cl with
  | { callee, args, argTypes } => match callee with
    | .builtin .append => match args.toList, argTypes.toList with
      | [s, x], [t, t'] => match Nat.beq t t', ρ s, ρ x with
        | true, some sv, some xv => appV P H nx hp t sv xv
        | _, _, _ => none
      | _, _ => none
    | .builtin .copy => match args.toList, argTypes.toList with
      | [d, x], [t, _] => match ρ d, ρ x with
        | some dv, some xv => copyV P H nx hp t dv xv
        | _, _ => none
      | _, _ => none
    | .builtin .clear => match args.toList, argTypes.toList with
      | [x], [t] => match ρ x, P.underlying t with
        | some xv, some _ => clearV P nx hp t xv
        | _, _ => none
      | _, _ => none
    | _ => none
def evW (P : Program) (H : View) (ρ : Rho) (nx : Nat) (hp : PT Ob) (o : Oper) : Option (V × Nat × PT Ob) :=
  match o.op with
  | .store t p x => storeV P ρ nx hp t p x
  | .mapUpdate t m k x => evW_mapUpdate P H ρ nx hp o t m k x
  | .insert t m k x => evW_mapUpdate P H ρ nx hp o t m k x
  | .mapEntry t m k => evW_mapEntry P H ρ nx hp o t m k
  | .entryStore t m s x => evW_entryStore P H ρ nx hp o t m s x
  | .range t x => evW_range P H ρ nx hp o t x
  | .next it isString => evW_next P H ρ nx hp o it isString
  | .convert src dst x => evW_convert P H ρ nx hp o src dst x
  | .call cl => evW_call P H ρ nx hp o cl
  | _ => none
theorem evW_eq (P : Program) (H : View) (ρ : Rho) (nx : Nat) (hp : PT Ob) (o : Oper) : evW P H ρ nx hp o = evW0 P H ρ nx hp o := by
  unfold evW evW0
  generalize o.op = p
  cases p with
  | makeFunc f _ _ => cases f <;> rfl
  | _ => rfl
section
variable {P : Program} {H : View} {R : Rel} {nx : Nat} {hp : PT Ob} {w : World} {ρ : Rho} {a : Act} {o : Oper}
theorem clear_aux {t e : TypeId} {z : Value} (hu : P.underlying t = some (.slice e)) (hz : zeroV P e = some z) (hC : Cn H R hp w) {id off n c : Nat} (hn : n ≠ 0) {ob : Ob} {cs : List V} (hg : hp.get id = some ob) (hcs : ob.cs = some cs) (h1 : V.ones (z.cells.toList.map .lit) = true) {b cc : Nat} (hR : R id b cc)
    (hl : off + n * z.cells.toList.length ≤ cs.length) (ty : TypeId) : ∃ w', (Builtin.clear_ #[t] ty #[.slice (some ⟨b, off, none⟩) n c]).run P w = .ok (.tuple #[]) w' ∧ Cn H R (hp.put id (some (ob.with (layV cs off ((rep z.cells.toList n).map .lit))))) w' ∧ St R nx hp w R nx (hp.put id (some (ob.with (layV cs off ((rep z.cells.toList n).map .lit))))) w' := by
  obtain ⟨w', r1, r2, r3⟩ := wr_ok (nx := nx) (off := off) hC hg hcs hR (VRs.lits (rep z.cells.toList n)) (ones_rep h1 n) (by rw [List.length_map, rep_length]; exact hl)
  refine ⟨w', ?_, r2, r3⟩
  have hzc : (Builtin.zeroCells z.cells n).toList = rep z.cells.toList n := by
    unfold Builtin.zeroCells
    rw [made_rep z.cells n z.cells.size rfl]
  obtain ⟨k, rfl⟩ : ∃ k, n = k + 1 := ⟨n - 1, by omega⟩
  simp only [Builtin.clear_, List.getElem?_toArray, List.getElem?_cons_zero, Sem.run_bind, run_underlying hu, Result.andThen_ok, run_zeroV hz, hzc, r1 P, Sem.run_pure]
theorem clearV_ok (hC : Cn H R hp w) {t : TypeId} {x : V} {y : Value} (hx : VR R x y) {v : V} {nx' : Nat} {hp' : PT Ob} (h : clearV P nx hp t x = some (v, nx', hp')) (hu0 : ∃ u, P.underlying t = some u) (ty : TypeId) :
    ∃ w', (Builtin.clear_ #[t] ty #[y]).run P w = .ok (.tuple #[]) w' ∧ v = .lit (.tuple #[]) ∧ Cn H R hp' w' ∧ St R nx hp w R nx' hp' w' := by
  obtain ⟨u0, hu0⟩ := hu0
  unfold clearV at h
  split at h
  · rename_i id off n c
    cases hx with
    | sl _ _ _ hR =>
      split at h
      · simp only [Option.some.injEq, Prod.mk.injEq] at h
        obtain ⟨rfl, rfl, rfl⟩ := h
        refine ⟨w, ?_, rfl, hC, St.refl _ _ _ _⟩
        simp only [Builtin.clear_, List.getElem?_toArray, List.getElem?_cons_zero, Sem.run_bind, run_underlying hu0, Result.andThen_ok]
        rfl
      · rename_i n'
        split at h
        · rename_i e hu
          split at h
          · rename_i z ob hz hg
            split at h
            · rename_i cs hcs h1
              split at h
              · rename_i hl
                have hl := Nat.le_of_ble_eq_true hl
                simp only [Option.some.injEq, Prod.mk.injEq] at h
                obtain ⟨rfl, rfl, rfl⟩ := h
                obtain ⟨w', r1, r2, r3⟩ := clear_aux (nx := nx) (c := c) hu hz hC (Nat.succ_ne_zero n') hg hcs h1 hR hl ty
                exact ⟨w', r1, rfl, r2, r3⟩
              · cases h
            · cases h
          · cases h
        · cases h
  · rename_i id i sz n
    cases hx with
    | @osl0 _ _ _ p hR =>
      simp only [Option.some.injEq, Prod.mk.injEq] at h
      obtain ⟨rfl, rfl, rfl⟩ := h
      refine ⟨w, ?_, rfl, hC, St.refl _ _ _ _⟩
      simp only [Builtin.clear_, List.getElem?_toArray, List.getElem?_cons_zero, Sem.run_bind, run_underlying hu0, Result.andThen_ok]
      cases p <;> rfl
    | @osl _ b cc _ _ _ p hR hn hpa =>
      split at h
      · simp only [Option.some.injEq, Prod.mk.injEq] at h
        obtain ⟨rfl, rfl, rfl⟩ := h
        refine ⟨w, ?_, rfl, hC, St.refl _ _ _ _⟩
        simp only [Builtin.clear_, List.getElem?_toArray, List.getElem?_cons_zero, Sem.run_bind, run_underlying hu0, Result.andThen_ok]
        cases p <;> rfl
      · rename_i n'
        split at h
        · rename_i e hu
          split at h
          · rename_i z ob hz hg
            split at h
            · rename_i cs hcs h1
              split at h
              · rename_i hl
                have hl := Nat.le_of_ble_eq_true hl
                simp only [Option.some.injEq, Prod.mk.injEq] at h
                obtain ⟨rfl, rfl, rfl⟩ := h
                obtain rfl := hpa (by omega)
                obtain ⟨w', r1, r2, r3⟩ := clear_aux (nx := nx) (c := cc - i) hu hz hC (Nat.succ_ne_zero n') hg hcs h1 hR hl ty
                exact ⟨w', r1, rfl, r2, r3⟩
              · cases h
            · cases h
          · cases h
        · cases h
  · have := hx.lit_inv
    subst this
    simp only [Option.some.injEq, Prod.mk.injEq] at h
    obtain ⟨rfl, rfl, rfl⟩ := h
    refine ⟨w, ?_, rfl, hC, St.refl _ _ _ _⟩
    simp only [Builtin.clear_, List.getElem?_toArray, List.getElem?_cons_zero, Sem.run_bind, run_underlying hu0, Result.andThen_ok]
    rfl
  · have := hx.lit_inv
    subst this
    simp only [Option.some.injEq, Prod.mk.injEq] at h
    obtain ⟨rfl, rfl, rfl⟩ := h
    refine ⟨w, ?_, rfl, hC, St.refl _ _ _ _⟩
    simp only [Builtin.clear_, List.getElem?_toArray, List.getElem?_cons_zero, Sem.run_bind, run_underlying hu0, Result.andThen_ok]
    rfl
  · cases h
/-- A new object, whatever it is. -/
theorem newOb (hC : Cn H R hp w) (hnx : ∀ i b c, R i b c → i < nx) (hd : hp.get nx = none) {ob : Ob} {x : Obj} {c : Nat} (hx : ObR R ob c x) :
    Cn H (addR R nx w.heap.size (some c)) (hp.put nx (some ob)) (w.alloc x) ∧ St R nx hp w (addR R nx w.heap.size (some c)) (Nat.succ nx) (hp.put nx (some ob)) (w.alloc x) :=
  ⟨hC.new (fun b c h => by have := hnx _ _ _ h; omega) hd c hx, St.new R hp w ob x c (Nat.succ nx) (Nat.le_refl _) (Nat.lt_succ_self _)⟩
/-- What an operation comes to. -/
def OpOk (P : Program) (H : View) (R : Rel) (nx : Nat) (hp : PT Ob) (w : World) (a : Act) (o : Oper) (v : V) (nx' : Nat) (hp' : PT Ob) : Prop :=
  ∃ R' n y w', (execOp a.eval o).run P w = .ok n w' ∧ (n = .value y ∨ (n = .skip ∧ y = undef)) ∧ VR R' v y ∧ Cn H R' hp' w' ∧ St R nx hp w R' nx' hp' w'
theorem run_newObj_ (x : Obj) : (newObj x).run P w = .ok w.heap.size (w.alloc x) := rfl
theorem evW_ok (hr : RhoR R ρ a) (hC : Cn H R hp w) (hnx : ∀ i b c, R i b c → i < nx) (hd : hp.get nx = none) {v : V} {nx' : Nat} {hp' : PT Ob} (h : evW P H ρ nx hp o = some (v, nx', hp')) : OpOk P H R nx hp w a o v nx' hp' := by
  have ofPut : ∀ {t m k x}, (o.op = .mapUpdate t m k x ∨ o.op = .insert t m k x) → (match P.underlying t with
    | some (.map kt _) => match ρ m, valOf (ρ k), ρ x with
      | some (.mp id), some kv, some v => match hp.get id with
        | some (.map es clock) => match putV P kt es clock kv v with
          | some ob => some (V.lit undef, nx, hp.put id (some ob))
          | none => none
        | _ => none
      | _, _, _ => none
    | _ => none) = some (v, nx', hp') → OpOk P H R nx hp w a o v nx' hp' := by
    intro t m k x ho h
    split at h
    · rename_i kt et hu
      split at h
      · rename_i id kv vv hm hk hx
        split at h
        · rename_i es clock hg
          split at h
          · rename_i ob hput
            simp only [Option.some.injEq, Prod.mk.injEq] at h
            obtain ⟨rfl, rfl, rfl⟩ := h
            have hv := hr _ _ hm
            generalize hmm : a.eval m = mm at hv
            cases hv with
            | mp hR =>
              obtain ⟨w', r1, r2, r3⟩ := putV_ok (nx := nx) hC hu hg hR (hr _ _ hx) hput
              refine ⟨R, .skip, undef, w', ?_, .inr ⟨rfl, rfl⟩, .lit _, r2, r3⟩
              rcases ho with ho | ho <;> simp only [execOp, ho, hmm, valOf_ok hr hk, Sem.run_bind, r1] <;> rfl
          · cases h
        · cases h
      · cases h
    · cases h
  rw [evW_eq] at h
  unfold evW0 at h
  split at h
  · rename_i t p x ho
    obtain ⟨rfl, w', r1, r2, r3⟩ := storeV_ok hr hC h
    exact ⟨R, .skip, undef, w', by simp only [execOp, ho, Sem.run_bind, r1]; rfl, .inr ⟨rfl, rfl⟩, .lit _, r2, r3⟩
  · rename_i t m k x ho
    exact ofPut (.inl ho) h
  · rename_i t m k x ho
    exact ofPut (.inr ho) h
  · rename_i t m k ho
    split at h
    · rename_i kt et hu
      split at h
      · rename_i id kv hm hk
        split at h
        · rename_i es clock hg
          split at h
          · rename_i vv ob hent
            simp only [Option.some.injEq, Prod.mk.injEq] at h
            obtain ⟨rfl, rfl, rfl⟩ := h
            have hv := hr _ _ hm
            generalize hmm : a.eval m = mm at hv
            cases hv with
            | mp hR =>
              obtain ⟨y, w', r1, r2, r3, r4⟩ := entV_ok (nx := nx) hC hu hg hR hent
              exact ⟨R, .value y, y, w', by simp only [execOp, ho, hmm, valOf_ok hr hk, Sem.run_bind, r1]; rfl, .inl rfl, r2, r3, r4⟩
          · cases h
        · cases h
      · cases h
    · cases h
  · rename_i t m s x ho
    split at h
    · rename_i id n vv hm hs hx
      split at h
      · rename_i es clock hg
        split at h
        · rename_i i hb
          simp only [Option.some.injEq, Prod.mk.injEq] at h
          obtain ⟨rfl, rfl, rfl⟩ := h
          have hv := hr _ _ hm
          obtain ⟨ik, hsn⟩ := natOf_ok hr hs
          generalize hmm : a.eval m = mm at hv
          cases hv with
          | mp hR =>
            obtain ⟨w', r1, r2, r3⟩ := stamp_ok (P := P) (nx := nx) (t := t) (ik := ik) hC hg hR (hr _ _ hx) hb
            exact ⟨R, .skip, undef, w', by simp only [execOp, ho, hmm, hsn, Sem.run_bind, r1]; rfl, .inr ⟨rfl, rfl⟩, .lit _, r2, r3⟩
        · cases h
      · cases h
    · cases h
  -- range
  · rename_i t x ho
    split at h
    · rename_i s hx
      split at h
      · rename_i hu
        simp only [Option.some.injEq, Prod.mk.injEq] at h
        obtain ⟨rfl, rfl, rfl⟩ := h
        have hv := (hr _ _ hx).lit_inv
        obtain ⟨r1, r2⟩ := newOb hC hnx hd (ObR.siter (R := R) s 0 0)
        refine ⟨_, .value _, _, _, ?_, .inl rfl, .ptr 0 (.inr ⟨rfl, rfl, rfl⟩), r1, r2⟩
        simp only [execOp, ho, hv, Instr.range, Sem.run_bind, run_underlying hu, Result.andThen_ok, Sem.run_pure, run_newObj_]
      · cases h
    · rename_i id hx
      split at h
      · rename_i kt et hu
        split at h
        · rename_i es clock hg
          simp only [Option.some.injEq, Prod.mk.injEq] at h
          obtain ⟨rfl, rfl, rfl⟩ := h
          have hv := hr _ _ hx
          generalize hxx : a.eval x = xx at hv
          cases hv with
          | @mp _ b c hR =>
            obtain ⟨ms, hE, hh⟩ := hC.map hg hR
            obtain ⟨r1, r2⟩ := newOb hC hnx hd (ObR.miter hR clock [] clock 0)
            refine ⟨_, .value _, _, _, ?_, .inl rfl, .ptr 0 (.inr ⟨rfl, rfl, rfl⟩), r1, r2⟩
            simp only [execOp, ho, hxx, Instr.range, Sem.run_bind, run_underlying hu, Result.andThen_ok, run_getObj_map hh, Sem.run_pure, run_newObj_]
        · cases h
      · cases h
    · rename_i hx
      split at h
      · rename_i kt et hu
        simp only [Option.some.injEq, Prod.mk.injEq] at h
        obtain ⟨rfl, rfl, rfl⟩ := h
        have hv := (hr _ _ hx).lit_inv
        obtain ⟨r1, r2⟩ := newOb hC hnx hd (ObR.miterN (R := R) 0 [] 0 0)
        refine ⟨_, .value _, _, _, ?_, .inl rfl, .ptr 0 (.inr ⟨rfl, rfl, rfl⟩), r1, r2⟩
        simp only [execOp, ho, hv, Instr.range, Sem.run_bind, run_underlying hu, Result.andThen_ok, Sem.run_pure, run_newObj_]
      · cases h
    · cases h
  -- next
  · rename_i it isString ho
    split at h
    · rename_i r off hi
      split at h
      · have hv := hr _ _ hi
        generalize hii : a.eval it = ii at hv
        cases hv with
        | @ptr _ b c _ hR =>
          split at h
          · rename_i s pos hg
            obtain ⟨x, g2, g3, g4⟩ := hC.at hg hR
            cases g4
            have hgo : (getObj b).run P w = .ok (.stringIter s pos) w := by simp [getObj, Sem.run, g3]
            split at h
            · rename_i hlt
              have hlt : pos < s.size := Nat.le_of_ble_eq_true hlt
              split at h
              rename_i c' k hdec
              simp only [Option.some.injEq, Prod.mk.injEq] at h
              obtain ⟨rfl, rfl, rfl⟩ := h
              obtain ⟨r1, r2⟩ := setMap (nx := nx) hC hg hR (ObR.siter (R := R) s (pos + k) c)
              refine ⟨R, .value _, _, _, ?_, .inl rfl, .tup (.cons (.lit _) (.cons (.lit _) (.cons (.lit _) .nil))), r1, r2⟩
              simp only [execOp, ho, hii, Instr.next, Sem.run_bind, Sem.run_pure, Result.andThen_ok, hgo, hlt, if_true, hdec, run_setObj_ g3 rfl, goInt]
              rfl
            · rename_i hlt
              have hlt : ¬ pos < s.size := fun hh => by rw [show Nat.ble (Nat.succ pos) s.size = true from Nat.ble_eq_true_of_le hh] at hlt; cases hlt
              simp only [Option.some.injEq, Prod.mk.injEq] at h
              obtain ⟨rfl, rfl, rfl⟩ := h
              refine ⟨R, .value _, _, w, ?_, .inl rfl, .tup (.cons (.lit _) .nil), hC, St.refl _ _ _ _⟩
              simp only [execOp, ho, hii, Instr.next, Sem.run_bind, Sem.run_pure, Result.andThen_ok, hgo, hlt, if_false]
          · rename_i since seen last hg
            obtain ⟨x, g2, g3, g4⟩ := hC.at hg hR
            cases g4
            have hgo : (getObj b).run P w = .ok (.mapIter none since seen.toArray last) w := by simp [getObj, Sem.run, g3]
            simp only [Option.some.injEq, Prod.mk.injEq] at h
            obtain ⟨rfl, rfl, rfl⟩ := h
            refine ⟨R, .value _, _, w, ?_, .inl rfl, .tup (.cons (.lit _) .nil), hC, St.refl _ _ _ _⟩
            simp only [execOp, ho, hii, Instr.next, Sem.run_bind, Sem.run_pure, Result.andThen_ok, hgo]
          · rename_i m since seen last hg
            obtain ⟨x, g2, g3, g4⟩ := hC.at hg hR
            cases g4 with
            | @miter _ bm cm hRm =>
              split at h
              · rename_i es clock hgm
                obtain ⟨ms, hE, hh⟩ := hC.map hgm hRm
                split at h
                · rename_i hnv
                  have := nextV_ok (P := P) hE hh g3 o.type hnv
                  simp only at this
                  simp only [Option.some.injEq, Prod.mk.injEq] at h
                  obtain ⟨rfl, rfl, rfl⟩ := h
                  refine ⟨R, .value _, _, w, ?_, .inl rfl, .tup (.cons (.lit _) .nil), hC, St.refl _ _ _ _⟩
                  simp only [execOp, ho, hii, Sem.run_bind, this]
                  rfl
                · rename_i e hnv
                  have := nextV_ok (P := P) hE hh g3 o.type hnv
                  simp only at this
                  obtain ⟨y, hy, hrun⟩ := this
                  simp only [Option.some.injEq, Prod.mk.injEq] at h
                  obtain ⟨rfl, rfl, rfl⟩ := h
                  obtain ⟨r1, r2⟩ := setMap (nx := nx) hC hg hR (ObR.miter hRm since (seen ++ [e.born]) clock c)
                  refine ⟨R, .value _, _, _, ?_, .inl rfl, .tup (.cons (.lit _) (.cons (.lit _) (.cons hy .nil))), r1, r2⟩
                  simp only [execOp, ho, hii, Sem.run_bind, hrun]
                  rfl
                · cases h
              · cases h
          · cases h
      · cases h
    · cases h
  -- bytes of a string
  · rename_i src dst x ho
    split at h
    · rename_i s hx
      have hv := (hr _ _ hx).lit_inv
      obtain ⟨R', y, w', r1, r2, r3, r4⟩ := strV_ok hC hnx hd h
      exact ⟨R', .value y, y, w', by simp only [execOp, ho, hv, Sem.run_bind, r1]; rfl, .inl rfl, r2, r3, r4⟩
    · cases h
  -- calls of append, copy, clear
  · rename_i callee args argTypes ho
    split at h
    · split at h
      · rename_i s x t t' hargs hts
        have hargs : args = #[s, x] := by rw [← Array.toList_inj]; exact hargs
        have hts : argTypes = #[t, t'] := by rw [← Array.toList_inj]; exact hts
        subst hargs; subst hts
        split at h
        · rename_i sv xv hb hs hx
          have := Nat.eq_of_beq_eq_true hb
          subst this
          obtain ⟨R', y, w', r1, r2, r3, r4⟩ := appV_ok hC hnx hd (hr _ _ hs) (hr _ _ hx) h o.type
          refine ⟨R', .value y, y, w', ?_, .inl rfl, r2, r3, r4⟩
          simp only [execOp, ho, resolve, Sem.run_bind, Sem.run_pure, Result.andThen_ok, invoke, builtin]
          simp [r1]
        · cases h
      · cases h
    · split at h
      · rename_i d x t ts hargs hts
        have hargs : args = #[d, x] := by rw [← Array.toList_inj]; exact hargs
        have hts : argTypes = #[t, ts] := by rw [← Array.toList_inj]; exact hts
        subst hargs; subst hts
        split at h
        · rename_i dv xv hd' hx
          obtain ⟨y, w', r1, r2, r3, r4⟩ := copyV_ok (P := P) (ts := ts) hC (hr _ _ hd') (hr _ _ hx) h o.type
          refine ⟨R, .value y, y, w', ?_, .inl rfl, r2, r3, r4⟩
          simp only [execOp, ho, resolve, Sem.run_bind, Sem.run_pure, Result.andThen_ok, invoke, builtin]
          simp [r1]
        · cases h
      · cases h
    · split at h
      · rename_i x t hargs hts
        have hargs : args = #[x] := by rw [← Array.toList_inj]; exact hargs
        have hts : argTypes = #[t] := by rw [← Array.toList_inj]; exact hts
        subst hargs; subst hts
        split at h
        · rename_i xv u0 hx hu0
          obtain ⟨w', r1, rfl, r3, r4⟩ := clearV_ok hC (hr _ _ hx) h ⟨u0, hu0⟩ o.type
          refine ⟨R, .value _, _, w', ?_, .inl rfl, .lit _, r3, r4⟩
          simp only [execOp, ho, resolve, Sem.run_bind, Sem.run_pure, Result.andThen_ok, invoke, builtin]
          simp [r1]
        · cases h
      · cases h
    · cases h
  · cases h
end
end Go.Vm
