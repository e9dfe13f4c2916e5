/- Operations that leave the memory alone, on abstract values. -/
import Derived.Test.YtdghfmbbohlcgaaGreatDoorVmA
import Derived.Laws.Small
import Derived.Laws.Cover3
import Derived.Laws.StructEq
import Derived.Laws.Pointers
set_option linter.unusedVariables false
set_option linter.unusedSimpArgs false
namespace Go.Vm
open Go.RowKit

/-! ### the table of types -/
def sizeV (P : Program) (t : TypeId) : Option Nat := match P.info? t with
  | some i => some i.size
  | none => none
def bytesV (P : Program) (t : TypeId) : Option Nat := match P.info? t with
  | some i => some i.bytes
  | none => none
def zeroV (P : Program) (t : TypeId) : Option Value := match P.info? t with
  | some i => i.zero
  | none => none
def aggD : TypeDesc → Bool
  | .struct _ | .array _ _ => true
  | _ => false
section
variable {P : Program} {t : TypeId}
theorem run_sizeV {n : Nat} (h : sizeV P t = some n) (w : World) : (sizeOf t).run P w = .ok n w := by
  unfold sizeV at h
  split at h
  · rename_i i hi
    simp only [Option.some.injEq] at h; subst h
    simp [sizeOf, typeInfo, hi]
  · cases h
theorem run_zeroV {z : Value} (h : zeroV P t = some z) (w : World) : (zeroValue t).run P w = .ok z w := by
  unfold zeroV at h
  split at h
  · rename_i i hi
    simp [zeroValue, typeInfo, hi, h]
  · cases h
theorem run_isAggV {u : TypeDesc} (h : P.underlying t = some u) (w : World) : (isAgg t).run P w = .ok (aggD u) w := by
  unfold isAgg
  simp only [Sem.run_bind, run_underlying h, Result.andThen_ok]
  cases u <;> rfl
end
def partV (P : Program) (t : TypeId) (cs : List V) (off : Nat) : Option V :=
  match P.underlying t with
  | some u => match aggD u with
    | true => match sizeV P t with
      | some n => some (.agg ((cs.drop off).take n))
      | none => none
    | false => cs[off]?
  | none => none
theorem partV_ok {P : Program} {R : Rel} {t : TypeId} {cs : List V} {ys : List Value} {off : Nat} {v : V} (hR : VRs R cs ys) (h : partV P t cs off = some v) : ∃ y, VR R v y ∧ ∀ w, (part t ys.toArray off).run P w = .ok y w := by
  unfold partV at h
  split at h
  · rename_i u hu
    split at h
    · rename_i ha
      split at h
      · rename_i n hn
        simp only [Option.some.injEq] at h; subst h
        refine ⟨_, .agg ((hR.drop off).take n), fun w => ?_⟩
        unfold part
        simp only [Sem.run_bind, run_isAggV hu, ha, Result.andThen_ok, if_true, run_sizeV hn, Sem.run_pure]
        congr 2
        apply Array.ext'
        simp [Array.toList_extract, List.drop_take]
      · cases h
    · rename_i ha
      obtain ⟨y, hy, hv⟩ := hR.get h
      refine ⟨y, hv, fun w => ?_⟩
      unfold part
      simp only [Sem.run_bind, run_isAggV hu, ha, Result.andThen_ok, Bool.false_eq_true, if_false, List.getElem?_toArray, hy]
      rfl
  · cases h
def fieldV (P : Program) (t : TypeId) (cs : List V) (j : Nat) : Option V :=
  match P.underlying t with
  | some (.struct fs) => match fs.toList[j]? with
    | some f => partV P f.type cs f.offset
    | none => none
  | _ => none
def offV (P : Program) (t : TypeId) (j : Nat) : Option Nat :=
  match P.underlying t with
  | some (.struct fs) => match fs.toList[j]? with
    | some f => match sizeV P f.type with
      | some 0 => none
      | some (_ + 1) => some f.offset
      | none => none
    | none => none
  | _ => none

/-! ### operands -/
abbrev Rho := Operand → Option V
def evO (sl : PT V) : Rho
  | .tmp t => sl.get t
  | .const x => some (.lit x)
  | .func f => some (.fn f [] [])
  | .global g => some (.lit (.pointer (some ⟨g, 0, none⟩)))
structure SlR (R : Rel) (sl : PT V) (nt : Nat) (a : Act) : Prop where
  size : a.tmps.size = nt
  slots : ∀ t v, sl.get t = some v → VR R v (a.tmps.getD t undef)
def RhoR (R : Rel) (ρ : Rho) (a : Act) : Prop := ∀ x v, ρ x = some v → VR R v (a.eval x)
theorem SlR.rho {R : Rel} {sl : PT V} {nt : Nat} {a : Act} (h : SlR R sl nt a) : RhoR R (evO sl) a := by
  intro x v hx
  cases x with
  | tmp t => exact h.slots t v hx
  | const x => simp only [evO, Option.some.injEq] at hx; subst hx; exact .lit _
  | func f => simp only [evO, Option.some.injEq] at hx; subst hx; exact .fn f .nil .nil
  | global g => simp only [evO, Option.some.injEq] at hx; subst hx; exact .lit _
theorem SlR.mono {R R' : Rel} {sl : PT V} {nt : Nat} {a : Act} (hr : ∀ i b c, R i b c → R' i b c) (h : SlR R sl nt a) : SlR R' sl nt a := ⟨h.size, fun t v x => (h.slots t v x).mono hr⟩
theorem SlR.put {R : Rel} {sl : PT V} {nt : Nat} {a : Act} (h : SlR R sl nt a) {d : Nat} (hd : Nat.ble (Nat.succ d) nt = true) {v : V} {y : Value} (hv : VR R v y) : SlR R (sl.put d (some v)) nt (a.put (some d) y) := by
  have hd := Nat.le_of_ble_eq_true hd
  have hs := h.size
  refine ⟨by simp [Act.put, hs], fun t u ht => ?_⟩
  rw [PT.get_put] at ht
  split at ht
  · rename_i e
    subst e
    simp only [Option.some.injEq] at ht; subst ht
    simp only [Act.put, Array.getD_eq_getD_getElem?]
    rw [Array.getElem?_setIfInBounds_self_of_lt (by omega)]
    exact hv
  · rename_i e
    have := h.slots t u ht
    simp only [Act.put, Array.getD_eq_getD_getElem?] at this ⊢
    rw [Array.getElem?_setIfInBounds_ne (fun e' => e e'.symm)]
    exact this
def rhoV (ρ : Rho) (x : Operand) : Value :=
  match ρ x with
  | some v => match toVal v with
    | some y => y
    | none => undef
  | none => undef
def allVal (ρ : Rho) : List Operand → Bool
  | [] => true
  | x :: l => match ρ x with
    | some v => match toVal v with
      | some _ => allVal ρ l
      | none => false
    | none => false
theorem allVal_ok {R : Rel} {ρ : Rho} {a : Act} (hr : RhoR R ρ a) : ∀ {l : List Operand}, allVal ρ l = true → ∀ x ∈ l, a.eval x = rhoV ρ x
  | [], _, _, h => by cases h
  | y :: l, h, x, hx => by
    simp only [allVal] at h
    split at h
    · rename_i v hv
      split at h
      · rename_i z hz
        rcases List.mem_cons.1 hx with rfl | hx
        · unfold rhoV
          rw [hv]
          simp only [hz]
          exact toVal_ok (hr _ _ hv) hz
        · exact allVal_ok hr h x hx
      · cases h
    · cases h
def evD (P : Program) (ρ : Rho) (o : Oper) : Option V :=
  match o.op with
  | .select _ _ => none
  | _ => match allVal ρ o.op.operands.toList with
    | true => match pr P (execOp (rhoV ρ) o) with
      | some (.value y) => some (.lit y)
      | _ => none
    | false => none
def vals (ρ : Rho) : List Operand → Option (List V)
  | [] => some []
  | x :: l => match ρ x with
    | some v => match vals ρ l with
      | some m => some (v :: m)
      | none => none
    | none => none
theorem vals_ok {R : Rel} {ρ : Rho} {a : Act} (hr : RhoR R ρ a) : ∀ {l : List Operand} {vs : List V}, vals ρ l = some vs → VRs R vs (l.map a.eval)
  | [], vs, h => by simp [vals] at h; subst h; exact .nil
  | x :: l, vs, h => by
    simp only [vals] at h
    split at h
    · rename_i v hv
      split at h
      · rename_i m hm
        simp only [Option.some.injEq] at h; subst h
        exact .cons (hr _ _ hv) (vals_ok hr hm)
      · cases h
    · cases h
/-! parts -/
def layV (cs : List V) (off : Nat) (u : List V) : List V := cs.take off ++ u ++ cs.drop (off + u.length)
def fillV (place : Nat → Option (Nat × Nat)) (cs : List V) : List (Nat × List V) → Option (List V)
  | [] => some cs
  | (i, u) :: rest => match place i with
    | some (off, n) => match Nat.beq u.length n with
      | true => match Nat.ble (Nat.add off u.length) cs.length with
        | true => fillV place (layV cs off u) rest
        | false => none
      | false => none
    | none => none
def partsV (ρ : Rho) : List (Nat × Operand) → Option (List (Nat × List V))
  | [] => some []
  | (i, x) :: l => match ρ x with
    | some v => match partsV ρ l with
      | some m => some ((i, v.cells) :: m)
      | none => none
    | none => none
inductive PR (R : Rel) : List (Nat × List V) → List (Nat × Value) → Prop
  | nil : PR R [] []
  | cons {i : Nat} {u : List V} {y : Value} {us : List (Nat × List V)} {ys : List (Nat × Value)} (h : VRs R u y.cells.toList) (t : PR R us ys) : PR R ((i, u) :: us) ((i, y) :: ys)
theorem partsV_ok {R : Rel} {ρ : Rho} {a : Act} (hr : RhoR R ρ a) : ∀ {l : List (Nat × Operand)} {ps : List (Nat × List V)}, partsV ρ l = some ps → PR R ps (l.map fun p => (p.1, a.eval p.2))
  | [], ps, h => by simp [partsV] at h; subst h; exact .nil
  | (i, x) :: l, ps, h => by
    simp only [partsV] at h
    split at h
    · rename_i v hv
      split at h
      · rename_i m hm
        simp only [Option.some.injEq] at h; subst h
        exact .cons (hr _ _ hv).cells (partsV_ok hr hm)
      · cases h
    · cases h
theorem foldl_set (u : List Value) : ∀ (off k : Nat) (cs : Array Value), off + k + u.length ≤ cs.size → (u.zipIdx k).foldl (fun cs (p : Value × Nat) => cs.setIfInBounds (off + p.2) p.1) cs = (cs.toList.take (off + k) ++ u ++ cs.toList.drop (off + k + u.length)).toArray := by
  induction u with
  | nil => intro off k cs _; simp
  | cons x u ih =>
    intro off k cs h
    simp only [List.length_cons] at h
    rw [List.zipIdx_cons, List.foldl_cons, ih off (k + 1) _ (by simp; omega)]
    simp only [Array.toList_setIfInBounds]
    congr 1
    rw [← Nat.add_assoc, List.take_succ_eq_append_getElem (by simp; omega), List.take_set_of_le (by omega), List.drop_set_of_lt (by omega)]
    simp [List.append_assoc, Nat.add_assoc, Nat.add_comm 1]
theorem layV_ok {R : Rel} {cs u : List V} {ys zs : List Value} (h : VRs R cs ys) (k : VRs R u zs) (off : Nat) : VRs R (layV cs off u) (ys.take off ++ zs ++ ys.drop (off + zs.length)) := by
  unfold layV
  rw [k.length]
  exact ((h.take off).append k).append (h.drop _)
theorem fillV_ok {R : Rel} {place : Nat → Option (Nat × Nat)} : ∀ {ps : List (Nat × List V)} {qs : List (Nat × Value)} {cs cs' : List V} {ys : List Value}, PR R ps qs → VRs R cs ys → fillV place cs ps = some cs' → ∃ ys', VRs R cs' ys' ∧ Instr.fill place ys.toArray qs = some ys'.toArray
  | _, _, cs, cs', ys, .nil, hc, h => by simp [fillV] at h; subst h; exact ⟨ys, hc, rfl⟩
  | _, _, cs, cs', ys, .cons (i := i) (u := u) (y := y) hu t, hc, h => by
    simp only [fillV] at h
    simp only [Instr.fill]
    cases hp : place i with
    | none => simp [hp] at h
    | some q =>
      obtain ⟨off, n⟩ := q
      simp only [hp] at h
      split at h
      · rename_i hb1
        split at h
        · rename_i hb2
          have h1 := Nat.eq_of_beq_eq_true hb1
          have h2 : off + u.length ≤ cs.length := Nat.le_of_ble_eq_true hb2
          have l1 := hu.length
          have l2 := hc.length
          simp only [Array.length_toList] at l1
          have hcond : (decide (y.cells.size ≠ n) || decide (off + y.cells.size > ys.toArray.size)) = false := by
            simp only [Bool.or_eq_false_iff, decide_eq_false_iff_not, ne_eq, Classical.not_not, Nat.not_lt, gt_iff_lt, List.size_toArray]
            exact ⟨by omega, by omega⟩
          simp only
          rw [if_neg (by rw [hcond]; simp)]
          have := foldl_set y.cells.toList off 0 ys.toArray (by simp only [Array.length_toList, List.size_toArray]; omega)
          rw [← Array.foldl_toList, Array.toList_zipIdx, this]
          exact fillV_ok t (layV_ok hc hu off) h
        · cases h
      · cases h
def placesV (P : Program) : List Field → Option (List (Nat × Nat))
  | [] => some []
  | f :: l => match sizeV P f.type with
    | some n => match placesV P l with
      | some m => some ((f.offset, n) :: m)
      | none => none
    | none => none
theorem placesV_ok {P : Program} : ∀ {l : List Field} {m : List (Nat × Nat)}, placesV P l = some m → ∀ w, (l.mapM fun (f : Field) => do pure (f.offset, ← sizeOf f.type)).run P w = .ok m w
  | [], m, h, w => by simp [placesV] at h; subst h; simp
  | f :: l, m, h, w => by
    simp only [placesV] at h
    split at h
    · rename_i n hn
      split at h
      · rename_i m' hm
        simp only [Option.some.injEq] at h; subst h
        have := placesV_ok hm w
        simp only [List.mapM_cons, Sem.run_bind, run_sizeV hn, Result.andThen_ok, Sem.run_pure, this]
      · cases h
    · cases h
def buildV (P : Program) (ρ : Rho) (t : TypeId) (parts : List (Nat × Operand)) : Option V :=
  match zeroV P t, partsV ρ parts with
  | some z, some ps => match P.underlying t with
    | some (.struct fs) => match placesV P fs.toList with
      | some pl => match fillV (fun i => pl[i]?) (z.cells.toList.map .lit) ps with
        | some cs => some (.agg cs)
        | none => none
      | none => none
    | some (.array _ e) => match sizeV P e with
      | some n => match fillV (fun i => some (i * n, n)) (z.cells.toList.map .lit) ps with
        | some cs => some (.agg cs)
        | none => none
      | none => none
    | _ => none
  | _, _ => none
/-! slices' bounds -/
def natOf : Option V → Option Nat
  | some (.lit (.int _ n)) => match n with
    | .ofNat k => some k
    | .negSucc _ => none
  | _ => none
def bndO (ρ : Rho) (x : Option Operand) (d : Nat) : Option Nat :=
  match x with
  | none => some d
  | some x => natOf (ρ x)
def isNone' {α : Type} : Option α → Bool
  | none => true
  | some _ => false
/-- low, high, max, all within. -/
def bndsV (ρ : Rho) (len cap : Nat) (lo hi mx : Option Operand) : Option (Nat × Nat × Nat) :=
  match isNone' mx || !isNone' hi with
  | true => match bndO ρ lo 0, bndO ρ hi len, bndO ρ mx cap with
    | some l, some h, some m => match Nat.ble l h with
      | true => match Nat.ble h m with
        | true => match Nat.ble m cap with
          | true => some (l, h, m)
          | false => none
        | false => none
      | false => none
    | _, _, _ => none
  | false => none
/-! ### library functions without a body -/
theorem cmp_next : (Extern.allNextRows.lookup "internal/bytealg.abigen_runtime_cmpstring").isNone = true := by kernel_rfl
theorem cmp_gen : (Extern.allGenericRows.lookup "internal/bytealg.abigen_runtime_cmpstring").isNone = true := by kernel_rfl
theorem cmp_typ : (Extern.allTypedRows.lookup "internal/bytealg.abigen_runtime_cmpstring").isNone = true := by kernel_rfl
theorem nil_next : (Extern.allNextRows.lookup "").isNone = true := by kernel_rfl
theorem cmp_row : Extern.allRows.lookup "internal/bytealg.abigen_runtime_cmpstring" = some Extern.BytealgCompare.compare := by kernel_rfl
theorem run_cmp {P : Program} {g : FuncId} {fn : Func} (hf : P.funcs[g]? = some fn) (hb : fn.body = none) (hn : fn.name = "internal/bytealg.abigen_runtime_cmpstring") (ho : fn.origin = "") (a b : ByteArray) (w : World) :
    (callFunc g #[.string a, .string b]).run P w = .ok (.value (.int .i64 (Extern.BytealgCompare.cmp a b))) w := by
  have h1 : Extern.findNext fn = none := by
    unfold Extern.findNext
    simp only [hn, ho, Option.isNone_iff_eq_none.1 cmp_next, Option.isNone_iff_eq_none.1 nil_next]
    rfl
  have h2 : Extern.find fn = some Extern.BytealgCompare.compare := by
    unfold Extern.find
    simp only [hn, ho, Option.isNone_iff_eq_none.1 cmp_gen, Option.isNone_iff_eq_none.1 cmp_typ, cmp_row]
    rfl
  have h3 : (fn.name == "runtime.NumGoroutine") = false := by rw [hn]; decide
  have h4 : (Extern.BytealgCompare.compare #[.string a, .string b]).run P w = .ok (.int .i64 (Extern.BytealgCompare.cmp a b)) w := rfl
  simp only [callFunc, program, Sem.run_bind, Sem.run, Result.andThen_ok, hf, h3, hb, h1, h2, mark, Option.isNone_none, Bool.false_eq_true, if_false, if_true]
  show ((Sem.run P (Extern.BytealgCompare.compare #[.string a, .string b]) w).andThen fun y w' => Result.ok (Next.value y) w') = _
  rw [h4]
  rfl
def extV (P : Program) (g : FuncId) (l : List V) : Option V :=
  match P.funcs[g]? with
  | some fn => match fn.body with
    | none => match l with
      | [.lit (.string a), .lit (.string b)] => match fn.name == "internal/bytealg.abigen_runtime_cmpstring" && fn.origin == "" with
        | true => some (.lit (.int .i64 (Extern.BytealgCompare.cmp a b)))
        | false => none
      | _ => none
    | some _ => none
  | none => none
theorem extV_ok {R : Rel} {P : Program} {g : FuncId} {l : List V} {v : V} {ys : List Value} (h : extV P g l = some v) (hl : VRs R l ys) : ∃ y, VR R v y ∧ ∀ w, (callFunc g ys.toArray).run P w = .ok (.value y) w := by
  unfold extV at h
  split at h
  · rename_i fn hf
    split at h
    · rename_i hb
      split at h
      · rename_i a b
        split at h
        · rename_i hn
          simp only [Option.some.injEq] at h; subst h
          rw [Bool.and_eq_true] at hn
          cases hl with
          | cons h1 t =>
            cases t with
            | cons h2 t =>
              cases t with
              | nil =>
                rw [h1.lit_inv, h2.lit_inv]
                exact ⟨_, .lit _, fun w => run_cmp hf hb (eq_of_beq hn.1) (eq_of_beq hn.2) a b w⟩
        · cases h
      · cases h
    · cases h
  · cases h
def evP0 (P : Program) (ρ : Rho) (o : Oper) : Option V :=
  match o.op with
  | .move x | .assign x => ρ x
  | .pick c a b => match ρ c with
    | some (.lit (.bool true)) => ρ a
    | some (.lit (.bool false)) => ρ b
    | _ => none
  | .extract x i => match ρ x with
    | some (.tup vs) => vs[i]?
    | some (.lit (.tuple vs)) => match vs.toList[i]? with
      | some y => some (.lit y)
      | none => none
    | _ => none
  | .field t x j => match ρ x with
    | some (.agg cs) => fieldV P t cs j
    | _ => evD P ρ o
  | .build t parts => buildV P ρ t parts.toList
  | .makeFunc (.func g) first caps => match vals ρ first.toList, vals ρ caps.toList with
    | some l, some m => some (.fn g l m)
    | _, _ => none
  | .nilCheck x => match ρ x with
    | some (.ptr id off) => some (.ptr id off)
    | some (.fn g l m) => some (.fn g l m)
    | _ => evD P ρ o
  | .binOp op t x y _ => match op with
    | .eql => match ρ x, ρ y with
      | some (.ptr _ _), some (.lit (.pointer none)) => match P.underlying t with
        | some (.pointer _) => some (.lit (.bool false))
        | _ => none
      | some (.lit (.pointer none)), some (.ptr _ _) => match P.underlying t with
        | some (.pointer _) => some (.lit (.bool false))
        | _ => none
      | some (.sl _ _ _ _), some (.lit (.slice none _ _)) => match P.underlying t with
        | some (.slice _) => some (.lit (.bool false))
        | _ => none
      | some (.osl _ _ _ n), some (.lit (.slice none _ _)) => match P.underlying t with
        | some (.slice _) => match Nat.ble 1 n with
          | true => some (.lit (.bool false))
          | false => none
        | _ => none
      | some (.mp _), some (.lit (.map none)) => match P.underlying t with
        | some (.map _ _) => some (.lit (.bool false))
        | _ => none
      | _, _ => evD P ρ o
    | .neq => match ρ x, ρ y with
      | some (.ptr _ _), some (.lit (.pointer none)) => match P.underlying t with
        | some (.pointer _) => some (.lit (.bool true))
        | _ => none
      | some (.lit (.pointer none)), some (.ptr _ _) => match P.underlying t with
        | some (.pointer _) => some (.lit (.bool true))
        | _ => none
      | some (.sl _ _ _ _), some (.lit (.slice none _ _)) => match P.underlying t with
        | some (.slice _) => some (.lit (.bool true))
        | _ => none
      | some (.osl _ _ _ n), some (.lit (.slice none _ _)) => match P.underlying t with
        | some (.slice _) => match Nat.ble 1 n with
          | true => some (.lit (.bool true))
          | false => none
        | _ => none
      | some (.mp _), some (.lit (.map none)) => match P.underlying t with
        | some (.map _ _) => some (.lit (.bool true))
        | _ => none
      | _, _ => evD P ρ o
    | _ => evD P ρ o
  | .fieldAddr t x j => match ρ x with
    | some (.ptr id off) => match offV P t j with
      | some k => some (.ptr id (Nat.add off k))
      | none => none
    | _ => evD P ρ o
  | .indexAddr t x i => match ρ x with
    | some (.sl id off n c) => match P.underlying t, natOf (ρ i) with
      | some (.slice e), some k => match sizeV P e, Nat.ble (Nat.succ k) n with
        | some z, true => some (.ptr id (Nat.add off (Nat.mul k z)))
        | _, _ => none
      | _, _ => none
    | some (.osl id j z' n) => match P.underlying t, natOf (ρ i) with
      | some (.slice e), some k => match sizeV P e, Nat.ble (Nat.succ k) n with
        | some z, true => some (.ptr id (Nat.add (Nat.mul j z') (Nat.mul k z)))
        | _, _ => none
      | _, _ => none
    | some (.ptr id off) => match P.underlying t, natOf (ρ i) with
      | some (.array n e), some k => match sizeV P e, Nat.ble (Nat.succ k) n with
        | some z, true => some (.ptr id (Nat.add off (Nat.mul k z)))
        | _, _ => none
      | _, _ => none
    | _ => evD P ρ o
  | .slice t x lo hi mx => match ρ x with
    | some (.sl id off n c) => match P.underlying t with
      | some (.slice e) => match bndsV ρ n c lo hi mx, sizeV P e with
        | some (l, h, m), some z => some (.sl id (match Nat.beq m l with | true => off | false => Nat.add off (Nat.mul l z)) (Nat.sub h l) (Nat.sub m l))
        | _, _ => none
      | _ => none
    | some (.osl id i z' n) => match P.underlying t with
      | some (.slice e) => match bndsV ρ n n lo hi mx, sizeV P e with
        | some (l, h, m), some z => match Nat.beq z z', Nat.ble (Nat.succ l) n || Nat.beq l 0 with
          | true, true => match isNone' mx with
            | true => some (.osl id (Nat.add i l) z (Nat.sub h l))
            | false => match Nat.ble 1 n && (Nat.ble (Nat.succ l) m || Nat.beq l 0) with
              | true => some (.sl id (Nat.mul (Nat.add i l) z) (Nat.sub h l) (Nat.sub m l))
              | false => none
          | _, _ => none
        | _, _ => none
      | _ => none
    | some (.ptr id off) => match P.underlying t with
      | some (.array k e) => match bndsV ρ k k lo hi mx, sizeV P e with
        | some (l, h, m), some z => some (.sl id (match Nat.beq m l with | true => off | false => Nat.add off (Nat.mul l z)) (Nat.sub h l) (Nat.sub m l))
        | _, _ => none
      | _ => none
    | _ => evD P ρ o
  | .call { callee, args, argTypes } => match callee with
    | .builtin .len => match args.toList with
      | [x] => match ρ x with
        | some (.sl _ _ n _) => match argTypes.toList with
          | [t] => match P.underlying t with
            | some (.slice _) => some (.lit (.int .i64 (.ofNat n)))
            | _ => none
          | _ => none
        | some (.osl _ _ _ n) => match argTypes.toList with
          | [t] => match P.underlying t with
            | some (.slice _) => some (.lit (.int .i64 (.ofNat n)))
            | _ => none
          | _ => none
        | _ => evD P ρ o
      | _ => none
    | .builtin .cap => match args.toList with
      | [x] => match ρ x with
        | some (.sl _ _ _ n) => match argTypes.toList with
          | [t] => match P.underlying t with
            | some (.slice _) => some (.lit (.int .i64 (.ofNat n)))
            | _ => none
          | _ => none
        | _ => evD P ρ o
      | _ => none
    | .builtin .min => evD P ρ o
    | .builtin .max => evD P ρ o
    | .value f => match ρ f with
      | some (.fn g [] []) => match vals ρ args.toList with
        | some l => extV P g l
        | none => none
      | _ => none
    | _ => none
  | .unOp _ _ _ | .convert _ _ _ | .index _ _ _ | .makeInterface _ _ | .waits _ => evD P ρ o
  | _ => none

def evP_pick (P : Program) (ρ : Rho) (o : Oper) (c : Operand) (a : Operand) (b : Operand) : Option V := match ρ c with
    | some (.lit (.bool true)) => ρ a
    | some (.lit (.bool false)) => ρ b
    | _ => none
def evP_extract (P : Program) (ρ : Rho) (o : Oper) (x : Operand) (i : Nat) : Option V := match ρ x with
    | some (.tup vs) => vs[i]?
    | some (.lit (.tuple vs)) => match vs.toList[i]? with
      | some y => some (.lit y)
      | none => none
    | _ => none
def evP_field (P : Program) (ρ : Rho) (o : Oper) (t : TypeId) (x : Operand) (j : Nat) : Option V := match ρ x with
    | some (.agg cs) => fieldV P t cs j
    | _ => evD P ρ o
def evP_makeFunc (P : Program) (ρ : Rho) (o : Oper) (g : FuncId) (first : Array Operand) (caps : Array Operand) : Option V := match vals ρ first.toList, vals ρ caps.toList with
    | some l, some m => some (.fn g l m)
    | _, _ => none
def evP_nilCheck (P : Program) (ρ : Rho) (o : Oper) (x : Operand) : Option V := match ρ x with
    | some (.ptr id off) => some (.ptr id off)
    | some (.fn g l m) => some (.fn g l m)
    | _ => evD P ρ o
def evP_binOp (P : Program) (ρ : Rho) (o : Oper) (op : BinOp) (t : TypeId) (x : Operand) (y : Operand) : Option V := match op with
    | .eql => match ρ x, ρ y with
      | some (.ptr _ _), some (.lit (.pointer none)) => match P.underlying t with
        | some (.pointer _) => some (.lit (.bool false))
        | _ => none
      | some (.lit (.pointer none)), some (.ptr _ _) => match P.underlying t with
        | some (.pointer _) => some (.lit (.bool false))
        | _ => none
      | some (.sl _ _ _ _), some (.lit (.slice none _ _)) => match P.underlying t with
        | some (.slice _) => some (.lit (.bool false))
        | _ => none
      | some (.osl _ _ _ n), some (.lit (.slice none _ _)) => match P.underlying t with
        | some (.slice _) => match Nat.ble 1 n with
          | true => some (.lit (.bool false))
          | false => none
        | _ => none
      | some (.mp _), some (.lit (.map none)) => match P.underlying t with
        | some (.map _ _) => some (.lit (.bool false))
        | _ => none
      | _, _ => evD P ρ o
    | .neq => match ρ x, ρ y with
      | some (.ptr _ _), some (.lit (.pointer none)) => match P.underlying t with
        | some (.pointer _) => some (.lit (.bool true))
        | _ => none
      | some (.lit (.pointer none)), some (.ptr _ _) => match P.underlying t with
        | some (.pointer _) => some (.lit (.bool true))
        | _ => none
      | some (.sl _ _ _ _), some (.lit (.slice none _ _)) => match P.underlying t with
        | some (.slice _) => some (.lit (.bool true))
        | _ => none
      | some (.osl _ _ _ n), some (.lit (.slice none _ _)) => match P.underlying t with
        | some (.slice _) => match Nat.ble 1 n with
          | true => some (.lit (.bool true))
          | false => none
        | _ => none
      | some (.mp _), some (.lit (.map none)) => match P.underlying t with
        | some (.map _ _) => some (.lit (.bool true))
        | _ => none
      | _, _ => evD P ρ o
    | _ => evD P ρ o
def evP_fieldAddr (P : Program) (ρ : Rho) (o : Oper) (t : TypeId) (x : Operand) (j : Nat) : Option V := match ρ x with
    | some (.ptr id off) => match offV P t j with
      | some k => some (.ptr id (Nat.add off k))
      | none => none
    | _ => evD P ρ o
def evP_indexAddr (P : Program) (ρ : Rho) (o : Oper) (t : TypeId) (x : Operand) (i : Operand) : Option V := match ρ x with
    | some (.sl id off n c) => match P.underlying t, natOf (ρ i) with
      | some (.slice e), some k => match sizeV P e, Nat.ble (Nat.succ k) n with
        | some z, true => some (.ptr id (Nat.add off (Nat.mul k z)))
        | _, _ => none
      | _, _ => none
    | some (.osl id j z' n) => match P.underlying t, natOf (ρ i) with
      | some (.slice e), some k => match sizeV P e, Nat.ble (Nat.succ k) n with
        | some z, true => some (.ptr id (Nat.add (Nat.mul j z') (Nat.mul k z)))
        | _, _ => none
      | _, _ => none
    | some (.ptr id off) => match P.underlying t, natOf (ρ i) with
      | some (.array n e), some k => match sizeV P e, Nat.ble (Nat.succ k) n with
        | some z, true => some (.ptr id (Nat.add off (Nat.mul k z)))
        | _, _ => none
      | _, _ => none
    | _ => evD P ρ o
def evP_slice (P : Program) (ρ : Rho) (o : Oper) (t : TypeId) (x : Operand) (lo : Option Operand) (hi : Option Operand) (mx : Option Operand) : Option V := match ρ x with
    | some (.sl id off n c) => match P.underlying t with
      | some (.slice e) => match bndsV ρ n c lo hi mx, sizeV P e with
        | some (l, h, m), some z => some (.sl id (match Nat.beq m l with | true => off | false => Nat.add off (Nat.mul l z)) (Nat.sub h l) (Nat.sub m l))
        | _, _ => none
      | _ => none
    | some (.osl id i z' n) => match P.underlying t with
      | some (.slice e) => match bndsV ρ n n lo hi mx, sizeV P e with
        | some (l, h, m), some z => match Nat.beq z z', Nat.ble (Nat.succ l) n || Nat.beq l 0 with
          | true, true => match isNone' mx with
            | true => some (.osl id (Nat.add i l) z (Nat.sub h l))
            | false => match Nat.ble 1 n && (Nat.ble (Nat.succ l) m || Nat.beq l 0) with
              | true => some (.sl id (Nat.mul (Nat.add i l) z) (Nat.sub h l) (Nat.sub m l))
              | false => none
          | _, _ => none
        | _, _ => none
      | _ => none
    | some (.ptr id off) => match P.underlying t with
      | some (.array k e) => match bndsV ρ k k lo hi mx, sizeV P e with
        | some (l, h, m), some z => some (.sl id (match Nat.beq m l with | true => off | false => Nat.add off (Nat.mul l z)) (Nat.sub h l) (Nat.sub m l))
        | _, _ => none
      | _ => none
    | _ => evD P ρ o
def evP_call (P : Program) (ρ : Rho) (o : Oper) (cl : Call) : Option V := match cl with
  | { callee, args, argTypes } => match callee with
    | .builtin .len => match args.toList with
      | [x] => match ρ x with
        | some (.sl _ _ n _) => match argTypes.toList with
          | [t] => match P.underlying t with
            | some (.slice _) => some (.lit (.int .i64 (.ofNat n)))
            | _ => none
          | _ => none
        | some (.osl _ _ _ n) => match argTypes.toList with
          | [t] => match P.underlying t with
            | some (.slice _) => some (.lit (.int .i64 (.ofNat n)))
            | _ => none
          | _ => none
        | _ => evD P ρ o
      | _ => none
    | .builtin .cap => match args.toList with
      | [x] => match ρ x with
        | some (.sl _ _ _ n) => match argTypes.toList with
          | [t] => match P.underlying t with
            | some (.slice _) => some (.lit (.int .i64 (.ofNat n)))
            | _ => none
          | _ => none
        | _ => evD P ρ o
      | _ => none
    | .builtin .min => evD P ρ o
    | .builtin .max => evD P ρ o
    | .value f => match ρ f with
      | some (.fn g [] []) => match vals ρ args.toList with
        | some l => extV P g l
        | none => none
      | _ => none
    | _ => none
def evP (P : Program) (ρ : Rho) (o : Oper) : Option V :=
  match o.op with
  | .move x | .assign x => ρ x
  | .pick c a b => evP_pick P ρ o c a b
  | .extract x i => evP_extract P ρ o x i
  | .field t x j => evP_field P ρ o t x j
  | .build t parts => buildV P ρ t parts.toList
  | .makeFunc (.func g) first caps => evP_makeFunc P ρ o g first caps
  | .nilCheck x => evP_nilCheck P ρ o x
  | .binOp op t x y _ => evP_binOp P ρ o op t x y
  | .fieldAddr t x j => evP_fieldAddr P ρ o t x j
  | .indexAddr t x i => evP_indexAddr P ρ o t x i
  | .slice t x lo hi mx => evP_slice P ρ o t x lo hi mx
  | .call cl => evP_call P ρ o cl
  | .unOp _ _ _ | .convert _ _ _ | .index _ _ _ | .makeInterface _ _ | .waits _ => evD P ρ o
  | _ => none

theorem evP_eq (P : Program) (ρ : Rho) (o : Oper) : evP P ρ o = evP0 P ρ o := by
  unfold evP evP0
  generalize o.op = p
  cases p with
  | makeFunc f _ _ => cases f <;> rfl
  | _ => rfl
section
variable {P : Program} {R : Rel} {ρ : Rho} {a : Act} {o : Oper}
theorem evD_ok (hr : RhoR R ρ a) {v : V} (h : evD P ρ o = some v) : ∃ y, VR R v y ∧ ∀ w, (execOp a.eval o).run P w = .ok (.value y) w := by
  unfold evD at h
  split at h
  · cases h
  · rename_i hns
    split at h
    · rename_i ha
      split at h
      · rename_i y hy
        simp only [Option.some.injEq] at h; subst h
        refine ⟨y, .lit y, fun w => ?_⟩
        rw [execOp_congr o hns (fun x hx => allVal_ok hr ha x (by simpa using hx))]
        exact pr_run hy w
      · cases h
    · cases h
theorem fieldV_ok {t : TypeId} {cs : List V} {ys : List Value} {j : Nat} {v : V} (hR : VRs R cs ys) (h : fieldV P t cs j = some v) : ∃ y, VR R v y ∧ ∀ w, (Instr.field t (.agg ys.toArray) j).run P w = .ok y w := by
  unfold fieldV at h
  split at h
  · rename_i fs hu
    split at h
    · rename_i f hf
      obtain ⟨y, hy, hrun⟩ := partV_ok hR h
      have hf' : fs[j]? = some f := by simpa using hf
      refine ⟨y, hy, fun w => ?_⟩
      simp only [Instr.field, Sem.run_bind, run_underlying hu, Result.andThen_ok, hf', asAgg, Sem.run_pure, hrun]
    · cases h
  · cases h
theorem buildV_ok (hr : RhoR R ρ a) {t : TypeId} {parts : Array (Nat × Operand)} {v : V} (h : buildV P ρ t parts.toList = some v) : ∃ y, VR R v y ∧ ∀ w, (Instr.build t (parts.map fun (i, x) => (i, a.eval x))).run P w = .ok y w := by
  unfold buildV at h
  split at h
  · rename_i z ps hz hps
    have hP := partsV_ok hr hps
    split at h
    · rename_i fs hu
      split at h
      · rename_i pl hpl
        split at h
        · rename_i cs hcs
          simp only [Option.some.injEq] at h; subst h
          obtain ⟨ys, hys, hfill⟩ := fillV_ok hP (VRs.lits z.cells.toList) hcs
          refine ⟨_, .agg hys, fun w => ?_⟩
          have hm : (fs.mapM fun (f : Field) => do pure (f.offset, ← sizeOf f.type)).run P w = .ok pl.toArray w := by
            rw [Array.mapM_eq_mapM_toList, Sem.run_map, placesV_ok hpl w]
            rfl
          simp only [Instr.build, Sem.run_bind, run_zeroV hz, Result.andThen_ok, run_underlying hu, hm, Array.toList_map]
          simp only [Array.toArray_toList] at hfill
          simp only [List.getElem?_toArray]
          rw [hfill]
          rfl
        · cases h
      · cases h
    · rename_i n0 e hu
      split at h
      · rename_i n hn
        split at h
        · rename_i cs hcs
          simp only [Option.some.injEq] at h; subst h
          obtain ⟨ys, hys, hfill⟩ := fillV_ok hP (VRs.lits z.cells.toList) hcs
          refine ⟨_, .agg hys, fun w => ?_⟩
          simp only [Instr.build, Sem.run_bind, run_zeroV hz, Result.andThen_ok, run_underlying hu, run_sizeV hn, Array.toList_map]
          simp only [Array.toArray_toList] at hfill
          rw [hfill]
          rfl
        · cases h
      · cases h
    · cases h
  · cases h
theorem natOf_ok (hr : RhoR R ρ a) {x : Operand} {k : Nat} (h : natOf (ρ x) = some k) : ∃ ik, a.eval x = .int ik (k : Int) := by
  unfold natOf at h
  split at h
  · rename_i ik n hx
    split at h
    · simp only [Option.some.injEq] at h; subst h
      exact ⟨ik, (hr _ _ hx).lit_inv⟩
    · cases h
  · cases h
theorem run_sliceBound {x : Value} {ik : IntKind} {k y : Nat} (hx : x = .int ik (k : Int)) (h : k ≤ y) (code : BoundsCode) (w : World) : (Instr.sliceBound x y code).run P w = .ok k w := by
  subst hx
  simp only [Instr.sliceBound, asIntOf, Sem.run_bind, Sem.run_pure, Result.andThen_ok]
  rw [if_pos ⟨by omega, by omega⟩]
  simp
theorem bndsV_ok (hr : RhoR R ρ a) {len cap l h m : Nat} {lo hi mx : Option Operand} (hb : bndsV ρ len cap lo hi mx = some (l, h, m)) (cap' : Nat) (hc : cap ≤ cap') (hcap : mx = none → len ≤ cap → True) (isSlice : Bool) (w : World) :
    l ≤ h ∧ h ≤ m ∧ m ≤ cap ∧ (mx = none → m = cap) ∧ (Instr.sliceBounds isSlice len cap' (lo.map a.eval) (hi.map a.eval) (mx.map a.eval)).run P w = .ok (l, h, if mx.isSome then m else cap') w := by
  unfold bndsV at hb
  split at hb
  · rename_i h0
    split at hb
    · rename_i l' h' m' h1 h2 h3
      split at hb
      · rename_i b1
        split at hb
        · rename_i b2
          split at hb
          · rename_i b3
            simp only [Option.some.injEq, Prod.mk.injEq] at hb
            obtain ⟨rfl, rfl, rfl⟩ := hb
            have b1 := Nat.le_of_ble_eq_true b1
            have b2 := Nat.le_of_ble_eq_true b2
            have b3 := Nat.le_of_ble_eq_true b3
            refine ⟨b1, b2, b3, fun e => by subst e; simp [bndO] at h3; exact h3.symm, ?_⟩
            have hl : ∀ (c : BoundsCode), ((match lo.map a.eval with | some v => Instr.sliceBound v h' c | none => pure 0 : Sem Nat)).run P w = .ok l' w := by
              intro c
              cases lo with
              | none => simp [bndO] at h1; subst h1; rfl
              | some x =>
                obtain ⟨ik, hx⟩ := natOf_ok hr h1
                exact run_sliceBound hx b1 c w
            cases mx with
            | none =>
              have hm : m' = cap := by simp [bndO] at h3; exact h3.symm
              subst hm
              have hh : ∀ (c : BoundsCode), ((match hi.map a.eval with | some v => Instr.sliceBound v cap' c | none => pure len : Sem Nat)).run P w = .ok h' w := by
                intro c
                cases hi with
                | none => simp [bndO] at h2; subst h2; rfl
                | some x =>
                  obtain ⟨ik, hx⟩ := natOf_ok hr h2
                  exact run_sliceBound hx (by omega) c w
              unfold Instr.sliceBounds
              simp only [Option.map_none, Sem.run_bind, Sem.run_pure, Result.andThen_ok, Option.isSome_none, Bool.false_eq_true, if_false]
              cases hi with
              | none =>
                simp [bndO] at h2
                subst h2
                simp only [Option.map_none, Sem.run_pure, Result.andThen_ok]
                cases lo with
                | none => simp [bndO] at h1; subst h1; simp
                | some x => obtain ⟨ikl, hxl⟩ := natOf_ok hr h1; simp [run_sliceBound hxl b1]
              | some y =>
                obtain ⟨iky, hxy⟩ := natOf_ok hr h2
                have hch : h' ≤ cap' := by omega
                cases lo with
                | none => simp [bndO] at h1; subst h1; simp [run_sliceBound hxy hch]
                | some x => obtain ⟨ikl, hxl⟩ := natOf_ok hr h1; simp [run_sliceBound hxl b1, run_sliceBound hxy hch]
            | some mm =>
              obtain ⟨ik, hx⟩ := natOf_ok hr h3
              cases hi with
              | none => simp [isNone'] at h0
              | some y =>
                obtain ⟨ik2, hy⟩ := natOf_ok hr h2
                unfold Instr.sliceBounds
                simp only [Option.map_some, Sem.run_bind, run_sliceBound hx (show m' ≤ cap' by omega), Result.andThen_ok, run_sliceBound hy b2, Option.isSome_some, if_true]
                cases lo with
                | none => simp [bndO] at h1; subst h1; simp
                | some x => obtain ⟨ikl, hxl⟩ := natOf_ok hr h1; simp [run_sliceBound hxl b1]
          · cases hb
        · cases hb
      · cases hb
    · cases hb
  · cases hb

theorem nileq_ptr {t e : TypeId} (h : P.underlying t = some (.pointer e)) (b : Addr) (w : World) : (Op.equal t (.pointer (some b)) (.pointer none)).run P w = .ok false w := by
  have : ∀ d, (Op.equalIn (d + 1) t (.pointer (some b)) (.pointer none)).run P w = .ok false w := fun d => by simp [Op.equalIn, run_underlying h]
  exact this 9999
theorem nileq_ptr' {t e : TypeId} (h : P.underlying t = some (.pointer e)) (b : Addr) (w : World) : (Op.equal t (.pointer none) (.pointer (some b))).run P w = .ok false w := by
  have : ∀ d, (Op.equalIn (d + 1) t (.pointer none) (.pointer (some b))).run P w = .ok false w := fun d => by simp [Op.equalIn, run_underlying h]
  exact this 9999
theorem nileq_sl {t e : TypeId} (h : P.underlying t = some (.slice e)) (b : Addr) (n c n' c' : Nat) (w : World) : (Op.equal t (.slice (some b) n c) (.slice none n' c')).run P w = .ok false w := by
  have : ∀ d, (Op.equalIn (d + 1) t (.slice (some b) n c) (.slice none n' c')).run P w = .ok false w := fun d => by simp [Op.equalIn, run_underlying h]
  exact this 9999
theorem nileq_map {t k e : TypeId} (h : P.underlying t = some (.map k e)) (b : Nat) (w : World) : (Op.equal t (.map (some b)) (.map none)).run P w = .ok false w := by
  have : ∀ d, (Op.equalIn (d + 1) t (.map (some b)) (.map none)).run P w = .ok false w := fun d => by simp [Op.equalIn, run_underlying h]
  exact this 9999
theorem run_eqOp {t : TypeId} {x y : Value} {r : Bool} (ox oy : Operand) (w : World) (h : ∀ w, (Op.equal t x y).run P w = .ok r w) (hp : (∃ b, x = .pointer b) ∨ (∃ b n c, x = .slice b n c) ∨ ∃ b, x = .map b) (hq : ∀ k n, y ≠ .int k n) :
    ((do eqGuard .eql t ox oy x y; binOp .eql t x y : Sem Value)).run P w = .ok (.bool r) w ∧ ((do eqGuard .neq t ox oy x y; binOp .neq t x y : Sem Value)).run P w = .ok (.bool (!r)) w := by
  rcases hp with ⟨b, rfl⟩ | ⟨b, n, c, rfl⟩ | ⟨b, rfl⟩ <;> (constructor <;> (cases y <;> simp [eqGuard, binOp, h] <;> exact absurd rfl (hq _ _)))
theorem evP_ok (hr : RhoR R ρ a) {v : V} (h : evP P ρ o = some v) : ∃ y, VR R v y ∧ ∀ w, (execOp a.eval o).run P w = .ok (.value y) w := by
  rw [evP_eq] at h
  unfold evP0 at h
  split at h
  · rename_i x ho
    exact ⟨_, hr _ _ h, fun w => by simp [execOp, ho]⟩
  · rename_i x ho
    exact ⟨_, hr _ _ h, fun w => by simp [execOp, ho]⟩
  -- pick
  · rename_i c x y ho
    split at h
    · rename_i hc
      have := (hr _ _ hc).lit_inv
      exact ⟨_, hr _ _ h, fun w => by simp [execOp, ho, this, asBool]⟩
    · rename_i hc
      have := (hr _ _ hc).lit_inv
      exact ⟨_, hr _ _ h, fun w => by simp [execOp, ho, this, asBool]⟩
    · cases h
  -- extract
  · rename_i x i ho
    split at h
    · rename_i vs hx
      have hv := hr _ _ hx
      generalize hy : a.eval x = y at hv
      cases hv with
      | tup hv =>
        obtain ⟨z, hz, hvz⟩ := hv.get h
        exact ⟨z, hvz, fun w => by simp [execOp, ho, hy, Instr.extract, hz]⟩
    · rename_i vs hx
      have := (hr _ _ hx).lit_inv
      split at h
      · rename_i y hy
        simp only [Option.some.injEq] at h; subst h
        have hy' : vs[i]? = some y := by simpa using hy
        exact ⟨y, .lit y, fun w => by simp [execOp, ho, this, Instr.extract, hy']⟩
      · cases h
    · cases h
  -- field
  · rename_i t x j ho
    split at h
    · rename_i cs hx
      have hv := hr _ _ hx
      generalize hy : a.eval x = y at hv
      cases hv with
      | agg hv =>
        obtain ⟨z, hz, hrun⟩ := fieldV_ok hv h
        exact ⟨z, hz, fun w => by simp [execOp, ho, hy, hrun w]⟩
    · exact evD_ok hr h
  -- build
  · rename_i t parts ho
    obtain ⟨z, hz, hrun⟩ := buildV_ok hr h
    exact ⟨z, hz, fun w => by simp only [execOp, ho, Sem.run_bind, hrun w]; rfl⟩
  -- makeFunc
  · rename_i g first caps ho
    split at h
    · rename_i l m h1 h2
      simp only [Option.some.injEq] at h; subst h
      have e1 := vals_ok hr h1
      have e2 := vals_ok hr h2
      refine ⟨_, .fn g e1 e2, fun w => ?_⟩
      have q1 : (first.toList.map a.eval).toArray = first.map a.eval := by apply Array.ext'; simp
      have q2 : (caps.toList.map a.eval).toArray = caps.map a.eval := by apply Array.ext'; simp
      simp [execOp, ho, Instr.makeFunc, q1, q2]
    · cases h
  -- nilCheck
  · rename_i x ho
    split at h
    · rename_i id off hx
      simp only [Option.some.injEq] at h; subst h
      have hv := hr _ _ hx
      generalize hy : a.eval x = y at hv
      refine ⟨y, hv, fun w => ?_⟩
      cases hv
      simp [execOp, ho, hy]
    · rename_i g l m hx
      simp only [Option.some.injEq] at h; subst h
      have hv := hr _ _ hx
      generalize hy : a.eval x = y at hv
      refine ⟨y, hv, fun w => ?_⟩
      cases hv
      simp [execOp, ho, hy]
    · exact evD_ok hr h
  -- binOp
  · rename_i op t x y yt ho
    split at h
    · split at h
      · rename_i id off hx hy
        split at h
        · rename_i e hu
          simp only [Option.some.injEq] at h; subst h
          have hv := hr _ _ hx
          have hw := (hr _ _ hy).lit_inv
          generalize hxx : a.eval x = xx at hv
          cases hv
          exact ⟨_, .lit _, fun w => by simp only [execOp, ho, hxx, hw]; rw [Sem.run_bind, (run_eqOp x y w (nileq_ptr hu _) (.inl ⟨_, rfl⟩) (by intro k n e; cases e)).1]; rfl⟩
        · cases h
      · rename_i id off hx hy
        split at h
        · rename_i e hu
          simp only [Option.some.injEq] at h; subst h
          have hv := hr _ _ hy
          have hw := (hr _ _ hx).lit_inv
          generalize hyy : a.eval y = yy at hv
          cases hv
          exact ⟨_, .lit _, fun w => by simp only [execOp, ho, hyy, hw]; rw [Sem.run_bind, (run_eqOp x y w (nileq_ptr' hu _) (.inl ⟨_, rfl⟩) (by intro k n e; cases e)).1]; rfl⟩
        · cases h
      · rename_i hx hy
        split at h
        · rename_i e hu
          simp only [Option.some.injEq] at h; subst h
          have hv := hr _ _ hx
          have hw := (hr _ _ hy).lit_inv
          generalize hxx : a.eval x = xx at hv
          cases hv
          exact ⟨_, .lit _, fun w => by simp only [execOp, ho, hxx, hw]; rw [Sem.run_bind, (run_eqOp x y w (nileq_sl hu _ _ _ _ _) (.inr (.inl ⟨_, _, _, rfl⟩)) (by intro k n e; cases e)).1]; rfl⟩
        · cases h
      · rename_i hx hy
        split at h
        · rename_i e hu
          split at h
          · rename_i hb1
            simp only [Option.some.injEq] at h; subst h
            have hv := hr _ _ hx
            have hw := (hr _ _ hy).lit_inv
            generalize hxx : a.eval x = xx at hv
            cases hv with
            | osl0 _ _ => cases hb1
            | osl _ _ _ _ hn hp =>
              have hb1 := Nat.le_of_ble_eq_true hb1
              obtain rfl := hp (by omega)
              exact ⟨_, .lit _, fun w => by simp only [execOp, ho, hxx, hw]; rw [Sem.run_bind, (run_eqOp x y w (nileq_sl hu _ _ _ _ _) (.inr (.inl ⟨_, _, _, rfl⟩)) (by intro k n e; cases e)).1]; rfl⟩
          · cases h
        · cases h
      · rename_i hx hy
        split at h
        · rename_i e hu
          simp only [Option.some.injEq] at h; subst h
          have hv := hr _ _ hx
          have hw := (hr _ _ hy).lit_inv
          generalize hxx : a.eval x = xx at hv
          cases hv
          exact ⟨_, .lit _, fun w => by simp only [execOp, ho, hxx, hw]; rw [Sem.run_bind, (run_eqOp x y w (nileq_map hu _) (.inr (.inr ⟨_, rfl⟩)) (by intro k n e; cases e)).1]; rfl⟩
        · cases h
      · exact evD_ok hr h
    · split at h
      · rename_i id off hx hy
        split at h
        · rename_i e hu
          simp only [Option.some.injEq] at h; subst h
          have hv := hr _ _ hx
          have hw := (hr _ _ hy).lit_inv
          generalize hxx : a.eval x = xx at hv
          cases hv
          exact ⟨_, .lit _, fun w => by simp only [execOp, ho, hxx, hw]; rw [Sem.run_bind, (run_eqOp x y w (nileq_ptr hu _) (.inl ⟨_, rfl⟩) (by intro k n e; cases e)).2]; rfl⟩
        · cases h
      · rename_i id off hx hy
        split at h
        · rename_i e hu
          simp only [Option.some.injEq] at h; subst h
          have hv := hr _ _ hy
          have hw := (hr _ _ hx).lit_inv
          generalize hyy : a.eval y = yy at hv
          cases hv
          exact ⟨_, .lit _, fun w => by simp only [execOp, ho, hyy, hw]; rw [Sem.run_bind, (run_eqOp x y w (nileq_ptr' hu _) (.inl ⟨_, rfl⟩) (by intro k n e; cases e)).2]; rfl⟩
        · cases h
      · rename_i hx hy
        split at h
        · rename_i e hu
          simp only [Option.some.injEq] at h; subst h
          have hv := hr _ _ hx
          have hw := (hr _ _ hy).lit_inv
          generalize hxx : a.eval x = xx at hv
          cases hv
          exact ⟨_, .lit _, fun w => by simp only [execOp, ho, hxx, hw]; rw [Sem.run_bind, (run_eqOp x y w (nileq_sl hu _ _ _ _ _) (.inr (.inl ⟨_, _, _, rfl⟩)) (by intro k n e; cases e)).2]; rfl⟩
        · cases h
      · rename_i hx hy
        split at h
        · rename_i e hu
          split at h
          · rename_i hb1
            simp only [Option.some.injEq] at h; subst h
            have hv := hr _ _ hx
            have hw := (hr _ _ hy).lit_inv
            generalize hxx : a.eval x = xx at hv
            cases hv with
            | osl0 _ _ => cases hb1
            | osl _ _ _ _ hn hp =>
              have hb1 := Nat.le_of_ble_eq_true hb1
              obtain rfl := hp (by omega)
              exact ⟨_, .lit _, fun w => by simp only [execOp, ho, hxx, hw]; rw [Sem.run_bind, (run_eqOp x y w (nileq_sl hu _ _ _ _ _) (.inr (.inl ⟨_, _, _, rfl⟩)) (by intro k n e; cases e)).2]; rfl⟩
          · cases h
        · cases h
      · rename_i hx hy
        split at h
        · rename_i e hu
          simp only [Option.some.injEq] at h; subst h
          have hv := hr _ _ hx
          have hw := (hr _ _ hy).lit_inv
          generalize hxx : a.eval x = xx at hv
          cases hv
          exact ⟨_, .lit _, fun w => by simp only [execOp, ho, hxx, hw]; rw [Sem.run_bind, (run_eqOp x y w (nileq_map hu _) (.inr (.inr ⟨_, rfl⟩)) (by intro k n e; cases e)).2]; rfl⟩
        · cases h
      · exact evD_ok hr h
    · exact evD_ok hr h
  -- fieldAddr
  · rename_i t x j ho
    split at h
    · rename_i id off hx
      split at h
      · rename_i k hk
        simp only [Option.some.injEq] at h; subst h
        have hv := hr _ _ hx
        generalize hxx : a.eval x = xx at hv
        cases hv with
        | ptr _ hR =>
          refine ⟨_, .ptr _ hR, fun w => ?_⟩
          unfold offV at hk
          split at hk
          · rename_i fs hu
            split at hk
            · rename_i f hf
              have hf' : fs[j]? = some f := by simpa using hf
              split at hk
              · cases hk
              · rename_i n hn
                simp only [Option.some.injEq] at hk; subst hk
                simp only [execOp, ho, hxx, Instr.fieldAt, Sem.run_bind, run_underlying hu, Result.andThen_ok, hf', Instr.sureAddr, Sem.run_pure, fieldPlace, run_sizeV hn]
                rw [if_neg (Nat.succ_ne_zero _)]
                simp only [Sem.run_pure, Result.andThen_ok, Addr.add_lit]
                rfl
              · cases hk
            · cases hk
          · cases hk
      · cases h
    · exact evD_ok hr h
  -- indexAddr
  · rename_i t x i ho
    split at h
    · rename_i id off n c hx
      split at h
      · rename_i e k hu hk
        split at h
        · rename_i z hz hlt
          simp only [Option.some.injEq] at h; subst h
          have hlt := Nat.le_of_ble_eq_true hlt
          have hv := hr _ _ hx
          obtain ⟨ik, hi⟩ := natOf_ok hr hk
          generalize hxx : a.eval x = xx at hv
          cases hv with
          | sl _ _ _ hR =>
            refine ⟨_, .ptr _ hR, fun w => ?_⟩
            simp only [execOp, ho, hxx, hi, Instr.indexAt, asIntOf, Sem.run_bind, Sem.run_pure, Result.andThen_ok, run_underlying hu]
            rw [if_pos ⟨by omega, by omega⟩]
            simp [run_sizeV hz, Addr.add_lit]
        · cases h
      · cases h
    · rename_i id j z' n hx
      split at h
      · rename_i e k hu hk
        split at h
        · rename_i z hz hlt
          simp only [Option.some.injEq] at h; subst h
          have hlt := Nat.le_of_ble_eq_true hlt
          have hv := hr _ _ hx
          obtain ⟨ik, hi⟩ := natOf_ok hr hk
          generalize hxx : a.eval x = xx at hv
          cases hv with
          | osl0 _ _ => omega
          | osl _ _ _ hR hn hp =>
            obtain rfl := hp (by omega)
            refine ⟨_, .ptr _ hR, fun w => ?_⟩
            simp only [execOp, ho, hxx, hi, Instr.indexAt, asIntOf, Sem.run_bind, Sem.run_pure, Result.andThen_ok, run_underlying hu]
            rw [if_pos ⟨by omega, by omega⟩]
            simp [run_sizeV hz, Addr.add_lit]
        · cases h
      · cases h
    · rename_i id off hx
      split at h
      · rename_i n e k hu hk
        split at h
        · rename_i z hz hlt
          simp only [Option.some.injEq] at h; subst h
          have hlt := Nat.le_of_ble_eq_true hlt
          have hv := hr _ _ hx
          obtain ⟨ik, hi⟩ := natOf_ok hr hk
          generalize hxx : a.eval x = xx at hv
          cases hv with
          | ptr _ hR =>
            refine ⟨_, .ptr _ hR, fun w => ?_⟩
            simp only [execOp, ho, hxx, hi, Instr.indexAt, asIntOf, Sem.run_bind, Sem.run_pure, Result.andThen_ok, run_underlying hu, Instr.sureAddr]
            rw [if_pos ⟨by omega, by omega⟩]
            simp [run_sizeV hz, Addr.add_lit]
        · cases h
      · cases h
    · exact evD_ok hr h
  -- slice
  · rename_i t x lo hi mx ho
    split at h
    · rename_i id off n c hx
      split at h
      · rename_i e hu
        split at h
        · rename_i l hh m z hb hz
          simp only [Option.some.injEq] at h; subst h
          have hv := hr _ _ hx
          generalize hxx : a.eval x = xx at hv
          cases hv with
          | @sl _ bb cc _ _ _ hR =>
            refine ⟨_, .sl _ _ _ hR, fun w => ?_⟩
            obtain ⟨b1, b2, b3, b4, hrun⟩ := bndsV_ok (P := P) hr hb c (Nat.le_refl _) (fun _ _ => trivial) true w
            have hm : (if mx.isSome then m else c) = m := by cases mx with
              | none => simp [b4 rfl]
              | some _ => rfl
            rw [hm] at hrun
            simp only [execOp, ho, hxx, Instr.sliceAt, Instr.slice, Sem.run_bind, run_underlying hu, Result.andThen_ok, hrun, run_sizeV hz, Sem.run_pure]
            cases hbe : Nat.beq m l with
            | true => rw [if_pos (Nat.eq_of_beq_eq_true hbe)]; rfl
            | false =>
              rw [if_neg (fun e => by subst e; simp at hbe)]
              simp [Addr.add_lit]
        · cases h
      · cases h
    · rename_i id i z' n hx
      split at h
      · rename_i e hu
        split at h
        · rename_i l hh m z hb hz
          have hv := hr _ _ hx
          generalize hxx : a.eval x = xx at hv
          split at h
          · rename_i hze hl
            have hze := Nat.eq_of_beq_eq_true hze
            subst hze
            simp only [Bool.or_eq_true] at hl
            cases hv with
            | @osl0 _ bb _ p hR =>
              obtain ⟨b1, b2, b3, b4, -⟩ := bndsV_ok (P := P) hr hb 0 (by omega) (fun _ _ => trivial) true (default : World)
              obtain rfl : l = 0 := by omega
              obtain rfl : hh = 0 := by omega
              split at h
              · rename_i hmx
                have hmx : mx = none := by cases mx with
                  | none => rfl
                  | some _ => simp [isNone'] at hmx
                simp only [Option.some.injEq] at h; subst h
                refine ⟨.slice p 0 0, .osl0 _ hR, fun w => ?_⟩
                obtain ⟨-, -, -, -, hrun⟩ := bndsV_ok (P := P) hr hb 0 (by omega) (fun _ _ => trivial) true w
                subst hmx
                simp only [Option.isSome_none, Bool.false_eq_true, if_false] at hrun
                simp only [execOp, ho, hxx, Instr.sliceAt, Instr.slice, Sem.run_bind, run_underlying hu, Result.andThen_ok, hrun, run_sizeV hz, Sem.run_pure]
                simp
              · rename_i hmx
                split at h
                · rename_i hl2
                  rw [Bool.and_eq_true] at hl2
                  cases hl2.1
                · cases h
            | @osl _ bb cc _ _ _ p hR hn hp =>
              obtain ⟨b1, b2, b3, b4, -⟩ := bndsV_ok (P := P) hr hb (cc - i) (by omega) (fun _ _ => trivial) true (default : World)
              have hll : l < n ∨ l = 0 := by
                rcases hl with hl | hl
                · exact .inl (Nat.le_of_ble_eq_true hl)
                · exact .inr (Nat.eq_of_beq_eq_true hl)
              split at h
              · rename_i hmx
                have hmx : mx = none := by cases mx with
                  | none => rfl
                  | some _ => simp [isNone'] at hmx
                simp only [Option.some.injEq] at h; subst h
                refine ⟨.slice (if cc - i = l then p else p.map (·.add (l * z))) (hh - l) (cc - (i + l)), .osl _ _ _ hR (show i + l + (hh - l) ≤ cc by omega) (fun hlt => ?_), fun w => ?_⟩
                · have hlt : i + l < cc := hlt
                  obtain rfl := hp (by omega)
                  rw [if_neg (by omega)]
                  simp [Addr.add_lit, Nat.add_mul]
                obtain ⟨-, -, -, -, hrun⟩ := bndsV_ok (P := P) hr hb (cc - i) (by omega) (fun _ _ => trivial) true w
                subst hmx
                simp only [Option.isSome_none, Bool.false_eq_true, if_false] at hrun
                simp only [execOp, ho, hxx, Instr.sliceAt, Instr.slice, Sem.run_bind, run_underlying hu, Result.andThen_ok, hrun, run_sizeV hz, Sem.run_pure]
                rw [show cc - i - l = cc - (i + l) by omega]
              · rename_i hmx
                split at h
                · rename_i hl2
                  simp only [Bool.and_eq_true, Bool.or_eq_true] at hl2
                  have hn1 := Nat.le_of_ble_eq_true hl2.1
                  have hl2 := hl2.2
                  obtain rfl := hp (by omega)
                  simp only [Option.some.injEq] at h; subst h
                  refine ⟨_, .sl _ _ _ hR, fun w => ?_⟩
                  obtain ⟨-, -, -, -, hrun⟩ := bndsV_ok (P := P) hr hb (cc - i) (by omega) (fun _ _ => trivial) true w
                  have hm : (if mx.isSome then m else cc - i) = m := by cases mx with
                    | none => simp [isNone'] at hmx
                    | some _ => rfl
                  rw [hm] at hrun
                  simp only [execOp, ho, hxx, Instr.sliceAt, Instr.slice, Sem.run_bind, run_underlying hu, Result.andThen_ok, hrun, run_sizeV hz, Sem.run_pure]
                  have e2 : i * z + l * z = (i + l) * z := (Nat.add_mul _ _ _).symm
                  have hl3 : l < m ∨ l = 0 := by
                    rcases hl2 with hl | hl
                    · exact .inl (Nat.le_of_ble_eq_true hl)
                    · exact .inr (Nat.eq_of_beq_eq_true hl)
                  by_cases hml : m = l
                  · have : l = 0 := by omega
                    subst this
                    rw [if_pos hml]
                    simp
                  · rw [if_neg hml]
                    simp [Addr.add_lit, e2]
                · cases h
          · cases h
        · cases h
      · cases h
    · rename_i id off hx
      split at h
      · rename_i k e hu
        split at h
        · rename_i l hh m z hb hz
          simp only [Option.some.injEq] at h; subst h
          have hv := hr _ _ hx
          generalize hxx : a.eval x = xx at hv
          cases hv with
          | @ptr _ bb cc _ hR =>
            refine ⟨_, .sl _ _ _ hR, fun w => ?_⟩
            obtain ⟨b1, b2, b3, b4, hrun⟩ := bndsV_ok (P := P) hr hb k (Nat.le_refl _) (fun _ _ => trivial) false w
            have hm : (if mx.isSome then m else k) = m := by cases mx with
              | none => simp [b4 rfl]
              | some _ => rfl
            rw [hm] at hrun
            simp only [execOp, ho, hxx, Instr.sliceAt, Instr.sureAddr, Sem.run_bind, run_underlying hu, Result.andThen_ok, hrun, run_sizeV hz, Sem.run_pure]
            cases hbe : Nat.beq m l with
            | true => rw [if_pos (Nat.eq_of_beq_eq_true hbe)]; rfl
            | false =>
              rw [if_neg (fun e => by subst e; simp at hbe)]
              simp [Addr.add_lit]
        · cases h
      · cases h
    · exact evD_ok hr h
  -- calls of len and cap
  · rename_i callee args argTypes ho
    split at h
    · split at h
      · rename_i x hx0
        have hx0 : args = #[x] := by rw [← Array.toList_inj]; exact hx0
        subst hx0
        split at h
        · rename_i id off n c hx
          split at h
          · rename_i t ht
            have ht : argTypes = #[t] := by rw [← Array.toList_inj]; exact ht
            subst ht
            split at h
            · rename_i e hu
              simp only [Option.some.injEq] at h; subst h
              have hv := hr _ _ hx
              generalize hxx : a.eval x = xx at hv
              cases hv
              exact ⟨_, .lit _, fun w => by simp [execOp, ho, hxx, resolve, invoke, builtin, Builtin.len_, run_underlying hu, goInt]⟩
            · cases h
          · cases h
        · rename_i id i z n hx
          split at h
          · rename_i t ht
            have ht : argTypes = #[t] := by rw [← Array.toList_inj]; exact ht
            subst ht
            split at h
            · rename_i e hu
              simp only [Option.some.injEq] at h; subst h
              have hv := hr _ _ hx
              generalize hxx : a.eval x = xx at hv
              cases hv <;>
              exact ⟨_, .lit _, fun w => by simp [execOp, ho, hxx, resolve, invoke, builtin, Builtin.len_, run_underlying hu, goInt]⟩
            · cases h
          · cases h
        · exact evD_ok hr h
      · cases h
    · split at h
      · rename_i x hx0
        have hx0 : args = #[x] := by rw [← Array.toList_inj]; exact hx0
        subst hx0
        split at h
        · rename_i id off n c hx
          split at h
          · rename_i t ht
            have ht : argTypes = #[t] := by rw [← Array.toList_inj]; exact ht
            subst ht
            split at h
            · rename_i e hu
              simp only [Option.some.injEq] at h; subst h
              have hv := hr _ _ hx
              generalize hxx : a.eval x = xx at hv
              cases hv
              exact ⟨_, .lit _, fun w => by simp [execOp, ho, hxx, resolve, invoke, builtin, Builtin.cap_, run_underlying hu, goInt]⟩
            · cases h
          · cases h
        · exact evD_ok hr h
      · cases h
    · exact evD_ok hr h
    · exact evD_ok hr h
    · rename_i f
      split at h
      · rename_i g hf
        split at h
        · rename_i l hl
          obtain ⟨y, hy, hrun⟩ := extV_ok h (vals_ok hr hl)
          have hv := hr _ _ hf
          generalize hff : a.eval f = ff at hv
          cases hv with
          | @fn _ _ _ xs ys h1 h2 =>
            cases h1
            cases h2
            refine ⟨y, hy, fun w => ?_⟩
            have e1 : args.map a.eval = (args.toList.map a.eval).toArray := by apply Array.ext'; simp
            simp only [execOp, ho, resolve, hff, Deferred.ofValue, Sem.run_bind, Sem.run_pure, Result.andThen_ok, invoke, e1]
            have := hrun w
            simpa using this
        · cases h
      · cases h
    · cases h
  all_goals first
    | exact evD_ok hr h
    | cases h
end
end Go.Vm
