/- Reads and new objects: an operation at a time. -/
import Derived.Test.YtdghfmbbohlcgaaGreatDoorVmC
import Derived.Laws.BytesArg
set_option linter.unusedVariables false
set_option linter.unusedSimpArgs false
namespace Go.Vm
open Go.RowKit

def ty1 (b : Bool) (v : V) : Bool → V
  | true => .tup [v, .lit (.bool b)]
  | false => v
def valOf : Option V → Option Value
  | some v => toVal v
  | none => none
def lastN : List Nat → Option Nat
  | [] => none
  | [x] => some x
  | _ :: y :: l => lastN (y :: l)
theorem lastN_eq : ∀ (l : List Nat), lastN l = l.getLast?
  | [] => rfl
  | [x] => rfl
  | x :: y :: l => by simp only [lastN, lastN_eq (y :: l), List.getLast?_cons_cons]
def bornAt : List Ent → Nat → Option Ent
  | [], _ => none
  | e :: l, n => match Nat.beq e.born n with
    | true => some e
    | false => bornAt l n
theorem bornAt_ok {R : Rel} : ∀ {es : List Ent} {ms : List MapEntry} {n : Nat} {e : Ent}, ER R es ms → bornAt es n = some e → ∃ y, ms.find? (·.born == n) = some ⟨e.key, y, e.born⟩ ∧ VR R e.val y
  | _, _, _, _, .nil, h => by cases h
  | _, _, n, e, .cons (e := f) (y := y) hv t, h => by
    simp only [bornAt] at h
    split at h
    · rename_i hb
      simp only [Option.some.injEq] at h; subst h
      have := Nat.eq_of_beq_eq_true hb
      exact ⟨y, by simp [this], hv⟩
    · rename_i hb
      obtain ⟨z, h1, h2⟩ := bornAt_ok t h
      refine ⟨z, ?_, h2⟩
      have hne : (f.born == n) = false := by
        cases hq : (f.born == n) with
        | false => rfl
        | true => rw [beq_iff_eq] at hq; subst hq; simp at hb
      simp only [List.find?_cons, hne]
      exact h1
def lookV (P : Program) (kt et : TypeId) (es : List Ent) (kv : Value) (ok : Bool) : Option V :=
  match pr P (Instr.checkKey es.isEmpty 10000 kt kv) with
  | some _ => match findV P kt kv es with
    | some (some i) => match es[i]? with
      | some e => some (ty1 true e.val ok)
      | none => none
    | some none => match zeroV P et with
      | some z => some (ty1 false (.lit z) ok)
      | none => none
    | none => none
  | none => none
/-- Bytes. -/
def numsV : List V → Option (List Int)
  | [] => some []
  | .lit (.int .u8 n) :: l => match numsV l with
    | some ns => some (n :: ns)
    | none => none
  | _ => none
theorem numsV_ok {R : Rel} : ∀ {cs : List V} {ns : List Int} {ys : List Value}, numsV cs = some ns → VRs R cs ys → ys = ns.map (Value.int .u8)
  | [], ns, ys, h, hv => by
    cases hv
    simp only [numsV, Option.some.injEq] at h; subst h; rfl
  | c :: l, ns, ys, h, hv => by
    cases hv with
    | cons h1 h2 =>
      unfold numsV at h
      split at h
      · rename_i e; cases e
      · rename_i n l' e
        simp only [List.cons.injEq] at e
        obtain ⟨rfl, rfl⟩ := e
        split at h
        · rename_i ns' hns
          simp only [Option.some.injEq] at h; subst h
          rw [numsV_ok hns h2, h1.lit_inv]; rfl
        · cases h
      · cases h
def u8s (P : Program) (src dst : TypeId) : Bool := match P.underlying src, P.underlying dst with
  | some (.slice e), some .string => match P.underlying e with
    | some (.int .u8) => true
    | _ => false
  | _, _ => false
def convC (P : Program) (hp : PT Ob) (src dst : TypeId) (id off n : Nat) : Option V := match hp.get id with
  | some ob => match ob.rcs with
    | some cs => match cut cs off n with
      | some l => match numsV l, u8s P src dst with
        | some ns, true => some (.lit (.string (strOfNums ns)))
        | _, _ => none
      | none => none
    | none => none
  | none => none
/-- Bytes as a string. -/
def convV (P : Program) (hp : PT Ob) (src dst : TypeId) : Option V → Option V
  | some (.sl id off n _) => convC P hp src dst id off n
  | some (.osl id i z n) => match z, n with
    | 1, m + 1 => convC P hp src dst id i (m + 1)
    | _, _ => none
  | _ => none
def evR0 (P : Program) (H : View) (hp : PT Ob) (ρ : Rho) (o : Oper) : Option V :=
  match o.op with
  | .load t x => loadV P H hp t (ρ x)
  | .convert src dst x => convV P hp src dst (ρ x)
  | .lookup t m k ok => match P.underlying t with
    | some (.map kt et) => match valOf (ρ k) with
      | some kv => match ρ m with
        | some (.mp id) => match hp.get id with
          | some (.map es _) => lookV P kt et es kv ok
          | _ => none
        | some (.lit (.map none)) => lookV P kt et [] kv ok
        | _ => none
      | none => none
    | _ => none
  | .entry it => match ρ it with
    | some (.ptr r off) => match off with
      | 0 => match hp.get r with
        | some (.miter (some m) _ seen stepped) => match hp.get m with
          | some (.map es clock) => match Nat.beq clock stepped with
            | true => match lastN seen with
              | some n => match bornAt es n with
                | some e => some (.tup [.lit e.key, e.val])
                | none => none
              | none => none
            | false => none
          | _ => none
        | _ => none
      | _ + 1 => none
    | _ => none
  | .call { callee, args, argTypes } => match callee with
    | .builtin .len => match args.toList with
      | [x] => match ρ x with
        | some (.mp id) => match hp.get id with
          | some (.map es _) => match argTypes.toList with
            | [t] => match P.underlying t with
              | some (.map _ _) => some (.lit (.int .i64 (.ofNat es.length)))
              | _ => none
            | _ => none
          | _ => none
        | _ => none
      | _ => none
    | _ => none
  | _ => none
def evR_lookup (P : Program) (H : View) (hp : PT Ob) (ρ : Rho) (o : Oper) (t : TypeId) (m : Operand) (k : Operand) (ok : Bool) : Option V := match P.underlying t with
    | some (.map kt et) => match valOf (ρ k) with
      | some kv => match ρ m with
        | some (.mp id) => match hp.get id with
          | some (.map es _) => lookV P kt et es kv ok
          | _ => none
        | some (.lit (.map none)) => lookV P kt et [] kv ok
        | _ => none
      | none => none
    | _ => none
def evR_entry (P : Program) (H : View) (hp : PT Ob) (ρ : Rho) (o : Oper) (it : Operand) : Option V := match ρ it with
    | some (.ptr r off) => match off with
      | 0 => match hp.get r with
        | some (.miter (some m) _ seen stepped) => match hp.get m with
          | some (.map es clock) => match Nat.beq clock stepped with
            | true => match lastN seen with
              | some n => match bornAt es n with
                | some e => some (.tup [.lit e.key, e.val])
                | none => none
              | none => none
            | false => none
          | _ => none
        | _ => none
      | _ + 1 => none
    | _ => none
def evR_call (P : Program) (H : View) (hp : PT Ob) (ρ : Rho) (o : Oper) (cl : Call) : Option V := match cl with
  | { callee, args, argTypes } => match callee with
    | .builtin .len => match args.toList with
      | [x] => match ρ x with
        | some (.mp id) => match hp.get id with
          | some (.map es _) => match argTypes.toList with
            | [t] => match P.underlying t with
              | some (.map _ _) => some (.lit (.int .i64 (.ofNat es.length)))
              | _ => none
            | _ => none
          | _ => none
        | _ => none
      | _ => none
    | _ => none
def evR (P : Program) (H : View) (hp : PT Ob) (ρ : Rho) (o : Oper) : Option V :=
  match o.op with
  | .load t x => loadV P H hp t (ρ x)
  | .convert src dst x => convV P hp src dst (ρ x)
  | .lookup t m k ok => evR_lookup P H hp ρ o t m k ok
  | .entry it => evR_entry P H hp ρ o it
  | .call cl => evR_call P H hp ρ o cl
  | _ => none
theorem evR_eq (P : Program) (H : View) (hp : PT Ob) (ρ : Rho) (o : Oper) : evR P H hp ρ o = evR0 P H hp ρ o := by
  unfold evR evR0
  generalize o.op = p
  cases p with
  | makeFunc f _ _ => cases f <;> rfl
  | _ => rfl
section
variable {P : Program} {H : View} {R : Rel} {hp : PT Ob} {w : World} {ρ : Rho} {a : Act} {o : Oper}
theorem run_getObj_map {b : Nat} {ms : List MapEntry} {clock : Nat} (h : w.heap[b]? = some (.map ms.toArray clock)) : (getObj b).run P w = .ok (.map ms.toArray clock) w := by
  simp [getObj, Sem.run, h]
theorem Cn.map (hC : Cn H R hp w) {id : Nat} {es : List Ent} {clock : Nat} (hg : hp.get id = some (.map es clock)) {b c : Nat} (hr : R id b (some c)) :
    ∃ ms, ER R es ms ∧ w.heap[b]? = some (.map ms.toArray clock) := by
  obtain ⟨x, _, h2, h3⟩ := hC.at hg hr
  cases h3 with
  | map _ _ h => exact ⟨_, h, h2⟩
theorem valOf_ok (hr : RhoR R ρ a) {x : Operand} {k : Value} (h : valOf (ρ x) = some k) : a.eval x = k := by
  unfold valOf at h
  split at h
  · rename_i v hv
    exact toVal_ok (hr _ _ hv) h
  · cases h
theorem ty1_ok {b : Bool} {v : V} {y : Value} (h : VR R v y) (ok : Bool) : VR R (ty1 b v ok) (if ok then .tuple #[y, .bool b] else y) := by
  cases ok with
  | true => exact .tup (.cons h (.cons (.lit _) .nil))
  | false => exact h
theorem lookV_ok {kt et : TypeId} {es : List Ent} {ms : List MapEntry} (hE : ER R es ms) {kv : Value} {ok : Bool} {v : V} (h : lookV P kt et es kv ok = some v) (m : Value) (t : TypeId) (hu : P.underlying t = some (.map kt et))
    (hm : (m = .map none ∧ ms = []) ∨ ∃ b clock, m = .map (some b) ∧ w.heap[b]? = some (.map ms.toArray clock)) :
    ∃ y, VR R v y ∧ (Instr.lookup t m kv ok).run P w = .ok y w := by
  unfold lookV at h
  have hemp : ms.toArray.isEmpty = es.isEmpty := by
    have := hE.length
    cases es <;> cases ms <;> simp_all
  split at h
  · rename_i u hck
    split at h
    · rename_i i hf
      split at h
      · rename_i e he
        simp only [Option.some.injEq] at h; subst h
        have hfo := findV_ok hE hf
        simp only at hfo
        obtain ⟨m', h1, h2⟩ := hfo
        obtain ⟨y, h3, h4⟩ := hE.get he
        rw [h3] at h1
        simp only [Option.some.injEq] at h1; subst h1
        refine ⟨_, ty1_ok h4 ok, ?_⟩
        rcases hm with ⟨rfl, rfl⟩ | ⟨b, clock, rfl, hh⟩
        · simp at h3
        · have hck' := pr_run hck w
          rw [← hemp] at hck'
          simp only [Instr.lookup, Sem.run_bind, run_underlying hu, Result.andThen_ok, run_getObj_map hh, hck', h2, Sem.run_pure]
      · cases h
    · rename_i hf
      split at h
      · rename_i z hz
        simp only [Option.some.injEq] at h; subst h
        have hfo := findV_ok hE hf
        simp only at hfo
        refine ⟨_, ty1_ok (.lit z) ok, ?_⟩
        have hck' := pr_run hck w
        rw [← hemp] at hck'
        rcases hm with ⟨rfl, rfl⟩ | ⟨b, clock, rfl, hh⟩
        · have hck2 : (Instr.checkKey (#[] : Array MapEntry).isEmpty 10000 kt kv).run P w = .ok u w := hck'
          have hfo2 : (Instr.findKey kt kv (#[] : Array MapEntry).toList).run P w = .ok none w := hfo w
          simp only [Instr.lookup, Sem.run_bind, run_underlying hu, Result.andThen_ok, hck2, hfo2, run_zeroV hz, Sem.run_pure]
        · simp only [Instr.lookup, Sem.run_bind, run_underlying hu, Result.andThen_ok, run_getObj_map hh, hck', hfo, run_zeroV hz, Sem.run_pure]
      · cases h
    · cases h
  · cases h
theorem convC_ok (hC : Cn H R hp w) {src dst : TypeId} {id off n : Nat} {v : V} (h : convC P hp src dst id off n = some v) {b c : Nat} (hR : R id b (some c)) (k : Nat) : ∃ y, VR R v y ∧ (convert src dst (.slice (some ⟨b, off, none⟩) n k)).run P w = .ok y w := by
  unfold convC at h
  split at h
  · rename_i ob hg
    split at h
    · rename_i cs hcs
      split at h
      · rename_i l hl
        split at h
        · rename_i ns hns hu
          simp only [Option.some.injEq] at h; subst h
          obtain ⟨ys, sp, T, fz, h4, h5, h6⟩ := hC.rcells hg hcs hR
          obtain ⟨k1, k2⟩ := cut_ok h4 hl
          have e := numsV_ok hns k1
          unfold u8s at hu
          split at hu
          · rename_i el hsrc hdst
            split at hu
            · rename_i he
              refine ⟨_, .lit _, run_convert_bytes_arg w src el hsrc he b off n k ns ?_ (fun i hi => ?_) dst hdst⟩
              · have := k1.length
                have l2 := congrArg List.length e
                simp only [List.length_map] at l2
                omega
              · have hlen : ns.length = n := by
                  have := k1.length
                  have l2 := congrArg List.length e
                  simp only [List.length_map] at l2
                  omega
                have hy : ((ys.drop off).take n)[i]? = some (.int .u8 (ns.getD i 0)) := by
                  rw [e, List.getElem?_map, List.getElem?_eq_getElem (by omega)]
                  simp [List.getD, List.getElem?_eq_getElem (show i < ns.length by omega)]
                rw [List.getElem?_take, if_pos hi, List.getElem?_drop] at hy
                exact cell_of_heap h6 hy
            · cases hu
          · cases hu
        · cases h
      · cases h
    · cases h
  · cases h
theorem evR_ok (hr : RhoR R ρ a) (hC : Cn H R hp w) {v : V} (h : evR P H hp ρ o = some v) : ∃ y, VR R v y ∧ (execOp a.eval o).run P w = .ok (.value y) w := by
  rw [evR_eq] at h
  unfold evR0 at h
  split at h
  · rename_i t x ho
    obtain ⟨z, hz, hrun⟩ := loadV_ok (P := P) (y := a.eval x) hC (fun u hu => hr _ _ hu) h
    exact ⟨z, hz, by simp [execOp, ho, hrun]⟩
  · rename_i src dst x ho
    unfold convV at h
    split at h
    · rename_i id off n k hx
      have hv := hr _ _ hx
      generalize hxx : a.eval x = xx at hv
      cases hv with
      | sl _ _ _ hR =>
        obtain ⟨y, hy, hrun⟩ := convC_ok (w := w) hC h hR k
        exact ⟨y, hy, by simp only [execOp, ho, hxx, Sem.run_bind, hrun]; rfl⟩
    · rename_i id i z n hx
      have hv := hr _ _ hx
      split at h
      · rename_i m
        generalize hxx : a.eval x = xx at hv
        cases hv with
        | @osl _ b c _ _ _ p hR hn hp' =>
          obtain rfl := hp' (by omega)
          obtain ⟨y, hy, hrun⟩ := convC_ok (w := w) hC h hR (c - i)
          exact ⟨y, hy, by simp only [execOp, ho, hxx, Nat.mul_one, Sem.run_bind, hrun]; rfl⟩
      · cases h
    · cases h
  · rename_i t m k ok ho
    split at h
    · rename_i kt et hu
      split at h
      · rename_i kv hk
        have hk := valOf_ok hr hk
        split at h
        · rename_i id hm
          split at h
          · rename_i es clock hg
            have hv := hr _ _ hm
            generalize hmm : a.eval m = mm at hv
            cases hv with
            | @mp _ b c hR =>
              obtain ⟨ms, hE, hh⟩ := hC.map hg hR
              obtain ⟨y, hy, hrun⟩ := lookV_ok (w := w) hE h (.map (some b)) t hu (.inr ⟨b, _, rfl, hh⟩)
              exact ⟨y, hy, by simp only [execOp, ho, hmm, hk, Sem.run_bind, hrun]; rfl⟩
          · cases h
        · rename_i hm
          have hv := (hr _ _ hm).lit_inv
          obtain ⟨y, hy, hrun⟩ := lookV_ok (w := w) ER.nil h (.map none) t hu (.inl ⟨rfl, rfl⟩)
          exact ⟨y, hy, by simp only [execOp, ho, hv, hk, Sem.run_bind, hrun]; rfl⟩
        · cases h
      · cases h
    · cases h
  · rename_i it ho
    split at h
    · rename_i r off hi
      split at h
      · split at h
        · rename_i m since seen stepped hg
          split at h
          · rename_i es clock hgm
            split at h
            · rename_i hcl
              have hcl := Nat.eq_of_beq_eq_true hcl
              subst hcl
              split at h
              · rename_i n hn
                split at h
                · rename_i e he
                  simp only [Option.some.injEq] at h; subst h
                  have hv := hr _ _ hi
                  generalize hii : a.eval it = ii at hv
                  cases hv with
                  | @ptr _ b c _ hR =>
                    obtain ⟨x, _, h2, h3⟩ := hC.at hg hR
                    cases h3 with
                    | @miter _ bm cm hRm =>
                      obtain ⟨ms, hE, hh⟩ := hC.map hgm hRm
                      obtain ⟨y, hf, hy⟩ := bornAt_ok hE he
                      have hlast : seen.toArray.back? = some n := by rw [lastN_eq] at hn; simpa using hn
                      refine ⟨_, .tup (.cons (.lit e.key) (.cons hy .nil)), ?_⟩
                      have hfa : ms.toArray.find? (·.born == n) = some ⟨e.key, y, e.born⟩ := by simpa using hf
                      have hg1 : (getObj b).run P w = .ok (.mapIter (some bm) since seen.toArray clock) w := by simp [getObj, Sem.run, h2]
                      simp only [execOp, ho, hii, Instr.entry, Sem.run_bind, hg1, Result.andThen_ok, hlast, run_getObj_map (P := P) hh, bne_self_eq_false, Bool.false_eq_true, if_false, hfa, Sem.run_pure]
                · cases h
              · cases h
            · cases h
          · cases h
        · cases h
      · cases h
    · cases h
  · rename_i callee args argTypes ho
    split at h
    · split at h
      · rename_i x hx0
        have hx0 : args = #[x] := by rw [← Array.toList_inj]; exact hx0
        subst hx0
        split at h
        · rename_i id hx
          split at h
          · rename_i es clock hg
            split at h
            · rename_i t ht
              have ht : argTypes = #[t] := by rw [← Array.toList_inj]; exact ht
              subst ht
              split at h
              · rename_i kt et hu
                simp only [Option.some.injEq] at h; subst h
                have hv := hr _ _ hx
                generalize hxx : a.eval x = xx at hv
                cases hv with
                | mp hR =>
                  obtain ⟨ms, hE, hh⟩ := hC.map hg hR
                  refine ⟨_, .lit _, ?_⟩
                  simp [execOp, ho, hxx, resolve, invoke, builtin, Builtin.len_, run_underlying hu, goInt, run_getObj_map (P := P) hh, hE.length]
              · cases h
            · cases h
          · cases h
        · cases h
      · cases h
    · cases h
  · cases h
end

/-! ### new objects -/
def rep (z : List Value) (k : Nat) : List Value := Nat.rec [] (fun _ ih => z ++ ih) k
theorem rep_succ (z : List Value) (k : Nat) : rep z (k + 1) = z ++ rep z k := rfl
theorem rep_zero (z : List Value) : rep z 0 = [] := rfl
theorem rep_length (z : List Value) : ∀ k, (rep z k).length = k * z.length
  | 0 => by simp [rep_zero]
  | k + 1 => by rw [rep_succ, List.length_append, rep_length z k, Nat.succ_mul]; omega
theorem rep_get (z : List Value) : ∀ (k i : Nat), i < k * z.length → (rep z k)[i]? = z[i % z.length]?
  | 0, i, h => by simp at h
  | k + 1, i, h => by
    rw [rep_succ]
    rcases Nat.lt_or_ge i z.length with hl | hl
    · rw [List.getElem?_append_left hl, Nat.mod_eq_of_lt hl]
    · rw [List.getElem?_append_right hl, rep_get z k (i - z.length) (by rw [Nat.succ_mul] at h; omega), Nat.mod_eq_sub_mod hl]
theorem made_rep (z : Array Value) (k n : Nat) (hn : z.size = n) : (Array.range (k * n)).map (z[· % z.size]!) = (rep z.toList k).toArray := by
  subst hn
  apply Array.ext'
  simp only [Array.toList_map, Array.toList_range]
  apply List.ext_getElem?
  intro i
  rw [List.getElem?_map]
  by_cases hi : i < k * z.size
  · rw [rep_get _ _ _ (by simpa using hi), List.getElem?_range hi]
    have hpos : 0 < z.size := by
      rcases Nat.eq_zero_or_pos z.size with h0 | h0
      · rw [h0] at hi; omega
      · exact h0
    have hlt := Nat.mod_lt i hpos
    simp [hlt]
  · rw [List.getElem?_eq_none (by simpa using hi), List.getElem?_eq_none (by rw [rep_length]; simpa using hi)]
    rfl
def evA0 (P : Program) (ρ : Rho) (o : Oper) : Option (Ob × (Nat → V)) :=
  match o.op with
  | .alloc T => match zeroV P T with
    | some z => match V.ones (z.cells.toList.map .lit) with
      | true => some (.cells T (z.cells.toList.map .lit), fun id => .ptr id 0)
      | false => none
    | none => none
  | .box T x => match ρ x with
    | some v => match V.ones v.cells with
      | true => some (.cells T v.cells, fun id => .ptr id 0)
      | false => none
    | none => none
  | .buildSlice t len parts => match P.underlying t with
    | some (.slice e) => match sizeV P e, zeroV P e, partsV ρ parts.toList with
      | some n, some z, some ps => match Nat.ble (Nat.mul len n) 16777216, Nat.beq z.cells.toList.length n with
        | true, true => match fillV (fun i => some (i * n, n)) ((rep z.cells.toList len).map .lit) ps with
          | some cs => match V.ones cs with
            | true => some (.cells e cs, fun id => .sl id 0 len len)
            | false => none
          | none => none
        | _, _ => none
      | _, _, _ => none
    | _ => none
  | .makeSlice t l c => match P.underlying t with
    | some (.slice e) => match P.info? e with
      | some i => match i.zero, natOf (ρ l), natOf (ρ c) with
        | some z, some ln, some cn => match Nat.ble ln cn, Nat.ble (Nat.mul i.bytes cn) 281474976710656 && Nat.ble (Nat.mul cn i.size) 16777216 && Nat.ble cn 9223372036854775807, Nat.beq z.cells.toList.length i.size, V.ones (z.cells.toList.map .lit) with
          | true, true, true, true => some (.cells e ((rep z.cells.toList cn).map .lit), fun id => .sl id 0 ln cn)
          | _, _, _, _ => none
        | _, _, _ => none
      | none => none
    | _ => none
  | .makeMap t r => match r with
    | none => some (.map [] 0, fun id => .mp id)
    | some _ => none
  | _ => none
def evA_alloc (P : Program) (ρ : Rho) (o : Oper) (T : TypeId) : Option (Ob × (Nat → V)) := match zeroV P T with
    | some z => match V.ones (z.cells.toList.map .lit) with
      | true => some (.cells T (z.cells.toList.map .lit), fun id => .ptr id 0)
      | false => none
    | none => none
def evA_box (P : Program) (ρ : Rho) (o : Oper) (T : TypeId) (x : Operand) : Option (Ob × (Nat → V)) := match ρ x with
    | some v => match V.ones v.cells with
      | true => some (.cells T v.cells, fun id => .ptr id 0)
      | false => none
    | none => none
def evA_buildSlice (P : Program) (ρ : Rho) (o : Oper) (t : TypeId) (len : Nat) (parts : Array (Nat × Operand)) : Option (Ob × (Nat → V)) := match P.underlying t with
    | some (.slice e) => match sizeV P e, zeroV P e, partsV ρ parts.toList with
      | some n, some z, some ps => match Nat.ble (Nat.mul len n) 16777216, Nat.beq z.cells.toList.length n with
        | true, true => match fillV (fun i => some (i * n, n)) ((rep z.cells.toList len).map .lit) ps with
          | some cs => match V.ones cs with
            | true => some (.cells e cs, fun id => .sl id 0 len len)
            | false => none
          | none => none
        | _, _ => none
      | _, _, _ => none
    | _ => none
def evA_makeSlice (P : Program) (ρ : Rho) (o : Oper) (t : TypeId) (l : Operand) (c : Operand) : Option (Ob × (Nat → V)) := match P.underlying t with
    | some (.slice e) => match P.info? e with
      | some i => match i.zero, natOf (ρ l), natOf (ρ c) with
        | some z, some ln, some cn => match Nat.ble ln cn, Nat.ble (Nat.mul i.bytes cn) 281474976710656 && Nat.ble (Nat.mul cn i.size) 16777216 && Nat.ble cn 9223372036854775807, Nat.beq z.cells.toList.length i.size, V.ones (z.cells.toList.map .lit) with
          | true, true, true, true => some (.cells e ((rep z.cells.toList cn).map .lit), fun id => .sl id 0 ln cn)
          | _, _, _, _ => none
        | _, _, _ => none
      | none => none
    | _ => none
def evA_makeMap (P : Program) (ρ : Rho) (o : Oper) (t : TypeId) (r : Option Operand) : Option (Ob × (Nat → V)) := match r with
    | none => some (.map [] 0, fun id => .mp id)
    | some _ => none
def evA (P : Program) (ρ : Rho) (o : Oper) : Option (Ob × (Nat → V)) :=
  match o.op with
  | .alloc T => evA_alloc P ρ o T
  | .box T x => evA_box P ρ o T x
  | .buildSlice t len parts => evA_buildSlice P ρ o t len parts
  | .makeSlice t l c => evA_makeSlice P ρ o t l c
  | .makeMap t r => evA_makeMap P ρ o t r
  | _ => none
theorem evA_eq (P : Program) (ρ : Rho) (o : Oper) : evA P ρ o = evA0 P ρ o := by
  unfold evA evA0
  generalize o.op = p
  cases p with
  | makeFunc f _ _ => cases f <;> rfl
  | _ => rfl
theorem ones_rep {z : List Value} (h : V.ones (z.map .lit) = true) : ∀ k, ∀ y ∈ rep z k, y.oneCell' = true
  | 0, y, hy => by simp [rep_zero] at hy
  | k + 1, y, hy => by
    rw [rep_succ, List.mem_append] at hy
    rcases hy with hy | hy
    · exact (VRs.lits (R := fun _ _ _ => False) z).ones h y hy
    · exact ones_rep h k y hy
section
variable {P : Program} {H : View} {R : Rel} {hp : PT Ob} {w : World} {ρ : Rho} {a : Act} {o : Oper}
/-- What a new object comes to: its content, and its name. -/
theorem evA_ok (hr : RhoR R ρ a) {ob : Ob} {f : Nat → V} (h : evA P ρ o = some (ob, f)) : ∃ (x : Obj) (c : Nat) (g : Nat → Value), ObR R ob c x ∧ (∀ w, (execOp a.eval o).run P w = .ok (.value (g w.heap.size)) (w.alloc x)) ∧ ∀ id (R' : Rel) b, R' id b c → VR R' (f id) (g b) := by
  rw [evA_eq] at h
  unfold evA0 at h
  split at h
  · rename_i T ho
    split at h
    · rename_i z hz
      split at h
      · rename_i h1
        simp only [Option.some.injEq, Prod.mk.injEq] at h
        obtain ⟨rfl, rfl⟩ := h
        refine ⟨_, 0, fun b => .pointer (some ⟨b, 0, none⟩), .cells T 0 (VRs.lits _) ((VRs.lits (R := R) _).ones h1), fun w => ?_, fun id R' b hR => .ptr 0 hR⟩
        simp [execOp, ho, Instr.alloc, run_zeroV hz, newVar, newRow]
      · cases h
    · cases h
  · rename_i T x ho
    split at h
    · rename_i v hv
      split at h
      · rename_i h1
        simp only [Option.some.injEq, Prod.mk.injEq] at h
        obtain ⟨rfl, rfl⟩ := h
        have hx := (hr _ _ hv).cells
        refine ⟨_, 0, fun b => .pointer (some ⟨b, 0, none⟩), .cells T 0 hx (hx.ones h1), fun w => ?_, fun id R' b hR => .ptr 0 hR⟩
        simp [execOp, ho, Instr.box, newVar, newRow]
      · cases h
    · cases h
  · rename_i t len parts ho
    split at h
    · rename_i e hu
      split at h
      · rename_i n z ps hn hz hps
        split at h
        · rename_i hl hzl
          split at h
          · rename_i cs hcs
            split at h
            · rename_i h1
              simp only [Option.some.injEq, Prod.mk.injEq] at h
              obtain ⟨rfl, rfl⟩ := h
              have hl := Nat.le_of_ble_eq_true hl
              have hl : len * n ≤ 16777216 := hl
              have hzl := Nat.eq_of_beq_eq_true hzl
              simp only [Array.length_toList] at hzl
              obtain ⟨ys, hys, hfill⟩ := fillV_ok (partsV_ok hr hps) (VRs.lits (rep z.cells.toList len)) hcs
              refine ⟨_, 0, fun b => .slice (some ⟨b, 0, none⟩) len len, .cells e 0 hys (hys.ones h1), fun w => ?_, fun id R' b hR => .sl 0 len len hR⟩
              have hmp : (parts.map fun (i, x) => (i, a.eval x)).toList = parts.toList.map fun p => (p.1, a.eval p.2) := by simp
              simp only [execOp, ho, Instr.buildSlice, Sem.run_bind, run_underlying hu, Result.andThen_ok, run_sizeV hn]
              rw [if_neg (by omega)]
              simp only [Sem.run_pure, Result.andThen_ok]
              by_cases h0 : len * n = 0
              · rw [if_pos h0]
                have e0 : (rep z.cells.toList len).toArray = #[] := by
                  apply Array.ext'
                  exact List.eq_nil_of_length_eq_zero (by rw [rep_length, Array.length_toList, hzl]; exact h0)
                rw [e0] at hfill
                simp only [Sem.run_pure, Result.andThen_ok, hmp, h0, Array.range_zero', Array.map_empty, hfill, newRow, Sem.run_bind, run_newObj]
                rfl
              · rw [if_neg h0]
                simp only [Sem.run_bind, run_zeroV hz, Sem.run_pure, Result.andThen_ok, hmp, made_rep z.cells len n hzl, hfill, newRow, run_newObj]
                rfl
            · cases h
          · cases h
        · cases h
      · cases h
    · cases h
  · rename_i t l c ho
    split at h
    · rename_i e hu
      split at h
      · rename_i i hi
        split at h
        · rename_i z ln cn hz hl hc
          split at h
          · rename_i b1 b2 b3 b4
            simp only [Option.some.injEq, Prod.mk.injEq] at h
            obtain ⟨rfl, rfl⟩ := h
            simp only [Bool.and_eq_true] at b2
            have b1 := Nat.le_of_ble_eq_true b1
            have b21 := Nat.le_of_ble_eq_true b2.1.1
            have b21 : i.bytes * cn ≤ 281474976710656 := b21
            have b22 := Nat.le_of_ble_eq_true b2.1.2
            have b22 : cn * i.size ≤ 16777216 := b22
            have b23 := Nat.le_of_ble_eq_true b2.2
            have b3 := Nat.eq_of_beq_eq_true b3
            simp only [Array.length_toList] at b3
            obtain ⟨ik1, e1⟩ := natOf_ok hr hl
            obtain ⟨ik2, e2⟩ := natOf_ok hr hc
            refine ⟨_, 0, fun b => .slice (some ⟨b, 0, none⟩) ln cn, .cells e 0 (VRs.lits _) (ones_rep b4 cn), fun w => ?_, fun id R' b hR => .sl 0 ln cn hR⟩
            have := run_makeSlice (P := P) w t e i z hu hi hz ik1 ik2 (ln : Int) (cn : Int) (by omega) (by omega) (by rw [Int.toNat_natCast]; exact b22) (by rw [← Int.natCast_mul]; generalize i.bytes * cn = k at b21; omega) (by omega)
            simp only [execOp, ho, e1, e2, Sem.run_bind, this, Result.andThen_ok, Sem.run_pure, Int.toNat_natCast, madeCells]
            rw [made_rep z.cells cn i.size b3]
          · cases h
        · cases h
      · cases h
    · cases h
  · rename_i t r ho
    split at h
    · simp only [Option.some.injEq, Prod.mk.injEq] at h
      obtain ⟨rfl, rfl⟩ := h
      refine ⟨_, 0, fun b => .map (some b), .map 0 0 ER.nil, fun w => ?_, fun id R' b hR => .mp hR⟩
      simp [execOp, ho, Instr.makeMap]
    · cases h
  · cases h
end
end Go.Vm
