/- Operations over values of which not all is known: what must hold, and what comes of them. -/
import Derived.Test.YtdghfmbbohlcgaaGreatDoorVmR
import Derived.Laws.StructEq
set_option linter.unusedVariables false
set_option linter.unusedSimpArgs false
namespace Go.Vm
open Go.RowKit

/-! ### elements, one behind the other -/
theorem flat_length {sz : Nat} {f : Nat → List V} : ∀ {n : Nat}, (∀ k, k < n → (f k).length = sz) → (flat n f).length = n * sz
  | 0, _ => by simp [flat_zero]
  | n + 1, h => by rw [flat_succ, List.length_append, flat_length fun k hk => h k (Nat.lt_succ_of_lt hk), h n (Nat.lt_succ_self n), Nat.succ_mul]
theorem flat_get {sz : Nat} {f : Nat → List V} : ∀ {n : Nat}, (∀ k, k < n → (f k).length = sz) → ∀ {k j : Nat}, k < n → j < sz → (flat n f)[k * sz + j]? = (f k)[j]?
  | 0, _, k, j, hk, _ => by omega
  | n + 1, h, k, j, hk, hj => by
    have hl := flat_length (f := f) (n := n) (sz := sz) fun k hk => h k (Nat.lt_succ_of_lt hk)
    rw [flat_succ]
    rcases Nat.lt_or_ge k n with hkn | hkn
    · have : k * sz + j < n * sz := by
        have := Nat.mul_le_mul_right sz (show k + 1 ≤ n by omega)
        rw [Nat.succ_mul] at this; omega
      rw [List.getElem?_append_left (by omega)]
      exact flat_get (fun k hk => h k (Nat.lt_succ_of_lt hk)) hkn hj
    · have : k = n := by omega
      subst this
      rw [List.getElem?_append_right (by omega), hl]
      congr 1
      omega
theorem flat_split {sz : Nat} {l : List V} {n : Nat} (hl : l.length = n * sz) {f : Nat → List V} (hf : ∀ k, k < n → (f k).length = sz) (h : ∀ k j, k < n → j < sz → l[k * sz + j]? = (f k)[j]?) : l = flat n f := by
  apply List.ext_getElem?
  intro q
  rcases Nat.lt_or_ge q (n * sz) with hq | hq
  · have hs : 0 < sz := by
      rcases Nat.eq_zero_or_pos sz with e | e
      · subst e; simp at hq
      · exact e
    have e := Nat.div_add_mod' q sz
    have hk : q / sz < n := (Nat.div_lt_iff_lt_mul hs).2 hq
    have hj := Nat.mod_lt q hs
    rw [← e, h _ _ hk hj, flat_get hf hk hj]
  · rw [List.getElem?_eq_none (by omega), List.getElem?_eq_none (by rw [flat_length hf]; omega)]
theorem flat_congr {f g : Nat → List V} : ∀ {n : Nat}, (∀ k, k < n → f k = g k) → flat n f = flat n g
  | 0, _ => rfl
  | n + 1, h => by rw [flat_succ, flat_succ, flat_congr fun k hk => h k (Nat.lt_succ_of_lt hk), h n (Nat.lt_succ_self n)]
theorem flat_add (n m : Nat) (f : Nat → List V) : flat (n + m) f = flat n f ++ flat m fun k => f (n + k) := by
  induction m with
  | zero => simp [flat_zero]
  | succ m ih => rw [← Nat.add_assoc, flat_succ, ih, flat_succ, List.append_assoc]
/-- An element is written over, in part. -/
def updF (f : Nat → List V) (i off : Nat) (u : List V) : Nat → List V := fun k => match Nat.beq k i with
  | true => layV (f i) off u
  | false => f k
/-- Elements from a place on are written over. -/
def putF (f : Nat → List V) (lo m : Nat) (g : Nat → List V) : Nat → List V := fun k => match Nat.ble lo k with
  | true => match Nat.ble (Nat.succ k) (Nat.add lo m) with
    | true => g (Nat.sub k lo)
    | false => f k
  | false => f k
/-- Elements behind elements. -/
def appF (n : Nat) (f g : Nat → List V) : Nat → List V := fun k => match Nat.ble (Nat.succ k) n with
  | true => f k
  | false => g (Nat.sub k n)
theorem updF_at (f : Nat → List V) (i off : Nat) (u : List V) : updF f i off u i = layV (f i) off u := by unfold updF; rw [Nat.beq_refl]
theorem updF_ne (f : Nat → List V) {i k : Nat} (off : Nat) (u : List V) (h : k ≠ i) : updF f i off u k = f k := by
  unfold updF
  split
  · rename_i hb; exact absurd (Nat.eq_of_beq_eq_true hb) h
  · rfl
theorem putF_eq (f : Nat → List V) (lo m : Nat) (g : Nat → List V) (k : Nat) : putF f lo m g k = if lo ≤ k ∧ k < lo + m then g (k - lo) else f k := by
  unfold putF
  split
  · rename_i h
    have h := Nat.le_of_ble_eq_true h
    split
    · rename_i h2
      have h2 : k + 1 ≤ lo + m := Nat.le_of_ble_eq_true h2
      rw [if_pos ⟨h, by omega⟩]; rfl
    · rename_i h2
      rw [if_neg]
      rintro ⟨_, h3⟩
      rw [show Nat.ble (Nat.succ k) (Nat.add lo m) = true from Nat.ble_eq_true_of_le h3] at h2; cases h2
  · rename_i h
    rw [if_neg]
    rintro ⟨h3, _⟩
    rw [Nat.ble_eq_true_of_le h3] at h; cases h
theorem appF_eq (n : Nat) (f g : Nat → List V) (k : Nat) : appF n f g k = if k < n then f k else g (k - n) := by
  unfold appF
  split
  · rename_i h
    have h : k + 1 ≤ n := Nat.le_of_ble_eq_true h
    rw [if_pos (by omega)]
  · rename_i h
    rw [if_neg]
    · rfl
    · intro h3
      rw [show Nat.ble (Nat.succ k) n = true from Nat.ble_eq_true_of_le h3] at h; cases h
theorem flat_app {n m : Nat} {f g : Nat → List V} : flat (n + m) (appF n f g) = flat n f ++ flat m g := by
  rw [flat_add]
  congr 1
  · exact flat_congr fun k hk => by rw [appF_eq, if_pos hk]
  · exact flat_congr fun k hk => by rw [appF_eq, if_neg (by omega)]; congr 1; omega
theorem layV_get {cs u : List V} {off : Nat} (h : off + u.length ≤ cs.length) (q : Nat) : (layV cs off u)[q]? = if off ≤ q ∧ q < off + u.length then u[q - off]? else cs[q]? := by
  unfold layV
  rw [List.getElem?_append, List.getElem?_append, List.length_append, List.length_take, List.getElem?_take, List.getElem?_drop]
  have : min off cs.length = off := by omega
  rw [this]
  split
  · split
    · rename_i h1 h2
      rw [if_neg (by omega)]
    · rename_i h1 h2
      rw [if_pos (by omega)]
  · rename_i h1
    rw [if_neg (by omega)]
    congr 1
    omega
theorem layV_length {cs u : List V} {off : Nat} (h : off + u.length ≤ cs.length) : (layV cs off u).length = cs.length := by
  simp only [layV, List.length_append, List.length_take, List.length_drop]
  omega
theorem flat_upd {n sz : Nat} {f : Nat → List V} (hf : ∀ k, k < n → (f k).length = sz) {i off : Nat} {u : List V} (hi : i < n) (hu : off + u.length ≤ sz) : layV (flat n f) (i * sz + off) u = flat n (updF f i off u) ∧ ∀ k, k < n → (updF f i off u k).length = sz := by
  have hl := flat_length hf
  have hb : i * sz + sz ≤ n * sz := by rw [← Nat.succ_mul]; exact Nat.mul_le_mul_right _ hi
  have hlen : ∀ k, k < n → (updF f i off u k).length = sz := by
    intro k hk
    by_cases e : k = i
    · subst e; rw [updF_at, layV_length (by rw [hf k hk]; exact hu)]; exact hf k hk
    · rw [updF_ne f off u e]; exact hf k hk
  refine ⟨flat_split (by rw [layV_length (by omega)]; exact hl) hlen fun k j hk hj => ?_, hlen⟩
  rw [layV_get (by omega)]
  by_cases e : k = i
  · subst e
    rw [updF_at, layV_get (by rw [hf k hk]; exact hu)]
    by_cases h1 : off ≤ j ∧ j < off + u.length
    · rw [if_pos h1, if_pos (by omega)]; congr 1; omega
    · rw [if_neg h1, if_neg (by omega), flat_get hf hk hj]
  · rw [updF_ne f off u e, if_neg, flat_get hf hk hj]
    rintro ⟨h1, h2⟩
    rcases Nat.lt_or_gt_of_ne e with h | h
    · have := Nat.mul_le_mul_right sz (show k + 1 ≤ i by omega)
      rw [Nat.succ_mul] at this; omega
    · have := Nat.mul_le_mul_right sz (show i + 1 ≤ k by omega)
      rw [Nat.succ_mul] at this; omega
theorem flat_put {n sz : Nat} {f g : Nat → List V} (hf : ∀ k, k < n → (f k).length = sz) {lo m : Nat} (hg : ∀ k, k < m → (g k).length = sz) (hi : lo + m ≤ n) : layV (flat n f) (lo * sz) (flat m g) = flat n (putF f lo m g) ∧ ∀ k, k < n → (putF f lo m g k).length = sz := by
  have hl := flat_length hf
  have hl2 := flat_length hg
  have hb : lo * sz + m * sz ≤ n * sz := by rw [← Nat.add_mul]; exact Nat.mul_le_mul_right _ hi
  have hlen : ∀ k, k < n → (putF f lo m g k).length = sz := by
    intro k hk
    rw [putF_eq]
    split
    · exact hg _ (by omega)
    · exact hf k hk
  refine ⟨flat_split (by rw [layV_length (by omega)]; exact hl) hlen fun k j hk hj => ?_, hlen⟩
  rw [layV_get (by omega), putF_eq]
  have key : (lo * sz ≤ k * sz + j ∧ k * sz + j < lo * sz + (flat m g).length) ↔ (lo ≤ k ∧ k < lo + m) := by
    rw [hl2, ← Nat.add_mul]
    constructor
    · rintro ⟨h1, h2⟩
      constructor
      · rcases Nat.lt_or_ge k lo with h | h
        · have := Nat.mul_le_mul_right sz (show k + 1 ≤ lo by omega)
          rw [Nat.succ_mul] at this; omega
        · exact h
      · rcases Nat.lt_or_ge k (lo + m) with h | h
        · exact h
        · have := Nat.mul_le_mul_right sz h
          omega
    · rintro ⟨h1, h2⟩
      have a1 := Nat.mul_le_mul_right sz h1
      have a2 := Nat.mul_le_mul_right sz (show k + 1 ≤ lo + m by omega)
      rw [Nat.succ_mul] at a2
      omega
  by_cases h : lo ≤ k ∧ k < lo + m
  · rw [if_pos (key.2 h), if_pos h]
    have e : k * sz + j - lo * sz = (k - lo) * sz + j := by
      have a1 := Nat.mul_le_mul_right sz h.1
      rw [Nat.sub_mul]; omega
    rw [e, flat_get hg (by omega) hj]
  · rw [if_neg (fun q => h (key.1 q)), if_neg h, flat_get hf hk hj]
/-! ### values that name nothing of one's own -/
mutual
def noId : V → Bool
  | .lit _ => true
  | .xs _ _ _ _ _ _ _ => true
  | .xp _ _ _ _ _ _ => true
  | .agg l => noIds l
  | .tup l => noIds l
  | .fn _ l m => noIds l && noIds m
  | .ptr _ _ => false
  | .sl _ _ _ _ => false
  | .osl _ _ _ _ => false
  | .ep _ _ _ _ => false
  | .mp _ => false
def noIds : List V → Bool
  | [] => true
  | v :: l => noId v && noIds l
end
mutual
theorem noId_R0 {R R' : Rel} : ∀ (v : V) {y : Value}, noId v = true → VR R v y → VR R' v y
  | .lit x, _, _, k => by rw [k.lit_inv]; exact .lit x
  | .xs b o i sz n c f, _, _, k => by
    cases k with
    | xs _ _ _ _ _ hn hp => exact .xs b o i sz f hn hp
  | .xp b o i sz off f, _, _, k => by
    cases k with
    | xp _ _ _ _ _ _ => exact .xp b o i sz off f
  | .agg l, _, h, k => by
    rw [noId] at h
    cases k with
    | agg k => exact .agg (noIds_R0 l h k)
  | .tup l, _, h, k => by
    rw [noId] at h
    cases k with
    | tup k => exact .tup (noIds_R0 l h k)
  | .fn g l m, _, h, k => by
    rw [noId, Bool.and_eq_true] at h
    cases k with
    | fn _ k1 k2 => exact .fn g (noIds_R0 l h.1 k1) (noIds_R0 m h.2 k2)
  | .ptr _ _, _, h, _ => by rw [noId] at h; cases h
  | .sl _ _ _ _, _, h, _ => by rw [noId] at h; cases h
  | .osl _ _ _ _, _, h, _ => by rw [noId] at h; cases h
  | .ep _ _ _ _, _, h, _ => by rw [noId] at h; cases h
  | .mp _, _, h, _ => by rw [noId] at h; cases h
theorem noIds_R0 {R R' : Rel} : ∀ (v : List V) {y : List Value}, noIds v = true → VRs R v y → VRs R' v y
  | [], _, _, k => by
    cases k
    exact .nil
  | v :: l, _, h, k => by
    rw [noIds, Bool.and_eq_true] at h
    cases k with
    | cons k t => exact .cons (noId_R0 v h.1 k) (noIds_R0 l h.2 t)
end
theorem R0_any {R : Rel} {v : V} {y : Value} (h : VR R0 v y) : VR R v y := h.mono fun _ _ _ k => k.elim
theorem R0s_any {R : Rel} {v : List V} {y : List Value} (h : VRs R0 v y) : VRs R v y := h.mono fun _ _ _ k => k.elim
/-! ### elements that lie outside -/
/-- The cells of an element outside. -/
def XE (H : View) (b o sz : Nat) (f : Nat → List V) (i : Nat) : Prop :=
  (f i).length = sz ∧ ∀ j v, (f i)[j]? = some v → ∃ y, VR R0 v y ∧ y.oneCell' = true ∧ H.cell? ⟨b, o + i * sz + j, none⟩ = some y
def XF (H : View) (b o sz : Nat) (f : Nat → List V) (n : Nat) : Prop := ∀ i, i < n → XE H b o sz f i
theorem View.mono {H H' : View} (h : Vle H H') {a : Addr} {v : Value} (hc : H.cell? a = some v) : H'.cell? a = some v := by
  unfold View.cell? at hc ⊢
  split at hc
  · rename_i c e g hh
    rw [h _ _ hh]
    exact hc
  · cases hc
theorem XE.mono {H H' : View} (hle : Vle H H') {b o sz : Nat} {f : Nat → List V} {i : Nat} (h : XE H b o sz f i) : XE H' b o sz f i :=
  ⟨h.1, fun j v hj => let ⟨y, h1, h2, h3⟩ := h.2 j v hj; ⟨y, h1, h2, View.mono hle h3⟩⟩
theorem XF.mono {H H' : View} (hle : Vle H H') {b o sz : Nat} {f : Nat → List V} {n : Nat} (h : XF H b o sz f n) : XF H' b o sz f n := fun i hi => (h i hi).mono hle
theorem XE.get {H : View} {b o sz : Nat} {f : Nat → List V} {i : Nat} (h : XE H b o sz f i) : ∃ ys, VRs R0 (f i) ys ∧ (∀ y ∈ ys, y.oneCell' = true) ∧ ∀ j y, ys[j]? = some y → H.cell? ⟨b, o + i * sz + j, none⟩ = some y := by
  obtain ⟨_, h⟩ := h
  generalize f i = l at h
  suffices ∀ (l : List V) (k : Nat), (∀ j v, l[j]? = some v → ∃ y, VR R0 v y ∧ y.oneCell' = true ∧ H.cell? ⟨b, o + i * sz + (k + j), none⟩ = some y) → ∃ ys, VRs R0 l ys ∧ (∀ y ∈ ys, y.oneCell' = true) ∧ ∀ j y, ys[j]? = some y → H.cell? ⟨b, o + i * sz + (k + j), none⟩ = some y by
    have := this l 0 (by simpa using h)
    simpa using this
  intro l
  induction l with
  | nil => intro k _; exact ⟨[], .nil, (fun y h => by cases h), fun j y h => by simp at h⟩
  | cons v l ih =>
    intro k h
    obtain ⟨ys, h1, h2, h3⟩ := ih (k + 1) fun j v hj => by
      have := h (j + 1) v (by simpa using hj)
      rwa [show k + (j + 1) = k + 1 + j by omega] at this
    obtain ⟨y, q1, q2, q3⟩ := h 0 v rfl
    refine ⟨y :: ys, .cons q1 h1, fun z hz => ?_, fun j z hj => ?_⟩
    · rcases List.mem_cons.1 hz with rfl | hz
      · exact q2
      · exact h2 z hz
    · cases j with
      | zero => simp only [List.getElem?_cons_zero, Option.some.injEq] at hj; subst hj; exact q3
      | succ j =>
        simp only [List.getElem?_cons_succ] at hj
        have := h3 j z hj
        rwa [show k + 1 + j = k + (j + 1) by omega] at this
/-! ### == on structs of open cells -/
def eqFs (P : Program) (e : TypeId → Value → Value → Option Bool) (xs ys : Array Value) : List Field → Option Bool
  | [] => some true
  | f :: l => match f.name == "_" with
    | true => eqFs P e xs ys l
    | false => match pr P (part f.type xs f.offset), pr P (part f.type ys f.offset) with
      | some a, some b => match e f.type a b with
        | some c => match eqFs P e xs ys l with
          | some r => some (c && r)
          | none => none
        | none => none
      | _, _ => none
def eqF (P : Program) (d : Nat) : TypeId → Value → Value → Option Bool :=
  Nat.rec (fun _ _ _ => none) (fun _ ih t x y => match P.underlying t with
    | some .bool => match x, y with
      | .bool a, .bool b => some (a == b)
      | _, _ => none
    | some (.int _) => match x, y with
      | .int k a, .int k' b => match sameK k k' with
        | true => some (a == b)
        | false => none
      | _, _ => none
    | some .string => match x, y with
      | .string a, .string b => some (a == b)
      | _, _ => none
    | some (.struct fs) => match x, y with
      | .agg xs, .agg ys => match P.stoodInHeld t with
        | false => eqFs P ih xs ys fs.toList
        | true => none
      | _, _ => none
    | _ => none) d
theorem eqF_succ {P : Program} (d : Nat) (t : TypeId) (x y : Value) : eqF P (d + 1) t x y = (match P.underlying t with
    | some .bool => match x, y with
      | .bool a, .bool b => some (a == b)
      | _, _ => none
    | some (.int _) => match x, y with
      | .int k a, .int k' b => match sameK k k' with
        | true => some (a == b)
        | false => none
      | _, _ => none
    | some .string => match x, y with
      | .string a, .string b => some (a == b)
      | _, _ => none
    | some (.struct fs) => match x, y with
      | .agg xs, .agg ys => match P.stoodInHeld t with
        | false => eqFs P (eqF P d) xs ys fs.toList
        | true => none
      | _, _ => none
    | _ => none) := rfl
theorem eqF_ok {P : Program} : ∀ (d : Nat) {t : TypeId} {x y : Value} {b : Bool}, eqF P d t x y = some b → ∀ w, (Op.equalIn d t x y).run P w = .ok b w
  | 0, t, x, y, b, h, w => by cases h
  | d + 1, t, x, y, b, h, w => by
    rw [eqF_succ] at h
    split at h
    · rename_i hu
      split at h
      · simp only [Option.some.injEq] at h; subst h
        simp [Op.equalIn, run_underlying hu]
      · cases h
    · rename_i hu
      split at h
      · split at h
        · rename_i hk
          have := sameK_eq hk
          subst this
          simp only [Option.some.injEq] at h; subst h
          simp [Op.equalIn, run_underlying hu]
        · cases h
      · cases h
    · rename_i hu
      split at h
      · simp only [Option.some.injEq] at h; subst h
        simp [Op.equalIn, run_underlying hu]
      · cases h
    · rename_i fs hu
      split at h
      · rename_i xs ys
        split at h
        · rename_i hst
          have hf : P.fieldsOf t = fs := by simp [Program.fieldsOf, hu]
          rw [run_equalIn_struct w d t xs ys (by rw [hf]; exact hu) hst, hf]
          generalize fs.toList = l at h
          induction l generalizing b with
          | nil =>
            simp only [eqFs, Option.some.injEq] at h; subst h
            simp [Op.eqFields]
          | cons f l ih =>
            simp only [eqFs] at h
            split at h
            · rename_i hn
              have hn : f.name = "_" := by simpa using hn
              simp only [Op.eqFields, Sem.run_bind, Sem.run_ite]
              simp [hn, ih _ h]
            · rename_i hn
              have hn : f.name ≠ "_" := by simpa using hn
              split at h
              · rename_i a c ha hc
                split at h
                · rename_i r hr
                  split at h
                  · rename_i q hq
                    simp only [Option.some.injEq] at h; subst h
                    have e1 := pr_run ha w
                    have e2 := pr_run hc w
                    have e3 := eqF_ok d hr w
                    have e4 := ih _ hq
                    cases r <;> simp [Op.eqFields, hn, e1, e2, e3, e4]
                  · cases h
                · cases h
              · cases h
        · cases h
      · cases h
    · cases h
def litAgg (v : Option V) : Option Value := match v with
  | some (.agg cs) => toVal (.agg cs)
  | some (.lit (.agg a)) => some (.agg a)
  | _ => none
theorem litAgg_ok {ρ : Rho} {R : Rel} {a : Act} {x : Operand} {X : Value} (hr : RhoR R ρ a) (h : litAgg (ρ x) = some X) : a.eval x = X ∧ ∃ c, X = .agg c := by
  unfold litAgg at h
  split at h
  · rename_i cs hx
    refine ⟨toVal_ok (hr _ _ hx) h, ?_⟩
    simp only [toVal] at h
    split at h
    · rename_i l hl
      simp only [Option.some.injEq] at h
      exact ⟨_, h.symm⟩
    · cases h
  · rename_i c hx
    simp only [Option.some.injEq] at h
    subst h
    exact ⟨(hr _ _ hx).lit_inv, _, rfl⟩
  · cases h
def vcEqV (P : Program) (ρ : Rho) (o : Oper) : Option V := match o.op with
  | .binOp op t x y _ => match litAgg (ρ x), litAgg (ρ y) with
    | some X, some Y => match P.eqGuardType P.depth t with
      | false => match eqF P 10000 t X Y with
        | some b => match op with
          | .eql => some (.lit (.bool b))
          | .neq => some (.lit (.bool (!b)))
          | _ => none
        | none => none
      | true => none
    | _, _ => none
  | _ => none
theorem vcEqV_ok {P : Program} {ρ : Rho} {o : Oper} {v : V} (h : vcEqV P ρ o = some v) : PureOk P ρ o v := by
  unfold vcEqV at h
  split at h
  · rename_i op t x y yt ho
    split at h
    · rename_i X Y hX hY
      split at h
      · rename_i hg
        split at h
        · rename_i b hb
          intro R a hr
          obtain ⟨e1, c1, rfl⟩ := litAgg_ok hr hX
          obtain ⟨e2, c2, rfl⟩ := litAgg_ok hr hY
          have heq : ∀ w, (Op.equal t (.agg c1) (.agg c2)).run P w = .ok b w := fun w => eqF_ok 10000 hb w
          split at h
          · simp only [Option.some.injEq] at h; subst h
            refine ⟨_, .lit _, fun w => ?_⟩
            have key : ((do eqGuard .eql t x y (.agg c1) (.agg c2); binOp .eql t (.agg c1) (.agg c2) : Sem Value)).run P w = .ok (.bool b) w := by
              simp [eqGuard, hg, binOp, heq]
            simp only [execOp, ho, e1, e2]
            rw [Sem.run_bind, key]
            rfl
          · simp only [Option.some.injEq] at h; subst h
            refine ⟨_, .lit _, fun w => ?_⟩
            have key : ((do eqGuard .neq t x y (.agg c1) (.agg c2); binOp .neq t (.agg c1) (.agg c2) : Sem Value)).run P w = .ok (.bool (!b)) w := by
              simp [eqGuard, hg, binOp, heq]
            simp only [execOp, ho, e1, e2]
            rw [Sem.run_bind, key]
            rfl
          · cases h
        · cases h
      · cases h
    · cases h
  · cases h
end Go.Vm
