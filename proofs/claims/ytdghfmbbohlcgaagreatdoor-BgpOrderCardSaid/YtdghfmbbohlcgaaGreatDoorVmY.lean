/- States brought to a canonical form: names said anew, what is not kept let go; rows frozen. -/
import Derived.Test.YtdghfmbbohlcgaaGreatDoorVmX
set_option linter.unusedVariables false
set_option linter.unusedSimpArgs false
namespace Go.Vm
open Go.RowKit

/-- A canonical name: which one it is in the state that there is; none: a row of no elements without a block. -/
abbrev Rn := List (Nat × Option Nat)
def rnOf (k : Nat) : Rn → Option (Option Nat)
  | [] => none
  | (i, x) :: l => match Nat.beq i k with
    | true => some x
    | false => rnOf k l
def look (nb : Nat) (r : Rn) (k : Nat) : Option (Option Nat) := match Nat.ble (Nat.succ k) nb with
  | true => some (some k)
  | false => rnOf k r
def addRn (i : Nat) (x : Option Nat) (r : Rn) : Rn := match rnOf i r with
  | none => (i, x) :: r
  | some _ => r
mutual
def infV : V → V → Rn → Rn
  | .ptr i _, y, r => match y with
    | .ptr j _ => addRn i (some j) r
    | _ => r
  | .sl i _ _ _, y, r => match y with
    | .sl j _ _ _ => addRn i (some j) r
    | _ => r
  | .osl i _ _ _, y, r => match y with
    | .osl j _ _ _ => addRn i (some j) r
    | .lit (.slice _ _ _) => addRn i none r
    | .sl _ _ _ _ => addRn i none r
    | _ => r
  | .mp i, y, r => match y with
    | .mp j => addRn i (some j) r
    | _ => r
  | .ep i _ _ _, y, r => match y with
    | .ep j _ _ _ => addRn i (some j) r
    | _ => r
  | .agg l, y, r => match y with
    | .agg m => infL l m r
    | _ => r
  | .tup l, y, r => match y with
    | .tup m => infL l m r
    | _ => r
  | .fn _ l m, y, r => match y with
    | .fn _ l' m' => infL l l' (infL m m' r)
    | _ => r
  | .lit _, _, r => r
  | .xs _ _ _ _ _ _ _, _, r => r
  | .xp _ _ _ _ _ _, _, r => r
def infL : List V → List V → Rn → Rn
  | [], _, r => r
  | v :: l, m, r => match m with
    | w :: m => infL l m (infV v w r)
    | [] => r
end
def infSl (sl : PT V) : List (Nat × V) → Rn → Rn
  | [], r => r
  | (t, v) :: l, r => match sl.get t with
    | some w => infSl sl l (infV v w r)
    | none => infSl sl l r
def infO : Ob → Ob → Rn → Rn
  | .cells _ l, .cells _ m, r => infL l m r
  | .row _ _ l, .row _ _ m, r => infL l m r
  | .miter (some i) _ _ _, .miter (some j) _ _ _, r => addRn i (some j) r
  | _, _, r => r
def infHp (nb : Nat) (hp : PT Ob) : List (Nat × Ob) → Rn → Rn
  | [], r => r
  | (k, o) :: l, r => match look nb r k with
    | some (some j) => match hp.get j with
      | some o' => infHp nb hp l (infO o o' r)
      | none => infHp nb hp l r
    | _ => infHp nb hp l r
/-! ### what must hold for a value to be said so -/
def ifT (b : Bool) (K : Prop) : Prop := match b with
  | true => K
  | false => False
theorem ifT_spec {b : Bool} {K : Prop} (h : ifT b K) : b = true ∧ K := by
  cases b with
  | true => exact ⟨rfl, h⟩
  | false => exact h.elim
def idEq (nb : Nat) (r : Rn) (i j : Nat) (K : Prop) : Prop := match look nb r i with
  | some (some k) => ifT (Nat.beq k j) K
  | _ => False
def idVoid (nb : Nat) (r : Rn) (i : Nat) (K : Prop) : Prop := match look nb r i with
  | some none => K
  | _ => False
def kX : Value → Value → Prop → Prop
  | .int k a, y, K => match y with
    | .int k' b => ifT (sameK k k') (b = a ∧ K)
    | _ => False
  | .bool a, y, K => match y with
    | .bool b => b = a ∧ K
    | _ => False
  | .string a, y, K => match y with
    | .string b => b = a ∧ K
    | _ => False
  | x, y, K => y = x ∧ K
mutual
def kV (nb : Nat) (r : Rn) : V → V → Prop → Prop
  | .lit x, y, K => match y with
    | .lit y => kX x y K
    | _ => False
  | .ptr i o, y, K => match y with
    | .ptr j o' => idEq nb r i j (o' = o ∧ K)
    | _ => False
  | .sl i o n c, y, K => match y with
    | .sl j o' n' c' => idEq nb r i j ((o' = o ∧ n' = n ∧ c' = c) ∧ K)
    | _ => False
  | .osl i a z n, y, K => match y with
    | .osl j a' z' n' => idEq nb r i j (ifT (Nat.beq z z') ((a' = a ∧ n' = n) ∧ K))
    | .lit (.slice _ n' c') => idVoid nb r i (ifT (Nat.beq n' 0 && Nat.beq c' 0) ((a = 0 ∧ n = 0) ∧ K))
    | .sl _ _ n' c' => idVoid nb r i (ifT (Nat.beq n' 0 && Nat.beq c' 0) ((a = 0 ∧ n = 0) ∧ K))
    | _ => False
  | .mp i, y, K => match y with
    | .mp j => idEq nb r i j K
    | _ => False
  | .fn g l m, y, K => match y with
    | .fn g' l' m' => ifT (Nat.beq g g') (kL nb r l l' (kL nb r m m' K))
    | _ => False
  | .agg l, y, K => match y with
    | .agg m => kL nb r l m K
    | .lit (.agg ys) => kL nb r l (ys.toList.map .lit) K
    | _ => False
  | .tup l, y, K => match y with
    | .tup m => kL nb r l m K
    | _ => False
  | .ep i a z o, y, K => match y with
    | .ep j a' z' o' => idEq nb r i j (ifT (Nat.beq z z') ((a' = a ∧ o' = o) ∧ K))
    | _ => False
  | .xs b o i z n c f, y, K => match y with
    | .xs b' o' i' z' n' c' _ => ifT (Nat.beq z z') ((b' = b ∧ o' = o ∧ i' = i ∧ n' = n ∧ c' = c) ∧ K)
    | .lit (.slice none n' c') => ifT (Nat.beq n' 0 && Nat.beq c' 0) ((n = 0 ∧ c = 0) ∧ K)
    | _ => False
  | .xp b o i z d f, y, K => match y with
    | .xp b' o' i' z' d' _ => ifT (Nat.beq z z') ((b' = b ∧ o' = o ∧ i' = i ∧ d' = d) ∧ K)
    | _ => False
def kL (nb : Nat) (r : Rn) : List V → List V → Prop → Prop
  | [], m, K => match m with
    | [] => K
    | _ :: _ => False
  | v :: l, m, K => match m with
    | w :: m => kV nb r v w (kL nb r l m K)
    | [] => False
end
def RnR (nb : Nat) (r : Rn) (R : Rel) : Rel := fun i b c => (∃ j, look nb r i = some (some j) ∧ R j b c) ∨ (look nb r i = some none ∧ b = 0 ∧ c = none)
section
variable {nb : Nat} {r : Rn} {R : Rel}
theorem idEq_spec {i j : Nat} {K : Prop} (h : idEq nb r i j K) : look nb r i = some (some j) ∧ K := by
  unfold idEq at h
  split at h
  · rename_i k hk
    obtain ⟨h1, h2⟩ := ifT_spec h
    rw [hk, Nat.eq_of_beq_eq_true h1]
    exact ⟨rfl, h2⟩
  · exact h.elim
theorem idVoid_spec {i : Nat} {K : Prop} (h : idVoid nb r i K) : look nb r i = some none ∧ K := by
  unfold idVoid at h
  split at h
  · rename_i hk; exact ⟨hk, h⟩
  · exact h.elim
theorem kX_spec {x y : Value} {K : Prop} (h : kX x y K) : y = x ∧ K := by
  unfold kX at h
  split at h
  · split at h
    · obtain ⟨h1, rfl, h3⟩ := ifT_spec h
      exact ⟨by rw [sameK_eq h1], h3⟩
    · exact h.elim
  · split at h
    · obtain ⟨rfl, h3⟩ := h; exact ⟨rfl, h3⟩
    · exact h.elim
  · split at h
    · obtain ⟨rfl, h3⟩ := h; exact ⟨rfl, h3⟩
    · exact h.elim
  · exact h
mutual
theorem kV_spec : ∀ (v : V) {u : V} {K : Prop}, kV nb r v u K → K ∧ ∀ y, VR R u y → VR (RnR nb r R) v y
  | .lit x, u, K, h => by
    rw [kV.eq_def] at h
    simp only at h
    split at h
    · obtain ⟨rfl, h2⟩ := kX_spec h
      exact ⟨h2, fun y k => by rw [k.lit_inv]; exact .lit _⟩
    · exact h.elim
  | .ptr i o, u, K, h => by
    rw [kV.eq_def] at h
    simp only at h
    split at h
    · obtain ⟨h1, rfl, h2⟩ := idEq_spec h
      exact ⟨h2, fun y k => by cases k with | ptr _ k => exact .ptr _ (.inl ⟨_, h1, k⟩)⟩
    · exact h.elim
  | .sl i o n c, u, K, h => by
    rw [kV.eq_def] at h
    simp only at h
    split at h
    · obtain ⟨h1, ⟨rfl, rfl, rfl⟩, h2⟩ := idEq_spec h
      exact ⟨h2, fun y k => by cases k with | sl _ _ _ k => exact .sl _ _ _ (.inl ⟨_, h1, k⟩)⟩
    · exact h.elim
  | .osl i a z n, u, K, h => by
    rw [kV.eq_def] at h
    simp only at h
    split at h
    · obtain ⟨h1, h⟩ := idEq_spec h
      obtain ⟨hz, ⟨rfl, rfl⟩, h2⟩ := ifT_spec h
      obtain rfl := Nat.eq_of_beq_eq_true hz
      refine ⟨h2, fun y k => ?_⟩
      cases k with
      | osl _ _ _ k k2 k3 => exact .osl _ _ _ (.inl ⟨_, h1, k⟩) k2 k3
      | osl0 _ k => exact .osl0 _ (.inl ⟨_, h1, k⟩)
    · obtain ⟨h1, h⟩ := idVoid_spec h
      obtain ⟨hz, ⟨rfl, rfl⟩, h2⟩ := ifT_spec h
      rw [Bool.and_eq_true] at hz
      obtain rfl := Nat.eq_of_beq_eq_true hz.1
      obtain rfl := Nat.eq_of_beq_eq_true hz.2
      refine ⟨h2, fun y k => ?_⟩
      rw [k.lit_inv]
      exact .osl0 _ (.inr ⟨h1, rfl, rfl⟩)
    · obtain ⟨h1, h⟩ := idVoid_spec h
      obtain ⟨hz, ⟨rfl, rfl⟩, h2⟩ := ifT_spec h
      rw [Bool.and_eq_true] at hz
      obtain rfl := Nat.eq_of_beq_eq_true hz.1
      obtain rfl := Nat.eq_of_beq_eq_true hz.2
      refine ⟨h2, fun y k => ?_⟩
      cases k with
      | sl _ _ _ k => exact .osl0 _ (.inr ⟨h1, rfl, rfl⟩)
    · exact h.elim
  | .mp i, u, K, h => by
    rw [kV.eq_def] at h
    simp only at h
    split at h
    · obtain ⟨h1, h2⟩ := idEq_spec h
      exact ⟨h2, fun y k => by cases k with | mp k => exact .mp (.inl ⟨_, h1, k⟩)⟩
    · exact h.elim
  | .fn g l m, u, K, h => by
    rw [kV.eq_def] at h
    simp only at h
    split at h
    · obtain ⟨hg, h2⟩ := ifT_spec h
      obtain rfl := Nat.eq_of_beq_eq_true hg
      obtain ⟨h3, k1⟩ := kL_spec l h2
      obtain ⟨h4, k2⟩ := kL_spec m h3
      exact ⟨h4, fun y k => by cases k with | fn _ a b => exact .fn _ (k1 _ a) (k2 _ b)⟩
    · exact h.elim
  | .agg l, u, K, h => by
    rw [kV.eq_def] at h
    simp only at h
    split at h
    · obtain ⟨h, k1⟩ := kL_spec l h
      exact ⟨h, fun y k => by cases k with | agg a => exact .agg (k1 _ a)⟩
    · rename_i ys
      obtain ⟨h, k1⟩ := kL_spec l h
      refine ⟨h, fun y k => ?_⟩
      rw [k.lit_inv]
      have := VR.agg (k1 _ (VRs.lits ys.toList))
      simpa using this
    · exact h.elim
  | .tup l, u, K, h => by
    rw [kV.eq_def] at h
    simp only at h
    split at h
    · obtain ⟨h, k1⟩ := kL_spec l h
      exact ⟨h, fun y k => by cases k with | tup a => exact .tup (k1 _ a)⟩
    · exact h.elim
  | .ep i a z o, u, K, h => by
    rw [kV.eq_def] at h
    simp only at h
    split at h
    · obtain ⟨h1, h⟩ := idEq_spec h
      obtain ⟨hz, ⟨rfl, rfl⟩, h2⟩ := ifT_spec h
      obtain rfl := Nat.eq_of_beq_eq_true hz
      exact ⟨h2, fun y k => by cases k with | ep _ _ _ k => exact .ep _ _ _ (.inl ⟨_, h1, k⟩)⟩
    · exact h.elim
  | .xs b o i z n c f, u, K, h => by
    rw [kV.eq_def] at h
    simp only at h
    split at h
    · obtain ⟨hz, ⟨rfl, rfl, rfl, rfl, rfl⟩, h2⟩ := ifT_spec h
      obtain rfl := Nat.eq_of_beq_eq_true hz
      exact ⟨h2, fun y k => by cases k with | xs _ _ _ _ _ a b => exact .xs _ _ _ _ _ a b⟩
    · obtain ⟨hz, ⟨rfl, rfl⟩, h2⟩ := ifT_spec h
      rw [Bool.and_eq_true] at hz
      obtain rfl := Nat.eq_of_beq_eq_true hz.1
      obtain rfl := Nat.eq_of_beq_eq_true hz.2
      exact ⟨h2, fun y k => by rw [k.lit_inv]; exact .xs _ _ _ _ _ (Nat.le_refl _) (fun h => absurd rfl h)⟩
    · exact h.elim
  | .xp b o i z d f, u, K, h => by
    rw [kV.eq_def] at h
    simp only at h
    split at h
    · obtain ⟨hz, ⟨rfl, rfl, rfl, rfl⟩, h2⟩ := ifT_spec h
      obtain rfl := Nat.eq_of_beq_eq_true hz
      exact ⟨h2, fun y k => by cases k with | xp _ _ _ _ _ _ => exact .xp _ _ _ _ _ _⟩
    · exact h.elim
theorem kL_spec : ∀ (v : List V) {u : List V} {K : Prop}, kL nb r v u K → K ∧ ∀ y, VRs R u y → VRs (RnR nb r R) v y
  | [], u, K, h => by
    rw [kL.eq_def] at h
    simp only at h
    split at h
    · exact ⟨h, fun y k => by cases k; exact .nil⟩
    · exact h.elim
  | v :: l, u, K, h => by
    rw [kL.eq_def] at h
    simp only at h
    split at h
    · obtain ⟨h, k1⟩ := kV_spec v h
      obtain ⟨h, k2⟩ := kL_spec l h
      exact ⟨h, fun y k => by cases k with | cons a b => exact .cons (k1 _ a) (k2 _ b)⟩
    · exact h.elim
end
end
def noIdE : List Ent → Bool
  | [] => true
  | e :: l => noId e.val && noIdE l
theorem noIdE_R0 {R R' : Rel} : ∀ {es : List Ent} {ms : List MapEntry}, noIdE es = true → ER R es ms → ER R' es ms
  | _, _, _, .nil => .nil
  | _, _, h, .cons k t => by
    rw [noIdE, Bool.and_eq_true] at h
    exact .cons (noId_R0 _ h.1 k) (noIdE_R0 h.2 t)
def kO (nb : Nat) (r : Rn) : Ob → Ob → Prop → Prop
  | .fam T z n f, o, K => match o with
    | .fam T' z' n' f' => ifT (Nat.beq T T' && Nat.beq z z') ((n' = n ∧ ∀ k, k < n → f' k = f k) ∧ K)
    | _ => False
  | .cells T l, o, K => match o with
    | .cells T' m => ifT (Nat.beq T T') (kL nb r l m K)
    | _ => False
  | .row T z l, o, K => match o with
    | .row T' z' m => ifT (Nat.beq T T' && Nat.beq z z') (kL nb r l m K)
    | _ => False
  | .fmap es cl lk, o, K => match o with
    | .fmap es' cl' _ => (es' = es ∧ cl' = cl) ∧ K
    | .map es' cl' => ifT (noIdE es') ((es' = es ∧ cl' = cl) ∧ K)
    | _ => False
  | .miter (some i) a b c, o, K => match o with
    | .miter (some j) a' b' c' => idEq nb r i j ((a' = a ∧ b' = b ∧ c' = c) ∧ K)
    | _ => False
  | .siter s p, o, K => match o with
    | .siter s' p' => (s' = s ∧ p' = p) ∧ K
    | _ => False
  | _, _, _ => False
theorem kO_spec {nb : Nat} {r : Rn} {R : Rel} {o o' : Ob} {K : Prop} (h : kO nb r o o' K) : K ∧ (∀ c x, ObR R o' c x → ObR (RnR nb r R) o c x) ∧ (o'.isVoid = true → o.isVoid = true) := by
  cases o with
  | fam T z n f =>
    cases o' with
    | fam T' z' n' f' =>
      have h : ifT (Nat.beq T T' && Nat.beq z z') ((n' = n ∧ ∀ k, k < n → f' k = f k) ∧ K) := h
      obtain ⟨hb, ⟨hn, hf⟩, h2⟩ := ifT_spec h
      rw [Bool.and_eq_true] at hb
      obtain rfl := Nat.eq_of_beq_eq_true hb.1
      obtain rfl := Nat.eq_of_beq_eq_true hb.2
      subst hn
      refine ⟨h2, fun c x k => ?_, fun hv => hv⟩
      cases k with
      | fam _ _ _ hl k1 k2 k3 k4 => exact .fam T z c (fun j hj => by rw [← hf j hj]; exact hl j hj) (by rw [← flat_congr hf]; exact k1) k2 k3 k4
    | _ => exact h.elim
  | cells T l =>
    cases o' with
    | cells T' m =>
      have h : ifT (Nat.beq T T') (kL nb r l m K) := h
      obtain ⟨hb, h2⟩ := ifT_spec h
      obtain rfl := Nat.eq_of_beq_eq_true hb
      obtain ⟨h3, k1⟩ := kL_spec (R := R) l h2
      refine ⟨h3, fun c x k => ?_, fun hv => by cases hv⟩
      cases k with
      | cells _ _ k k2 => exact .cells _ c (k1 _ k) k2
    | _ => exact h.elim
  | row T z l =>
    cases o' with
    | row T' z' m =>
      have h : ifT (Nat.beq T T' && Nat.beq z z') (kL nb r l m K) := h
      obtain ⟨hb, h2⟩ := ifT_spec h
      rw [Bool.and_eq_true] at hb
      obtain rfl := Nat.eq_of_beq_eq_true hb.1
      obtain rfl := Nat.eq_of_beq_eq_true hb.2
      obtain ⟨h3, k1⟩ := kL_spec (R := R) l h2
      refine ⟨h3, fun c x k => ?_, fun hv => by cases hv⟩
      cases k with
      | row _ _ _ k k2 k3 k4 => exact .row _ _ c (k1 _ k) k2 k3 k4
    | _ => exact h.elim
  | fmap es cl lk =>
    cases o' with
    | fmap es' cl' lk' =>
      obtain ⟨⟨rfl, rfl⟩, h2⟩ := h
      refine ⟨h2, fun c x k => ?_, fun hv => by cases hv⟩
      cases k with
      | fmap _ _ _ k => exact .fmap _ c _ k
    | map es' cl' =>
      have h : ifT (noIdE es') ((es' = es ∧ cl' = cl) ∧ K) := h
      obtain ⟨hb, ⟨he, hc⟩, h2⟩ := ifT_spec h
      subst he; subst hc
      refine ⟨h2, fun c x k => ?_, fun hv => by cases hv⟩
      cases k with
      | map _ _ k => exact .fmap _ c _ (noIdE_R0 hb k)
    | _ => exact h.elim
  | miter m a b c0 =>
    cases m with
    | none => cases o' <;> exact h.elim
    | some i =>
      cases o' with
      | miter m' a' b' c' =>
        cases m' with
        | none => exact h.elim
        | some j =>
          obtain ⟨h1, ⟨ha, hb, hc⟩, h2⟩ := idEq_spec (show idEq nb r i j ((a' = a ∧ b' = b ∧ c' = c0) ∧ K) from h)
          subst ha; subst hb; subst hc
          refine ⟨h2, fun c x k => ?_, fun hv => by cases hv⟩
          cases k with
          | miter k _ _ _ => exact .miter (.inl ⟨_, h1, k⟩) _ _ _ _
      | _ => exact h.elim
  | siter s p =>
    cases o' with
    | siter s' p' =>
      obtain ⟨⟨rfl, rfl⟩, h2⟩ := h
      refine ⟨h2, fun c x k => ?_, fun hv => by cases hv⟩
      cases k with
      | siter _ _ _ => exact .siter _ _ _
    | _ => exact h.elim
  | map es cl => exact h.elim
  | ro T z l => exact h.elim
/-! ### a whole state -/
structure CS where
  H : View
  sl : List (Nat × V)
  nx : Nat
  hp : List (Nat × Ob)
def kSl (nb : Nat) (r : Rn) (sl : PT V) : List (Nat × V) → Prop → Prop
  | [], K => K
  | (t, v) :: l, K => match sl.get t with
    | some w => kV nb r v w (kSl nb r sl l K)
    | none => False
def kHp (nb : Nat) (r : Rn) (hp : PT Ob) : List (Nat × Ob) → Prop → Prop
  | [], K => K
  | (k, o) :: l, K => match look nb r k with
    | some (some j) => match hp.get j with
      | some o' => kO nb r o o' (kHp nb r hp l K)
      | none => False
    | some none => match o with
      | .fam _ _ n _ => n = 0 ∧ kHp nb r hp l K
      | _ => False
    | none => False
def memB (k : Nat) : List Nat → Bool
  | [] => false
  | x :: l => match Nat.beq x k with
    | true => true
    | false => memB k l
def actB (nb : Nat) (r : Rn) : List (Nat × Ob) → List Nat → Bool
  | [], _ => true
  | (k, _) :: l, acc => match look nb r k with
    | some (some j) => match memB j acc with
      | true => false
      | false => actB nb r l (j :: acc)
    | some none => actB nb r l acc
    | none => false
def rnB (nb nx : Nat) : Rn → Bool
  | [] => true
  | (k, x) :: l => match Nat.ble (Nat.succ k) nx with
    | true => match x with
      | none => rnB nb nx l
      | some j => match Nat.ble nb j with
        | true => rnB nb nx l
        | false => match Nat.ble (Nat.succ k) nb with
          | true => rnB nb nx l
          | false => false
    | false => false
def KeptR (nb : Nat) (r : Rn) (s : CS) (H : View) (sl : PT V) (hp : PT Ob) (K : Prop) : Prop :=
  ifT (Nat.ble nb s.nx && (rnB nb s.nx r && actB nb r s.hp [])) (s.H = H ∧ kSl nb r sl s.sl (kHp nb r hp s.hp K))
def Kept (nb : Nat) (s : CS) (H : View) (sl : PT V) (hp : PT Ob) (K : Prop) : Prop :=
  KeptR nb (infHp nb hp s.hp (infSl sl s.sl [])) s H sl hp K
section
variable {nb : Nat} {r : Rn}
theorem memB_spec {k : Nat} : ∀ {l : List Nat}, memB k l = false → k ∉ l
  | [], _, h => by cases h
  | x :: l, hb, h => by
    simp only [memB] at hb
    split at hb
    · cases hb
    · rename_i h1
      rcases List.mem_cons.1 h with rfl | h
      · rw [Nat.beq_refl] at h1; cases h1
      · exact memB_spec hb h
theorem actB_spec : ∀ {l : List (Nat × Ob)} {acc : List Nat}, actB nb r l acc = true → (∀ k o j, (k, o) ∈ l → look nb r k = some (some j) → j ∉ acc) ∧ ∀ k o k' o' j, (k, o) ∈ l → (k', o') ∈ l → look nb r k = some (some j) → look nb r k' = some (some j) → (k, o) = (k', o')
  | [], acc, _ => ⟨(fun k o j h => by cases h), fun k o k' o' j h => by cases h⟩
  | (k0, o0) :: l, acc, h => by
    simp only [actB] at h
    split at h
    · rename_i j0 hj
      split at h
      · cases h
      · rename_i hm
        have hm := memB_spec hm
        obtain ⟨h1, h2⟩ := actB_spec h
        refine ⟨fun k o j hk hl => ?_, fun k o k' o' j hk hk' hl hl' => ?_⟩
        · rcases List.mem_cons.1 hk with e | hk
          · cases e
            rw [hj] at hl
            simp only [Option.some.injEq] at hl
            subst hl; exact hm
          · exact fun hh => h1 k o j hk hl (List.mem_cons_of_mem _ hh)
        · rcases List.mem_cons.1 hk with e | hk <;> rcases List.mem_cons.1 hk' with e' | hk'
          · rw [e, e']
          · cases e
            rw [hj] at hl
            simp only [Option.some.injEq] at hl
            subst hl
            exact absurd (by simp) (h1 k' o' _ hk' hl')
          · cases e'
            rw [hj] at hl'
            simp only [Option.some.injEq] at hl'
            subst hl'
            exact absurd (by simp) (h1 k o _ hk hl)
          · exact h2 k o k' o' j hk hk' hl hl'
    · rename_i hj
      obtain ⟨h1, h2⟩ := actB_spec h
      refine ⟨fun k o j hk hl => ?_, fun k o k' o' j hk hk' hl hl' => ?_⟩
      · rcases List.mem_cons.1 hk with e | hk
        · cases e; rw [hj] at hl; cases hl
        · exact h1 k o j hk hl
      · rcases List.mem_cons.1 hk with e | hk
        · cases e; rw [hj] at hl; cases hl
        · rcases List.mem_cons.1 hk' with e' | hk'
          · cases e'; rw [hj] at hl'; cases hl'
          · exact h2 k o k' o' j hk hk' hl hl'
    · cases h
theorem rnB_spec {nx : Nat} : ∀ {r : Rn}, rnB nb nx r = true → ∀ k x, rnOf k r = some x → k < nx ∧ (nb ≤ k → ∀ j, x = some j → nb ≤ j)
  | [], _, k, x, h => by cases h
  | (k0, x0) :: l, hb, k, x, h => by
    simp only [rnB] at hb
    split at hb
    · rename_i hk
      have hk : k0 < nx := Nat.le_of_ble_eq_true hk
      simp only [rnOf] at h
      split at h
      · rename_i he
        obtain rfl := Nat.eq_of_beq_eq_true he
        simp only [Option.some.injEq] at h; subst h
        refine ⟨hk, fun hnb j hj => ?_⟩
        subst hj
        simp only at hb
        split at hb
        · rename_i h1; exact Nat.le_of_ble_eq_true h1
        · split at hb
          · rename_i h2
            have : k0 + 1 ≤ nb := Nat.le_of_ble_eq_true h2
            omega
          · cases hb
      · have : rnB nb nx l = true := by
          split at hb
          · exact hb
          · split at hb
            · exact hb
            · split at hb
              · exact hb
              · cases hb
        exact rnB_spec this k x h
    · cases hb
theorem kSl_spec {R : Rel} {sl : PT V} : ∀ {l : List (Nat × V)} {K : Prop}, kSl nb r sl l K → K ∧ ∀ t v, (t, v) ∈ l → ∃ u, sl.get t = some u ∧ ∀ y, VR R u y → VR (RnR nb r R) v y
  | [], K, h => ⟨h, fun t v h => by cases h⟩
  | (t0, v0) :: l, K, h => by
    simp only [kSl] at h
    split at h
    · rename_i w hw
      obtain ⟨h, k1⟩ := kV_spec (R := R) v0 h
      obtain ⟨h, k2⟩ := kSl_spec (R := R) h
      refine ⟨h, fun t v hm => ?_⟩
      rcases List.mem_cons.1 hm with e | hm
      · cases e; exact ⟨w, hw, k1⟩
      · exact k2 t v hm
    · exact h.elim
theorem kHp_spec {R : Rel} {hp : PT Ob} : ∀ {l : List (Nat × Ob)} {K : Prop}, kHp nb r hp l K → K ∧ ∀ k o, (k, o) ∈ l → (∃ j o', look nb r k = some (some j) ∧ hp.get j = some o' ∧ (∀ c x, ObR R o' c x → ObR (RnR nb r R) o c x) ∧ (o'.isVoid = true → o.isVoid = true)) ∨ (look nb r k = some none ∧ o.isVoid = true)
  | [], K, h => ⟨h, fun t v h => by cases h⟩
  | (k0, o0) :: l, K, h => by
    simp only [kHp] at h
    split at h
    · rename_i j hj
      split at h
      · rename_i o' ho'
        obtain ⟨h, k1, k2⟩ := kO_spec (R := R) h
        obtain ⟨h, k3⟩ := kHp_spec (R := R) h
        refine ⟨h, fun k o hm => ?_⟩
        rcases List.mem_cons.1 hm with e | hm
        · cases e; exact .inl ⟨j, o', hj, ho', k1, k2⟩
        · exact k3 k o hm
      · exact h.elim
    · rename_i hj
      split at h
      · rename_i T z n f
        obtain ⟨rfl, h⟩ := h
        obtain ⟨h, k3⟩ := kHp_spec (R := R) h
        refine ⟨h, fun k o hm => ?_⟩
        rcases List.mem_cons.1 hm with e | hm
        · cases e; exact .inr ⟨hj, rfl⟩
        · exact k3 k o hm
      · exact h.elim
    · exact h.elim
theorem look_lt {k : Nat} (h : k < nb) : look nb r k = some (some k) := by
  unfold look
  rw [show Nat.ble (Nat.succ k) nb = true from Nat.ble_eq_true_of_le h]
theorem look_ge {k : Nat} (h : nb ≤ k) : look nb r k = rnOf k r := by
  unfold look
  split
  · rename_i hb
    have : k + 1 ≤ nb := Nat.le_of_ble_eq_true hb
    omega
  · rfl
theorem Good.kept {nt nx : Nat} {Hb H : View} {Rb R : Rel} {hb hp : PT Ob} {wb w : World} {sl : PT V} {a : Act} {s : CS} {K : Prop} (hfr : ∀ i b c, Rb i b c → i < nb) (g : Good nt Hb Rb nb hb wb H R sl nx hp a w) (h : KeptR nb r s H sl hp K) :
    K ∧ ∃ R', Good nt Hb Rb nb hb wb s.H R' (ofL s.sl) s.nx (ofL s.hp) a w := by
  obtain ⟨hbool, hH, h3⟩ := ifT_spec h
  subst hH
  simp only [Bool.and_eq_true] at hbool
  obtain ⟨b1, b2, b3⟩ := hbool
  have b1 := Nat.le_of_ble_eq_true b1
  have b2 := rnB_spec b2
  have b3 := (actB_spec b3).2
  obtain ⟨h4, kS⟩ := kSl_spec (R := R) h3
  obtain ⟨h5, kH⟩ := kHp_spec (R := R) h4
  refine ⟨h5, fun i b c => i < s.nx ∧ RnR nb r R i b c, ?_⟩
  have ltn : ∀ i b c, RnR nb r R i b c → i < s.nx := by
    intro i b c hh
    rcases Nat.lt_or_ge i nb with hi | hi
    · omega
    · have : ∃ x, rnOf i r = some x := by
        rcases hh with ⟨j, h1, _⟩ | ⟨h1, _⟩ <;> rw [look_ge hi] at h1 <;> exact ⟨_, h1⟩
      obtain ⟨x, hx⟩ := this
      exact (b2 i x hx).1
  have up : ∀ {v : V} {y : Value}, VR (RnR nb r R) v y → VR (fun i b c => i < s.nx ∧ RnR nb r R i b c) v y := fun h => h.mono fun i b c k => ⟨ltn _ _ _ k, k⟩
  have upO : ∀ {o : Ob} {c : Nat} {x : Obj}, ObR (RnR nb r R) o c x → ObR (fun i b c => i < s.nx ∧ RnR nb r R i b c) o c x := fun h => h.mono fun i b c k => ⟨ltn _ _ _ k, k⟩
  refine ⟨⟨⟨g.ac.size, fun t v hv => ?_⟩, g.ac.nodef⟩, ⟨⟨g.fin.cn.agree, fun i o ho => ?_, ?_, ?_⟩, fun i b c hh => hh.1, ⟨?_, ?_, ?_, b1, g.fin.st.below, g.fin.st.fr⟩, g.fin.le, g.fin.hdom⟩⟩
  · obtain ⟨u, hu, k⟩ := kS t v (ofL_get hv)
    exact up (k _ (g.ac.slots t u hu))
  · rcases kH i o (ofL_get ho) with ⟨j, o', h1, h2, h3, h4⟩ | ⟨h1, h2⟩
    · rcases g.fin.cn.all j o' h2 with ⟨q1, b, q2⟩ | ⟨b, c, x, q1, q2, q3, q4⟩
      · exact .inl ⟨h4 q1, b, ltn i b none (.inl ⟨j, h1, q2⟩), .inl ⟨j, h1, q2⟩⟩
      · exact .inr ⟨b, c, x, ⟨ltn i b _ (.inl ⟨j, h1, q1⟩), .inl ⟨j, h1, q1⟩⟩, q2, q3, upO (h3 _ _ q4)⟩
    · exact .inl ⟨h2, 0, ltn i 0 none (.inr ⟨h1, rfl, rfl⟩), .inr ⟨h1, rfl, rfl⟩⟩
  · rintro i b c b' c' ⟨_, ⟨j, h1, h2⟩ | ⟨h1, rfl, rfl⟩⟩ ⟨_, ⟨j', h1', h2'⟩ | ⟨h1', rfl, rfl⟩⟩
    · rw [h1] at h1'
      simp only [Option.some.injEq] at h1'
      subst h1'
      exact g.fin.cn.fn _ _ _ _ _ h2 h2'
    · rw [h1] at h1'; cases h1'
    · rw [h1] at h1'; cases h1'
    · exact ⟨rfl, rfl⟩
  · rintro i i' o o' b c c' ho ho' ⟨_, hh⟩ ⟨_, hh'⟩
    rcases hh with ⟨j, h1, h2⟩ | ⟨_, _, e⟩
    · rcases hh' with ⟨j', h1', h2'⟩ | ⟨_, _, e⟩
      · rcases kH i o (ofL_get ho) with ⟨j2, q, p1, p2, _⟩ | ⟨p1, _⟩
        · rcases kH i' o' (ofL_get ho') with ⟨j2', q', p1', p2', _⟩ | ⟨p1', _⟩
          · rw [h1] at p1; rw [h1'] at p1'
            simp only [Option.some.injEq] at p1 p1'
            subst p1; subst p1'
            have := g.fin.cn.inj _ _ _ _ _ _ _ p2 p2' h2 h2'
            subst this
            have := b3 i o i' o' j (ofL_get ho) (ofL_get ho') h1 h1'
            exact congrArg Prod.fst this
          · rw [h1'] at p1'; cases p1'
        · rw [h1] at p1; cases p1
      · cases e
    · cases e
  · intro i b c hh
    have hi := hfr _ _ _ hh
    exact ⟨by omega, .inl ⟨i, look_lt hi, g.fin.st.grow _ _ _ hh⟩⟩
  · rintro i b c ⟨hlt, hh⟩
    rcases Nat.lt_or_ge i nb with hi | hi
    · rcases hh with ⟨j, h1, h2⟩ | ⟨h1, _⟩
      · rw [look_lt hi] at h1
        simp only [Option.some.injEq] at h1
        subst h1
        rcases g.fin.st.dom i b c h2 with q | ⟨q1, _, q3⟩
        · exact .inl q
        · omega
      · rw [look_lt hi] at h1; cases h1
    · rcases hh with ⟨j, h1, h2⟩ | ⟨h1, rfl, rfl⟩
      · rw [look_ge hi] at h1
        have hj := (b2 i _ h1).2 hi j rfl
        rcases g.fin.st.dom j b c h2 with q | ⟨q1, _, q3⟩
        · have := hfr _ _ _ q; omega
        · exact .inr ⟨hi, hlt, q3⟩
      · exact .inr ⟨hi, hlt, .inl rfl⟩
  · intro i hi hd
    cases h0 : (ofL s.hp).get i with
    | none => rfl
    | some o =>
      rcases kH i o (ofL_get h0) with ⟨j, o', h1, h2, _⟩ | ⟨h1, _⟩
      · rw [look_lt hi] at h1
        simp only [Option.some.injEq] at h1
        subst h1
        have := g.fin.st.dead i hi hd
        rw [this] at h2; cases h2
      · rw [look_lt hi] at h1; cases h1
end
theorem W.kept {P : Program} {nt nb nx : Nat} {H : View} {hb hp : PT Ob} {sl : PT V} {c : Code} {Q : Post} {s : CS} {K : Prop} (hk : Kept nb s H sl hp K) (h : K → W P nt nb hb c s.H (ofL s.sl) s.nx (ofL s.hp) Q) : W P nt nb hb c H sl nx hp Q := by
  intro Hb Rb wb R a w Q' hfr g k
  obtain ⟨hK, R', g'⟩ := g.kept hfr hk
  exact h hK Hb Rb wb R' a w Q' hfr g' k
end Go.Vm
