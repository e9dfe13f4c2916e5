/- What must hold for a body to come to an end that is wanted: loops by families of states, rows frozen, calls by contracts. -/
import Derived.Test.YtdghfmbbohlcgaaGreatDoorVmY
set_option linter.unusedVariables false
set_option linter.unusedSimpArgs false
namespace Go.Vm
open Go.RowKit

/-! ### rows frozen -/
mutual
def frzV (id b c : Nat) (f : Nat → List V) : V → V
  | .lit x => .lit x
  | .ptr i o => match Nat.beq i id with
    | true => .lit (.pointer (some ⟨b, o, none⟩))
    | false => .ptr i o
  | .sl i o n k => match Nat.beq i id with
    | true => .lit (.slice (some ⟨b, o, none⟩) n k)
    | false => .sl i o n k
  | .osl i j z n => match Nat.beq i id with
    | true => .xs b 0 j z n (Nat.sub c j) f
    | false => .osl i j z n
  | .ep i j z o => match Nat.beq i id with
    | true => .xp b 0 j z o f
    | false => .ep i j z o
  | .mp i => match Nat.beq i id with
    | true => .lit (.map (some b))
    | false => .mp i
  | .fn g l m => .fn g (frzL id b c f l) (frzL id b c f m)
  | .agg l => .agg (frzL id b c f l)
  | .tup l => .tup (frzL id b c f l)
  | .xs b' o i z n c' f' => .xs b' o i z n c' f'
  | .xp b' o i z d f' => .xp b' o i z d f'
def frzL (id b c : Nat) (f : Nat → List V) : List V → List V
  | [] => []
  | v :: l => frzV id b c f v :: frzL id b c f l
end
def frzE (id b c : Nat) (f : Nat → List V) : List Ent → List Ent
  | [] => []
  | e :: l => ⟨e.key, frzV id b c f e.val, e.born⟩ :: frzE id b c f l
def frzO (id b c : Nat) (f : Nat → List V) : Ob → Ob
  | .cells T l => .cells T (frzL id b c f l)
  | .row T z l => .row T z (frzL id b c f l)
  | .ro T z l => .ro T z (frzL id b c f l)
  | .map es n => .map (frzE id b c f es) n
  | .siter s p => .siter s p
  | .miter m x y z => .miter m x y z
  | .fam T z n g => .fam T z n g
  | .fmap es n lk => .fmap es n lk
def PT.map {α β : Type} (g : α → β) : PT α → PT β
  | .nil => .nil
  | .nd v l r => .nd (match v with
    | some x => some (g x)
    | none => none) (l.map g) (r.map g)
theorem PT.get_map {α β : Type} (g : α → β) : ∀ (t : PT α) (k : Nat), (t.map g).get k = (t.get k).map g
  | .nil, k => rfl
  | .nd v l r, 0 => by cases v <;> rfl
  | .nd v l r, k + 1 => by
    simp only [PT.map, PT.get]
    split
    · exact PT.get_map g l _
    · exact PT.get_map g r _
section
variable {R : Rel} {id b c : Nat} {f : Nat → List V}
/-- Without this one. -/
def offR (R : Rel) (id : Nat) : Rel := fun i b c => i ≠ id ∧ R i b c
theorem beq_ne {i id : Nat} (h : Nat.beq i id = false) : i ≠ id := fun e => by subst e; rw [Nat.beq_refl] at h; cases h
mutual
theorem frzV_ok (hfn : ∀ b' c', R id b' c' → (∃ n, c' = some n ∧ b' = b ∧ n = c) ∨ (c' = none ∧ c = 0)) : ∀ (v : V) {y : Value}, VR R v y → VR (offR R id) (frzV id b c f v) y
  | .lit x, _, h => by rw [frzV]; rw [h.lit_inv]; exact .lit _
  | .ptr i o, _, h => by
    rw [frzV.eq_def]; simp only
    cases h with
    | ptr _ h =>
      split
      · rename_i he
        obtain rfl := Nat.eq_of_beq_eq_true he
        rcases hfn _ _ h with ⟨n, h1, rfl, _⟩ | ⟨h1, _⟩
        · exact .lit _
        · cases h1
      · rename_i he; exact .ptr _ ⟨beq_ne he, h⟩
  | .sl i o n k, _, h => by
    rw [frzV.eq_def]; simp only
    cases h with
    | sl _ _ _ h =>
      split
      · rename_i he
        obtain rfl := Nat.eq_of_beq_eq_true he
        rcases hfn _ _ h with ⟨n', h1, rfl, _⟩ | ⟨h1, _⟩
        · exact .lit _
        · cases h1
      · rename_i he; exact .sl _ _ _ ⟨beq_ne he, h⟩
  | .osl i j z n, _, h => by
    rw [frzV.eq_def]; simp only
    split
    · rename_i he
      obtain rfl := Nat.eq_of_beq_eq_true he
      cases h with
      | osl _ _ _ h hn hp =>
        rcases hfn _ _ h with ⟨n', h1, rfl, rfl⟩ | ⟨h1, _⟩
        · simp only [Option.some.injEq] at h1
          subst h1
          exact .xs _ _ _ _ _ (by show n ≤ _ - j; omega) (fun hc => by
            have hc : _ - j ≠ 0 := hc
            rw [hp (by omega)]; simp)
        · cases h1
      | osl0 _ h =>
        rcases hfn _ _ h with ⟨n', h1, _, _⟩ | ⟨_, rfl⟩
        · cases h1
        · exact .xs _ _ _ _ _ (Nat.le_refl _) (fun hc => absurd rfl hc)
    · rename_i he
      cases h with
      | osl _ _ _ h hn hp => exact .osl _ _ _ ⟨beq_ne he, h⟩ hn hp
      | osl0 _ h => exact .osl0 _ ⟨beq_ne he, h⟩
  | .ep i j z o, _, h => by
    rw [frzV.eq_def]; simp only
    cases h with
    | ep _ _ _ h =>
      split
      · rename_i he
        obtain rfl := Nat.eq_of_beq_eq_true he
        rcases hfn _ _ h with ⟨n, h1, h2, _⟩ | ⟨h1, _⟩
        · rw [h2]
          have := VR.xp (R := offR R i) b 0 j z o f
          simpa using this
        · cases h1
      · rename_i he; exact .ep _ _ _ ⟨beq_ne he, h⟩
  | .mp i, _, h => by
    rw [frzV.eq_def]; simp only
    cases h with
    | mp h =>
      split
      · rename_i he
        obtain rfl := Nat.eq_of_beq_eq_true he
        rcases hfn _ _ h with ⟨n, h1, rfl, _⟩ | ⟨h1, _⟩
        · exact .lit _
        · cases h1
      · rename_i he; exact .mp ⟨beq_ne he, h⟩
  | .fn g l m, _, h => by
    rw [frzV]
    cases h with
    | fn _ h1 h2 => exact .fn _ (frzL_ok hfn l h1) (frzL_ok hfn m h2)
  | .agg l, _, h => by
    rw [frzV]
    cases h with
    | agg h1 => exact .agg (frzL_ok hfn l h1)
  | .tup l, _, h => by
    rw [frzV]
    cases h with
    | tup h1 => exact .tup (frzL_ok hfn l h1)
  | .xs b' o i z n c' f', _, h => by
    rw [frzV]
    cases h with
    | xs _ _ _ _ _ h1 h2 => exact .xs _ _ _ _ _ h1 h2
  | .xp b' o i z d f', _, h => by
    rw [frzV]
    cases h with
    | xp _ _ _ _ _ _ => exact .xp _ _ _ _ _ _
theorem frzL_ok (hfn : ∀ b' c', R id b' c' → (∃ n, c' = some n ∧ b' = b ∧ n = c) ∨ (c' = none ∧ c = 0)) : ∀ (v : List V) {y : List Value}, VRs R v y → VRs (offR R id) (frzL id b c f v) y
  | [], _, h => by rw [frzL]; cases h; exact .nil
  | v :: l, _, h => by
    rw [frzL]
    cases h with
    | cons h t => exact .cons (frzV_ok hfn v h) (frzL_ok hfn l t)
end
theorem frzE_ok (hfn : ∀ b' c', R id b' c' → (∃ n, c' = some n ∧ b' = b ∧ n = c) ∨ (c' = none ∧ c = 0)) : ∀ {es : List Ent} {ms : List MapEntry}, ER R es ms → ER (offR R id) (frzE id b c f es) ms
  | _, _, .nil => .nil
  | _, _, .cons (e := e) h t => .cons (e := ⟨e.key, frzV id b c f e.val, e.born⟩) (frzV_ok hfn _ h) (frzE_ok hfn t)
theorem frzO_ok (hfn : ∀ b' c', R id b' c' → (∃ n, c' = some n ∧ b' = b ∧ n = c) ∨ (c' = none ∧ c = 0)) {o : Ob} {cc : Nat} {x : Obj} (h : ObR R o cc x) (hm : ∀ m a b c, o = .miter (some m) a b c → m ≠ id) : ObR (offR R id) (frzO id b c f o) cc x := by
  cases h with
  | cells T _ h h1 => exact .cells T _ (frzL_ok hfn _ h) h1
  | row T sz _ h h1 hc hm => exact .row T sz _ (frzL_ok hfn _ h) h1 hc hm
  | map clock _ h => exact .map clock _ (frzE_ok hfn h)
  | siter s pos _ => exact .siter s pos _
  | miterN a b d => exact .miterN a b d _
  | miter h a b d => exact .miter ⟨hm _ _ _ _ rfl, h⟩ a b d _
  | ro T sz fz _ h h1 => exact .ro T sz fz _ (frzL_ok hfn _ h) h1
  | fam T sz _ hl h h1 hc hm => exact .fam T sz _ hl h h1 hc hm
  | fmap clock _ lk h => exact .fmap clock _ lk h
end
def noMit (id : Nat) : PT Ob → Bool
  | .nil => true
  | .nd v l r => (match v with
    | some (.miter (some m) _ _ _) => !(Nat.beq m id)
    | _ => true) && (noMit id l && noMit id r)
theorem noMit_spec {id : Nat} : ∀ {t : PT Ob}, noMit id t = true → ∀ k m a b c, t.get k = some (.miter (some m) a b c) → m ≠ id
  | .nil, _, k, m, a, b, c, h => by cases h
  | .nd v l r, hb, k, m, a, b, c, h => by
    simp only [noMit, Bool.and_eq_true] at hb
    obtain ⟨h1, h2, h3⟩ := hb
    cases k with
    | zero =>
      have h : v = some (.miter (some m) a b c) := h
      subst h
      intro e
      subst e
      simp [Nat.beq_refl] at h1
    | succ k =>
      simp only [PT.get] at h
      split at h
      · exact noMit_spec h2 _ _ _ _ _ h
      · exact noMit_spec h3 _ _ _ _ _ h
/-- What a slot names is frozen: from now on it lies outside. -/
def frz (t : Nat) (H : View) (sl : PT V) (hp : PT Ob) (K : View → PT V → PT Ob → Prop) : Prop :=
  match sl.get t with
  | some (.osl id _ _ _) => match hp.get id with
    | some (.fam _ z N f) => ifT (Nat.ble 1 z && noMit id hp) (∀ (H' : View) (b c : Nat), Vle H H' → XF H' b 0 z f N → N ≤ c → K H' (sl.map (frzV id b c f)) ((hp.put id none).map (frzO id b c f)))
    | _ => False
  | _ => False
theorem Good.frz {nt nb nx : Nat} {Hb H : View} {Rb R : Rel} {hb hp : PT Ob} {wb w : World} {sl : PT V} {a : Act} {t : Nat} {K : View → PT V → PT Ob → Prop} (hfr : ∀ i b c, Rb i b c → i < nb) (g : Good nt Hb Rb nb hb wb H R sl nx hp a w) (h : Vm.frz t H sl hp K) :
    ∃ H' R' sl' hp', K H' sl' hp' ∧ Good nt Hb Rb nb hb wb H' R' sl' nx hp' a w := by
  unfold Vm.frz at h
  split at h
  · rename_i id j z' n hs
    split at h
    · rename_i T z N f hg
      obtain ⟨hmit, h⟩ := ifT_spec h
      rw [Bool.and_eq_true] at hmit
      have hz1 := Nat.le_of_ble_eq_true hmit.1
      have hmit := noMit_spec hmit.2
      -- whatever becomes of the block, the rest stands
      have rest : ∀ (H' : View) (b c : Nat), (∀ b' c', R id b' c' → (∃ n, c' = some n ∧ b' = b ∧ n = c) ∨ (c' = none ∧ c = 0)) → Vle H H' → Agree w H' → (∀ i o b', i ≠ id → hp.get i = some o → (∃ c', R i b' (some c')) → H' b' = none) → (∀ b' o, H' b' = some o → Hb b' = some o ∨ (wb.heap.size ≤ b' ∨ ∃ i c o', Rb i b' (some c) ∧ hb.get i = some o')) →
          ∃ R', Good nt Hb Rb nb hb wb H' R' (sl.map (frzV id b c f)) nx ((hp.put id none).map (frzO id b c f)) a w := by
        intro H' b c hfn hle hA hH hdom
        have obs : ∀ i o, ((hp.put id none).map (frzO id b c f)).get i = some o → i ≠ id ∧ ∃ o', hp.get i = some o' ∧ o = frzO id b c f o' := by
          intro i o ho
          rw [PT.get_map, PT.get_put] at ho
          split at ho
          · cases ho
          · rename_i hne
            obtain ⟨o', h1, h2⟩ := Option.map_eq_some_iff.1 ho
            exact ⟨hne, o', h1, h2.symm⟩
        refine ⟨fun i b' c' => R i b' c', ⟨⟨g.ac.size, fun t v hv => ?_⟩, g.ac.nodef⟩, ⟨⟨hA, fun i o ho => ?_, g.fin.cn.fn, fun i i' o o' b' c1 c2 h1 h2 h3 h4 => ?_⟩, g.fin.fresh, ⟨g.fin.st.grow, g.fin.st.dom, fun i hi hd => ?_, g.fin.st.le, g.fin.st.below, g.fin.st.fr⟩, fun b' o hb' => hle _ _ (g.fin.le _ _ hb'), hdom⟩⟩
        · rw [PT.get_map] at hv
          obtain ⟨u, h1, rfl⟩ := Option.map_eq_some_iff.1 hv
          exact (frzV_ok hfn u (g.ac.slots t u h1)).mono fun _ _ _ k => k.2
        · obtain ⟨hne, o', h1, rfl⟩ := obs i o ho
          rcases g.fin.cn.all i o' h1 with ⟨q1, b', q2⟩ | ⟨b', c', x, q1, q2, q3, q4⟩
          · exact .inl ⟨(by cases o' <;> first | exact q1 | cases q1), b', q2⟩
          · exact .inr ⟨b', c', x, q1, hH i o' b' hne h1 ⟨c', q1⟩, q3, (frzO_ok hfn q4 fun m a b c e => by subst e; exact hmit i m a b c h1).mono fun _ _ _ k => k.2⟩
        · obtain ⟨_, p1, q1, _⟩ := obs i o h1
          obtain ⟨_, p2, q2, _⟩ := obs i' o' h2
          exact g.fin.cn.inj _ _ _ _ _ _ _ q1 q2 h3 h4
        · cases h0 : ((hp.put id none).map (frzO id b c f)).get i with
          | none => rfl
          | some o =>
            obtain ⟨_, o', q1, _⟩ := obs i o h0
            rw [g.fin.st.dead i hi hd] at q1; cases q1
      rcases g.fin.cn.all id _ hg with ⟨hv, b0, hR⟩ | ⟨b, c, x, hR, k2, k3, k4⟩
      · have hN : N = 0 := Nat.eq_of_beq_eq_true hv
        subst hN
        obtain ⟨R', hg'⟩ := rest H 0 0 (fun b' c' hR' => .inr ⟨(g.fin.cn.fn _ _ _ _ _ hR' hR).2, rfl⟩) (fun _ _ h => h) g.fin.cn.agree (fun i o b' hne ho ⟨c', hc'⟩ => by
          obtain ⟨_, q, _⟩ := g.fin.cn.at ho hc'
          exact q) g.fin.hdom
        exact ⟨H, R', _, _, h H 0 0 (fun _ _ h => h) (fun i hi => by omega) (Nat.le_refl _), hg'⟩
      · let H' : View := fun k => if k = b then some x else H k
        have hH'b : H' b = some x := by simp [H']
        have hne' : ∀ {k : Nat}, k ≠ b → H' k = H k := fun hk => by simp [H', hk]
        have hle : Vle H H' := by
          intro k o hk
          by_cases e : k = b
          · subst e; rw [k2] at hk; cases hk
          · rw [hne' e]; exact hk
        have hA : Agree w H' := by
          intro k o hk
          by_cases e : k = b
          · subst e
            rw [hH'b] at hk
            simp only [Option.some.injEq] at hk
            subst hk; exact k3
          · rw [hne' e] at hk; exact g.fin.cn.agree k o hk
        obtain ⟨R', hg'⟩ := rest H' b c (fun b' c' hR' => by
          obtain ⟨rfl, rfl⟩ := g.fin.cn.fn _ _ _ _ _ hR' hR
          exact .inl ⟨c, rfl, rfl, rfl⟩) hle hA (fun i o b' hne ho ⟨c', hc'⟩ => by
            obtain ⟨_, q, _⟩ := g.fin.cn.at ho hc'
            have : b' ≠ b := fun e => by
              subst e
              exact hne (g.fin.cn.inj _ _ _ _ _ _ _ ho hg hc' hR)
            rw [hne' this]; exact q) (fun b' o hb' => by
            by_cases e : b' = b
            · subst e
              right
              rcases g.fin.st.dom id b' _ hR with q | ⟨_, _, q⟩
              · cases h0 : hb.get id with
                | some o0 => exact .inr ⟨id, c, o0, q, h0⟩
                | none =>
                  have := g.fin.st.dead id (hfr _ _ _ q) h0
                  rw [this] at hg; cases hg
              · rcases q with q | q
                · cases q
                · exact q
            · rw [hne' e] at hb'; exact g.fin.hdom _ _ hb')
        cases k4 with
        | @fam _ _ _ _ ys sp _ hl hv h1 hc hm =>
          have hyl : ys.length = N * z := by rw [← hv.length, flat_length hl]
          refine ⟨H', R', _, _, h H' b c hle (fun i hi => ⟨hl i hi, fun j v hj => ?_⟩) ?_, hg'⟩
          · obtain ⟨zs, q1, q2, q3⟩ := fam_cell hv hl hi
            obtain ⟨y, hy, hvy⟩ := q1.get hj
            have hys := q3 j y hy
            refine ⟨y, hvy, h1 y (List.mem_of_getElem? hys), ?_⟩
            have hlt := (List.getElem?_eq_some_iff.1 hys).1
            simp only [View.cell?, hH'b, Nat.zero_add]
            simp [List.getElem?_append, hlt, (List.getElem?_eq_some_iff.1 hys).2]
          · have : N * z ≤ c * z := by rw [← hc, List.length_append]; omega
            exact Nat.le_of_mul_le_mul_right this hz1
    · exact h.elim
  · exact h.elim
end Go.Vm
