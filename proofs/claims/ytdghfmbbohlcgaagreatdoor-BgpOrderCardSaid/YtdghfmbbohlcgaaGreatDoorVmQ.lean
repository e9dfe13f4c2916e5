/- Calls with names of their own: what a callee sees is a part of the caller's memory, under other names. -/
import Derived.Test.YtdghfmbbohlcgaaGreatDoorVmP
set_option linter.unusedVariables false
set_option linter.unusedSimpArgs false
namespace Go.Vm
open Go.RowKit

mutual
def ren (ρ : Nat → Nat) : V → V
  | .lit x => .lit x
  | .ptr i o => .ptr (ρ i) o
  | .sl i o n c => .sl (ρ i) o n c
  | .osl i k z n => .osl (ρ i) k z n
  | .mp i => .mp (ρ i)
  | .fn g l m => .fn g (renL ρ l) (renL ρ m)
  | .agg l => .agg (renL ρ l)
  | .tup l => .tup (renL ρ l)
  | .ep i k z o => .ep (ρ i) k z o
  | .xs b o i z n c f => .xs b o i z n c f
  | .xp b o i z d f => .xp b o i z d f
def renL (ρ : Nat → Nat) : List V → List V
  | [] => []
  | v :: l => ren ρ v :: renL ρ l
end
mutual
def ltV (k : Nat) : V → Prop
  | .lit _ => True
  | .ptr i _ => i < k
  | .sl i _ _ _ => i < k
  | .osl i _ _ _ => i < k
  | .mp i => i < k
  | .fn _ l m => ltL k l ∧ ltL k m
  | .agg l => ltL k l
  | .tup l => ltL k l
  | .ep i _ _ _ => i < k
  | .xs _ _ _ _ _ _ _ => True
  | .xp _ _ _ _ _ _ => True
def ltL (k : Nat) : List V → Prop
  | [] => True
  | v :: l => ltV k v ∧ ltL k l
end
def renE (ρ : Nat → Nat) : List Ent → List Ent
  | [] => []
  | e :: l => ⟨e.key, ren ρ e.val, e.born⟩ :: renE ρ l
def ltE (k : Nat) : List Ent → Prop
  | [] => True
  | e :: l => ltV k e.val ∧ ltE k l
def Ob.ren (ρ : Nat → Nat) : Ob → Ob
  | .cells T cs => .cells T (renL ρ cs)
  | .row T z cs => .row T z (renL ρ cs)
  | .ro T z cs => .ro T z (renL ρ cs)
  | .map es n => .map (renE ρ es) n
  | .siter s p => .siter s p
  | .miter m a b c => .miter (m.map ρ) a b c
  | .fam T z n f => .fam T z n f
  | .fmap es n lk => .fmap es n lk
def Ob.lt (k : Nat) : Ob → Prop
  | .cells _ cs => ltL k cs
  | .row _ _ cs => ltL k cs
  | .ro _ _ cs => ltL k cs
  | .map es _ => ltE k es
  | .siter _ _ => True
  | .miter m _ _ _ => ∀ i, m = some i → i < k
  | .fam _ _ _ _ => True
  | .fmap _ _ _ => True
theorem renL_append (ρ : Nat → Nat) : ∀ l m : List V, renL ρ (l ++ m) = renL ρ l ++ renL ρ m
  | [], m => by rw [renL]; rfl
  | v :: l, m => by rw [List.cons_append, renL, renL, renL_append ρ l m, List.cons_append]
theorem renL_length (ρ : Nat → Nat) : ∀ l : List V, (renL ρ l).length = l.length
  | [] => by rw [renL]
  | v :: l => by rw [renL, List.length_cons, List.length_cons, renL_length ρ l]
theorem flat_succ (n : Nat) (f : Nat → List V) : flat (n + 1) f = flat n f ++ f n := rfl
theorem flat_zero (f : Nat → List V) : flat 0 f = [] := rfl
theorem ltL_append (k : Nat) : ∀ {l m : List V}, ltL k l → ltL k m → ltL k (l ++ m)
  | [], m, _, h => h
  | v :: l, m, h, h2 => ⟨h.1, ltL_append k h.2 h2⟩
theorem Ob.ren_void (ρ : Nat → Nat) (o : Ob) : (o.ren ρ).isVoid = o.isVoid := by cases o <;> rfl
section
variable {R R' : Rel} {ρ : Nat → Nat} {k : Nat}
mutual
theorem VR.ren (hr : ∀ i b c, R i b c → R' (ρ i) b c) : ∀ {v : V} {y : Value}, VR R v y → VR R' (ren ρ v) y
  | _, _, .lit x => .lit x
  | _, _, .ptr off h => .ptr off (hr _ _ _ h)
  | _, _, .sl off n k h => .sl off n k (hr _ _ _ h)
  | _, _, .osl i sz n h hn hp => .osl i sz n (hr _ _ _ h) hn hp
  | _, _, .osl0 sz h => .osl0 sz (hr _ _ _ h)
  | _, _, .ep i sz off h => .ep i sz off (hr _ _ _ h)
  | _, _, .xs b o i sz f hn hp => .xs b o i sz f hn hp
  | _, _, .xp b o i sz off f => .xp b o i sz off f
  | _, _, .mp h => .mp (hr _ _ _ h)
  | _, _, .fn g h1 h2 => .fn g (VRs.ren hr h1) (VRs.ren hr h2)
  | _, _, .agg h => .agg (VRs.ren hr h)
  | _, _, .tup h => .tup (VRs.ren hr h)
theorem VRs.ren (hr : ∀ i b c, R i b c → R' (ρ i) b c) : ∀ {v : List V} {y : List Value}, VRs R v y → VRs R' (renL ρ v) y
  | _, _, .nil => .nil
  | _, _, .cons h t => .cons (VR.ren hr h) (VRs.ren hr t)
end
mutual
theorem VR.back (hr : ∀ i b c, i < k → R' (ρ i) b c → R i b c) : ∀ (v : V) {y : Value}, ltV k v → VR R' (Vm.ren ρ v) y → VR R v y
  | .lit x, _, _, h => by rw [Vm.ren] at h; rw [h.lit_inv]; exact .lit x
  | .ptr i o, _, hl, h => by
    rw [Vm.ren] at h; rw [ltV] at hl
    cases h with
    | ptr _ h => exact .ptr o (hr _ _ _ hl h)
  | .sl i o n c, _, hl, h => by
    rw [Vm.ren] at h; rw [ltV] at hl
    cases h with
    | sl _ _ _ h => exact .sl o n c (hr _ _ _ hl h)
  | .osl i j z n, _, hl, h => by
    rw [Vm.ren] at h; rw [ltV] at hl
    cases h with
    | osl _ _ _ h hn hp => exact .osl j z n (hr _ _ _ hl h) hn hp
    | osl0 _ h => exact .osl0 z (hr _ _ _ hl h)
  | .ep i j z o, _, hl, h => by
    rw [Vm.ren] at h; rw [ltV] at hl
    cases h with
    | ep _ _ _ h => exact .ep j z o (hr _ _ _ hl h)
  | .xs b o i z n c f, _, hl, h => by
    rw [Vm.ren] at h
    cases h with
    | xs _ _ _ _ _ hn hp => exact .xs b o i z f hn hp
  | .xp b o i z d f, _, hl, h => by
    rw [Vm.ren] at h
    cases h with
    | xp _ _ _ _ _ _ => exact .xp b o i z d f
  | .mp i, _, hl, h => by
    rw [Vm.ren] at h; rw [ltV] at hl
    cases h with
    | mp h => exact .mp (hr _ _ _ hl h)
  | .fn g l m, _, hl, h => by
    rw [Vm.ren] at h; rw [ltV] at hl
    cases h with
    | fn _ h1 h2 => exact .fn g (VRs.back hr l hl.1 h1) (VRs.back hr m hl.2 h2)
  | .agg l, _, hl, h => by
    rw [Vm.ren] at h; rw [ltV] at hl
    cases h with
    | agg h => exact .agg (VRs.back hr l hl h)
  | .tup l, _, hl, h => by
    rw [Vm.ren] at h; rw [ltV] at hl
    cases h with
    | tup h => exact .tup (VRs.back hr l hl h)
theorem VRs.back (hr : ∀ i b c, i < k → R' (ρ i) b c → R i b c) : ∀ (v : List V) {y : List Value}, ltL k v → VRs R' (renL ρ v) y → VRs R v y
  | [], _, _, h => by
    rw [renL] at h
    cases h
    exact .nil
  | v :: l, _, hl, h => by
    rw [renL] at h; rw [ltL] at hl
    cases h with
    | cons h t => exact .cons (VR.back hr v hl.1 h) (VRs.back hr l hl.2 t)
end
theorem ER.ren (hr : ∀ i b c, R i b c → R' (ρ i) b c) : ∀ {es : List Ent} {ms : List MapEntry}, ER R es ms → ER R' (renE ρ es) ms
  | _, _, .nil => .nil
  | _, _, .cons (e := e) h t => .cons (e := ⟨e.key, Vm.ren ρ e.val, e.born⟩) (h.ren hr) (ER.ren hr t)
theorem ER.back (hr : ∀ i b c, i < k → R' (ρ i) b c → R i b c) : ∀ (es : List Ent) {ms : List MapEntry}, ltE k es → ER R' (renE ρ es) ms → ER R es ms
  | [], _, _, h => by
    rw [renE] at h
    cases h
    exact .nil
  | ⟨ek, ev, eb⟩ :: l, _, hl, h => by
    rw [renE] at h; rw [ltE] at hl
    cases h with
    | cons h t => exact .cons (e := ⟨ek, ev, eb⟩) (VR.back hr ev hl.1 h) (ER.back hr l hl.2 t)
theorem ObR.ren (hr : ∀ i b c, R i b c → R' (ρ i) b c) {o : Ob} {c : Nat} {x : Obj} (h : ObR R o c x) : ObR R' (o.ren ρ) c x := by
  cases h with
  | cells T c h h1 => exact .cells T c (h.ren hr) h1
  | row T sz c h h1 hc hm => exact .row T sz c (h.ren hr) h1 hc hm
  | map clock c h => exact .map clock c (h.ren hr)
  | siter s pos c => exact .siter s pos c
  | miterN a b d => exact .miterN a b d c
  | miter h a b d => exact .miter (hr _ _ _ h) a b d c
  | ro T sz fz c h h1 => exact .ro T sz fz c (h.ren hr) h1
  | fam T sz c hl h h1 hc hm => exact .fam T sz c hl h h1 hc hm
  | fmap clock c lk h => exact .fmap clock c lk h
theorem ObR.back (hr : ∀ i b c, i < k → R' (ρ i) b c → R i b c) {o : Ob} {c : Nat} {x : Obj} (hl : o.lt k) (h : ObR R' (o.ren ρ) c x) : ObR R o c x := by
  cases o with
  | cells T cs => cases h with | cells _ _ h h1 => exact .cells T c (VRs.back hr cs hl h) h1
  | row T z cs => cases h with | row _ _ _ h h1 hc hm => exact .row T z c (VRs.back hr cs hl h) h1 hc hm
  | ro T z cs => cases h with | ro _ _ fz _ h h1 => exact .ro T z fz c (VRs.back hr cs hl h) h1
  | map es n => cases h with | map _ _ h => exact .map n c (ER.back hr es hl h)
  | siter s p => cases h with | siter _ _ _ => exact .siter s p c
  | miter m a b d =>
    cases m with
    | none => cases h with | miterN _ _ _ _ => exact .miterN a _ d c
    | some i => cases h with | miter h _ _ _ _ => exact .miter (hr _ _ _ (hl i rfl) h) a _ d c
  | fam T z n f =>
    cases h with
    | fam _ _ _ hl' h h1 hc hm => exact .fam T z c hl' h h1 hc hm
  | fmap es n lk => cases h with | fmap _ _ _ h => exact .fmap n c lk h
end
/-! ### what a function comes to, in names of its own -/
abbrev Vle (H H' : View) : Prop := ∀ b o, H b = some o → H' b = some o
structure Fin (H : View) (R : Rel) (k : Nat) (hp : PT Ob) (w : World) (H' : View) (R' : Rel) (n' : Nat) (hp' : PT Ob) (w' : World) : Prop where
  cn : Cn H' R' hp' w'
  fresh : ∀ i b c, R' i b c → i < n'
  st : St R k hp w R' n' hp' w'
  le : Vle H H'
  hdom : ∀ b o, H' b = some o → H b = some o ∨ (w.heap.size ≤ b ∨ ∃ i c o', R i b (some c) ∧ hp.get i = some o')
/-- A contract. -/
def Con (P : Program) (g : FuncId) (H : View) (args : List V) (k : Nat) (hp : PT Ob) (Q : View → V → Nat → PT Ob → Prop) : Prop :=
  ∀ R w ys, Cn H R hp w → (∀ i b c, R i b c → i < k) → VRs R args ys → Calls P g ys.toArray w fun e w' => ∃ H' R' v y n' hp', e = .returned y ∧ VR R' v y ∧ Fin H R k hp w H' R' n' hp' w' ∧ Q H' v n' hp'
/-- The callee's names, in the caller's words. -/
def names (ρ : Nat → Nat) (k n : Nat) (i : Nat) : Nat := if i < k then ρ i else n + (i - k)
/-- The caller's memory behind the call: what the callee left, under the caller's names; all else as it was. -/
def After (ρ : Nat → Nat) (k n n' : Nat) (hp0 hp0' hpc hpc' : PT Ob) : Prop :=
  ∀ j ob, hpc'.get j = some ob → (∃ i o, i < n' ∧ j = names ρ k n i ∧ hp0'.get i = some o ∧ ob = o.ren (names ρ k n)) ∨ (hpc.get j = some ob ∧ ∀ i o, hp0.get i = some o → j ≠ ρ i)
theorem call_frame {P : Program} {g : FuncId} {H : View} {args : List V} {k n : Nat} {hp0 hpc : PT Ob} {Q : View → V → Nat → PT Ob → Prop} (hc : Con P g H args k hp0 Q) {ρ : Nat → Nat} (hargs : ltL k args) (hob : ∀ i o, hp0.get i = some o → i < k ∧ o.lt k ∧ hpc.get (ρ i) = some (o.ren ρ)) (hinj : ∀ i j, i < k → j < k → ρ i = ρ j → i = j) (hlt : ∀ i, i < k → ρ i < n)
    {Q' : View → V → Nat → PT Ob → Prop} (hQ : ∀ H' v n' hp0', Q H' v n' hp0' → k ≤ n' → ∃ hpc', After ρ k n n' hp0 hp0' hpc hpc' ∧ Q' H' (ren (names ρ k n) v) (n + (n' - k)) hpc') : Con P g H (renL ρ args) n hpc Q' := by
  intro Rc w ys hC hfr hys
  let R : Rel := fun i b c => i < k ∧ Rc (ρ i) b c
  have back : ∀ i b c, i < k → Rc (ρ i) b c → R i b c := fun i b c h1 h2 => ⟨h1, h2⟩
  have hC0 : Cn H R hp0 w := by
    refine ⟨hC.agree, fun i o ho => ?_, fun i b c b' c' h h' => hC.fn _ _ _ _ _ h.2 h'.2, fun i j o o' b c c' ho ho' h h' => ?_⟩
    · obtain ⟨h1, h2, h3⟩ := hob i o ho
      rcases hC.all _ _ h3 with ⟨q1, b, q2⟩ | ⟨b, c, x, q1, q2, q3, q4⟩
      · exact .inl ⟨by rw [← Ob.ren_void ρ]; exact q1, b, h1, q2⟩
      · exact .inr ⟨b, c, x, ⟨h1, q1⟩, q2, q3, ObR.back back h2 q4⟩
    · exact hinj i j h.1 h'.1 (hC.inj _ _ _ _ _ _ _ (hob i o ho).2.2 (hob j o' ho').2.2 h.2 h'.2)
  refine Calls.mono (hc R w ys hC0 (fun i b c h => h.1) (VRs.back back args hargs hys)) ?_
  rintro e w' ⟨H', R', v, y, n', hp0', rfl, hv, F, hq⟩
  have hle := F.st.le
  obtain ⟨hpc', hA, hq'⟩ := hQ _ _ _ _ hq hle
  let Rc' : Rel := fun j b c => Rc j b c ∨ ∃ i, k ≤ i ∧ i < n' ∧ j = n + (i - k) ∧ R' i b c
  have old : ∀ i b c, R' i b c → i < k → R i b c := by
    intro i b c h hi
    rcases F.st.dom i b c h with h | ⟨h1, _⟩
    · exact h
    · omega
  have fwd : ∀ i b c, R' i b c → Rc' (names ρ k n i) b c := by
    intro i b c h
    unfold names
    split
    · rename_i hi; exact .inl (old i b c h hi).2
    · rename_i hi; exact .inr ⟨i, by omega, F.fresh _ _ _ h, rfl, h⟩
  have live : ∀ i o b c, hp0'.get i = some o → R' i b c → i < k → ∃ o0, hp0.get i = some o0 := by
    intro i o b c ho h hi
    cases h0 : hp0.get i with
    | some o0 => exact ⟨o0, rfl⟩
    | none => rw [F.st.dead i hi h0] at ho; cases ho
  -- a block of one who is not handed on
  have apart : ∀ j ob b c, hpc.get j = some ob → (∀ i o, hp0.get i = some o → j ≠ ρ i) → Rc j b (some c) → ∀ i c0 o0, R i b (some c0) → hp0.get i = some o0 → False := by
    intro j ob b c hj hn hr i c0 o0 hi ho
    exact hn i o0 ho (hC.inj _ _ _ _ _ _ _ hj (hob i o0 ho).2.2 hr hi.2)
  have frame : ∀ j ob, hpc.get j = some ob → (∀ i o, hp0.get i = some o → j ≠ ρ i) → (ob.isVoid = true ∧ ∃ b, Rc j b none) ∨ ∃ b c x, Rc j b (some c) ∧ H b = none ∧ w.heap[b]? = some x ∧ ObR Rc ob c x ∧ w'.heap[b]? = some x ∧ H' b = none := by
    intro j ob hj hn
    rcases hC.all _ _ hj with q | ⟨b, c, x, q1, q2, q3, q4⟩
    · exact .inl q
    refine .inr ⟨b, c, x, q1, q2, q3, q4, F.st.fr b x q3 fun i c0 h => ?_, ?_⟩
    · cases h0 : hp0.get i with
      | none => rfl
      | some o0 => exact (apart j ob b c hj hn q1 i c0 o0 h h0).elim
    · cases hb : H' b with
      | none => rfl
      | some o =>
        rcases F.hdom b o hb with h | h | ⟨i, c0, o', h1, h2⟩
        · rw [q2] at h; cases h
        · have := lt_of_some q3; omega
        · exact (apart j ob b c hj hn q1 i c0 o' h1 h2).elim
  have mix : ∀ j ob b c, hpc.get j = some ob → (∀ i o, hp0.get i = some o → j ≠ ρ i) → Rc j b (some c) → ∀ i o c', hp0'.get i = some o → R' i b (some c') → False := by
    intro j ob b c hj hn hr i o c' ho h
    rcases frame j ob hj hn with ⟨_, b0, q⟩ | ⟨b0, c0, x, q1, q2, q3, q4, q5, q6⟩
    · cases (hC.fn _ _ _ _ _ hr q).2
    obtain ⟨rfl, e⟩ := hC.fn _ _ _ _ _ hr q1
    cases e
    rcases F.st.dom i b _ h with h1 | ⟨h1, h2, h3⟩
    · obtain ⟨o0, ho0⟩ := live i o b _ ho h h1.1
      exact apart j ob b c hj hn hr i c' o0 h1 ho0
    · rcases h3 with h3 | h3 | ⟨i0, c0, o0, h3, h4⟩
      · cases h3
      · have := lt_of_some q3; omega
      · exact apart j ob b c hj hn hr i0 c0 o0 h3 h4
  have lift : ∀ i b c, Rc i b c → Rc' i b c := fun _ _ _ h => .inl h
  have named : ∀ i j b c, i < n' → j = names ρ k n i → Rc' j b c → (∃ b0 c0, R' i b0 c0) → R' i b c := by
    rintro i j b c hi rfl h ⟨b0, c0, h0⟩
    have h1 := fwd i b0 c0 h0
    unfold names at h h1
    split at h
    · rename_i hik
      have h2 := old i b0 c0 h0 hik
      rcases h with h | ⟨i', q1, q2, q3, q4⟩
      · obtain ⟨rfl, rfl⟩ := hC.fn _ _ _ _ _ h h2.2
        exact h0
      · have := hlt i hik; omega
    · rename_i hik
      rcases h with h | ⟨i', q1, q2, q3, q4⟩
      · have := hfr _ _ _ h; omega
      · have : i' = i := by omega
        subst this; exact q4
  have some0 : ∀ i o, hp0'.get i = some o → ∃ b0 c0, R' i b0 c0 := by
    intro i o h
    rcases F.cn.all i o h with ⟨_, b, q⟩ | ⟨b, c, x, q, _⟩
    · exact ⟨_, _, q⟩
    · exact ⟨_, _, q⟩
  have some1 : ∀ j o, hpc.get j = some o → ∃ b0 c0, Rc j b0 c0 := by
    intro i o h
    rcases hC.all i o h with ⟨_, b, q⟩ | ⟨b, c, x, q, _⟩
    · exact ⟨_, _, q⟩
    · exact ⟨_, _, q⟩
  refine ⟨H', Rc', Vm.ren (names ρ k n) v, y, n + (n' - k), hpc', rfl, hv.ren fwd, ⟨⟨F.cn.agree, ?_, ?_, ?_⟩, ?_, ⟨lift, ?_, ?_, by omega, F.st.below, ?_⟩, F.le, ?_⟩, hq'⟩
  · intro j ob hj
    rcases hA j ob hj with ⟨i, o, h1, rfl, h3, rfl⟩ | ⟨h1, h2⟩
    · rcases F.cn.all i o h3 with ⟨q1, b, q2⟩ | ⟨b, c, x, q1, q2, q3, q4⟩
      · exact .inl ⟨by rw [Ob.ren_void]; exact q1, b, fwd _ _ _ q2⟩
      · exact .inr ⟨b, c, x, fwd _ _ _ q1, q2, q3, q4.ren fwd⟩
    · rcases frame j ob h1 h2 with ⟨q1, b, q2⟩ | ⟨b, c, x, q1, q2, q3, q4, q5, q6⟩
      · exact .inl ⟨q1, b, .inl q2⟩
      · exact .inr ⟨b, c, x, .inl q1, q6, q5, q4.mono lift⟩
  · rintro j b c b' c' (h | ⟨i, h1, h2, h3, h4⟩) (h' | ⟨i', h1', h2', h3', h4'⟩)
    · exact hC.fn _ _ _ _ _ h h'
    · have := hfr _ _ _ h; omega
    · have := hfr _ _ _ h'; omega
    · have : i = i' := by omega
      subst this
      exact F.cn.fn _ _ _ _ _ h4 h4'
  · intro j j' ob ob' b c c' hj hj' h h'
    rcases hA j ob hj with ⟨i, o, h1, e1, h3, _⟩ | ⟨h1, h2⟩ <;> rcases hA j' ob' hj' with ⟨i', o', h1', e1', h3', _⟩ | ⟨h1', h2'⟩
    · have r1 := named i j b _ h1 e1 h (some0 _ _ h3)
      have r2 := named i' j' b _ h1' e1' h' (some0 _ _ h3')
      have := F.cn.inj _ _ _ _ _ _ _ h3 h3' r1 r2
      subst this
      rw [e1, e1']
    · have r1 := named i j b _ h1 e1 h (some0 _ _ h3)
      rcases h' with h' | ⟨i2, p1, p2, p3, p4⟩
      · exact (mix j' ob' b c' h1' h2' h' i o c h3 r1).elim
      · obtain ⟨b2, c2, r2⟩ := some1 _ _ h1'
        have := hfr _ _ _ r2; omega
    · have r1 := named i' j' b _ h1' e1' h' (some0 _ _ h3')
      rcases h with h | ⟨i2, p1, p2, p3, p4⟩
      · exact (mix j ob b c h1 h2 h i' o' c' h3' r1).elim
      · obtain ⟨b2, c2, r2⟩ := some1 _ _ h1
        have := hfr _ _ _ r2; omega
    · rcases h with h | ⟨i2, p1, p2, p3, p4⟩
      · rcases h' with h' | ⟨i3, p1', p2', p3', p4'⟩
        · exact hC.inj _ _ _ _ _ _ _ h1 h1' h h'
        · obtain ⟨b2, c2, r2⟩ := some1 _ _ h1'
          have := hfr _ _ _ r2; omega
      · obtain ⟨b2, c2, r2⟩ := some1 _ _ h1
        have := hfr _ _ _ r2; omega
  · rintro j b c (h | ⟨i, h1, h2, h3, h4⟩)
    · have := hfr _ _ _ h; omega
    · omega
  · rintro j b c (h | ⟨i, h1, h2, h3, h4⟩)
    · exact .inl h
    · refine .inr ⟨by omega, by omega, ?_⟩
      rcases F.st.dom i b c h4 with h | ⟨_, _, h⟩
      · have := h.1; omega
      · exact h.imp id fun h => h.imp id fun ⟨i0, c0, o, q1, q2⟩ => ⟨ρ i0, c0, _, q1.2, (hob i0 o q2).2.2⟩
  · intro j hj hn
    cases hg : hpc'.get j with
    | none => rfl
    | some ob =>
      exfalso
      rcases hA j ob hg with ⟨i, o, h1, e1, h3, _⟩ | ⟨h1, _⟩
      · unfold names at e1
        split at e1
        · rename_i hik
          obtain ⟨b0, c0, q0⟩ := some0 _ _ h3
          obtain ⟨o0, ho0⟩ := live i o b0 c0 h3 q0 hik
          rw [e1, (hob i o0 ho0).2.2] at hn; cases hn
        · omega
      · rw [hn] at h1; cases h1
  · intro b x hb hd
    refine F.st.fr b x hb fun i c h => ?_
    cases h0 : hp0.get i with
    | none => rfl
    | some o0 =>
      have := hd _ _ h.2
      rw [(hob i o0 h0).2.2] at this; cases this
  · intro b o hb
    rcases F.hdom b o hb with h | h | ⟨i, c, o', h1, h2⟩
    · exact .inl h
    · exact .inr (.inl h)
    · exact .inr (.inr ⟨ρ i, c, _, h1.2, (hob i o' h2).2.2⟩)
end Go.Vm
