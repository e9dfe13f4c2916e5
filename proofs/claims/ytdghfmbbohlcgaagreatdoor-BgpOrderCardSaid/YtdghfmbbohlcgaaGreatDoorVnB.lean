/- Arguments: what a reading of them tells of their cells. -/
import Derived.Test.YtdghfmbbohlcgaaGreatDoorVnA
import Derived.Deep.Slices
set_option linter.unusedVariables false
namespace Go.Vm
open Go.RowKit
/-- Kinds of cells: numbers, bools, strings, slices of elements of such cells. -/
inductive CK
  | i (k : IntKind)
  | b
  | s
  | sl (es : List CK)
mutual
inductive OpK (w : World) : CK → Value → Prop
  | i (k : IntKind) (n : Int) (h : (Lit.int k n).wf = true) : OpK w (.i k) (.int k n)
  | b (x : Bool) : OpK w .b (.bool x)
  | s (x : ByteArray) (h : x.size ≤ maxLen) : OpK w .s (.string x)
  | nil (es : List CK) : OpK w (.sl es) (.slice none 0 0)
  | sl {es : List CK} (a : Addr) (len cap : Nat) (hl : len ≤ cap) (hm : cap ≤ maxLen) (cs : Nat → List Value) (h0 : ∀ i, i < cap → w.cells? 0 (a.add (i * es.length)) es.length = some (cs i)) (h : ∀ i, i < cap → OpL w es (cs i)) : OpK w (.sl es) (.slice (some a) len cap)
inductive OpL (w : World) : List CK → List Value → Prop
  | nil : OpL w [] []
  | cons {k : CK} {v : Value} {ks : List CK} {vs : List Value} (h : OpK w k v) (t : OpL w ks vs) : OpL w (k :: ks) (v :: vs)
end
theorem OpL.length {w : World} : ∀ {ks : List CK} {vs : List Value}, OpL w ks vs → vs.length = ks.length
  | _, _, .nil => rfl
  | _, _, .cons _ t => by simp [t.length]
theorem OpL.append {w : World} : ∀ {ks ks' : List CK} {vs vs' : List Value}, OpL w ks vs → OpL w ks' vs' → OpL w (ks ++ ks') (vs ++ vs')
  | _, _, _, _, .nil, h => h
  | _, _, _, _, .cons h t, h' => .cons h (t.append h')
mutual
def ckOf (P : Program) : Nat → TypeId → Option (List CK)
  | 0, _ => none
  | n + 1, t => match P.underlying t with
    | some (.int k) => some [.i k]
    | some .bool => some [.b]
    | some .string => some [.s]
    | some (.slice e) => match ckOf P n e with
      | some es => match Nat.beq es.length (P.cellsOf e), es with
        | true, _ :: _ => some [.sl es]
        | _, _ => none
      | none => none
    | some (.struct fs) => match ckFs P n fs.toList 0 with
      | some ks => match Nat.beq ks.length (P.cellsOf t) with
        | true => some ks
        | false => none
      | none => none
    | _ => none
def ckFs (P : Program) : Nat → List Field → Nat → Option (List CK)
  | _, [], _ => some []
  | 0, _ :: _, _ => none
  | n + 1, f :: fs, off => match Nat.beq f.offset off with
    | true => match ckOf P n f.type with
      | some ks => match Nat.beq ks.length (P.cellsOf f.type) with
        | true => match ckFs P n fs (off + ks.length) with
          | some ks' => some (ks ++ ks')
          | none => none
        | false => none
      | none => none
    | false => none
end
section
variable {H : Type} {enc : TypeId × Value → H} {P : Program} {w : World} {held : Bool}
theorem fs_open : ∀ (fs : List Field) (m : Nat) (n : Nat) (off : Nat) (ks : List CK) (cs : List Value),
    (∀ (k : Nat) (t : TypeId) (ks : List CK) (cs : List Value) (fuel : Nat) (x : DataW H × List MemPlace), k < m → ckOf P k t = some ks → DataW.trod enc P w 0 (fun _ => true) held fuel t cs = some x → OpL w ks cs) →
    n ≤ m → ckFs P n fs off = some ks → cs.length = off + ks.length → (∀ f, f ∈ fs → ∃ x, DataW.trod enc P w 0 (fun _ => true) held 0 f.type ((cs.drop f.offset).take (P.cellsOf f.type)) = some x ∨ ∃ fuel, DataW.trod enc P w 0 (fun _ => true) held fuel f.type ((cs.drop f.offset).take (P.cellsOf f.type)) = some x) →
    OpL w ks (cs.drop off)
  | [], m, n, off, ks, cs, ih, hn, h, hl, hf => by
    cases n <;> simp only [ckFs, Option.some.injEq] at h <;> subst h <;> rw [List.drop_eq_nil_of_le (by simp at hl; omega)] <;> exact .nil
  | f :: fs, m, 0, off, ks, cs, ih, hn, h, hl, hf => by simp [ckFs] at h
  | f :: fs, m, n + 1, off, ks, cs, ih, hn, h, hl, hf => by
    simp only [ckFs] at h
    split at h
    · rename_i ho
      split at h
      · rename_i k1 hk
        split at h
        · rename_i hc
          split at h
          · rename_i k2 hk2
            simp only [Option.some.injEq] at h
            subst h
            obtain rfl := Nat.eq_of_beq_eq_true ho
            have hc := Nat.eq_of_beq_eq_true hc
            have h1 : OpL w k1 ((cs.drop f.offset).take (P.cellsOf f.type)) := by
              obtain ⟨x, hx | ⟨fuel, hx⟩⟩ := hf f (.head _)
              · exact ih n _ _ _ _ _ (by omega) hk hx
              · exact ih n _ _ _ _ _ (by omega) hk hx
            have h2 := fs_open fs m n (f.offset + k1.length) k2 cs ih (by omega) hk2 (by simp only [List.length_append] at hl; omega) (fun g hg => hf g (.tail _ hg))
            have := h1.append h2
            rw [← hc] at this
            rw [← List.take_append_drop k1.length (cs.drop f.offset), List.drop_drop]
            exact this
          · cases h
        · cases h
      · cases h
    · cases h
theorem choose_lt' {α : Type} [Inhabited α] {n : Nat} {p : Nat → α → Prop} (h : ∀ i, i < n → ∃ a, p i a) : ∃ f : Nat → α, ∀ i, i < n → p i (f i) := by
  classical
  exact ⟨fun i => if hi : i < n then Classical.choose (h i hi) else default, fun i hi => by simp only [hi, dif_pos]; exact Classical.choose_spec (h i hi)⟩
/-- What a reading tells. -/
theorem ck_open : ∀ (m k : Nat) (t : TypeId) (ks : List CK) (cs : List Value) (fuel : Nat) (x : DataW H × List MemPlace), k < m → ckOf P k t = some ks → DataW.trod enc P w 0 (fun _ => true) held fuel t cs = some x → OpL w ks cs
  | 0, k, t, ks, cs, fuel, x, hk, h, hx => absurd hk (Nat.not_lt_zero _)
  | m + 1, 0, t, ks, cs, fuel, x, hk, h, hx => by simp [ckOf] at h
  | m + 1, k + 1, t, ks, cs, fuel, x, hk, h, hx => by
    have ih := ck_open m
    simp only [ckOf] at h
    split at h
    · rename_i q hu
      simp only [Option.some.injEq] at h; subst h
      obtain ⟨n, rfl, -, hwf⟩ := DataW.trod_int hu hx
      exact .cons (.i _ _ hwf) .nil
    · rename_i hu
      simp only [Option.some.injEq] at h; subst h
      obtain ⟨n, rfl, -⟩ := DataW.trod_bool hu hx
      exact .cons (.b _) .nil
    · rename_i hu
      simp only [Option.some.injEq] at h; subst h
      obtain ⟨n, rfl, -, hl⟩ := DataW.trod_string hu hx
      exact .cons (.s _ hl) .nil
    · rename_i e hu
      split at h
      · rename_i es hes
        split at h
        · rename_i _ _ hc
          simp only [Option.some.injEq] at h; subst h
          have hc := Nat.eq_of_beq_eq_true hc
          rcases Go.Deep.open_slice hu hx with ⟨rfl, -⟩ | ⟨a, len, cap, mm, n, D, Pl, rfl, hb, hl, hm, hmm, -, hel⟩
          · exact .cons (.nil _) .nil
          · simp only [if_true] at hmm
            subst hmm
            rw [← hc] at hel
            obtain ⟨c, hcs⟩ := choose_lt' hel
            exact .cons (.sl a len mm hl hm c (fun i hi => (hcs i hi).1) (fun i hi => ih k _ _ _ _ _ (by omega) hes (hcs i hi).2)) .nil
        · cases h
      · cases h
    · rename_i fs hu
      split at h
      · rename_i k1 hk1
        split at h
        · rename_i hc
          simp only [Option.some.injEq] at h; subst h
          have hc := Nat.eq_of_beq_eq_true hc
          obtain ⟨xs, n, rfl, -, hlen, hxl, hf⟩ := DataW.trod_struct hu hx
          have := fs_open (enc := enc) (held := held) fs.toList m k 0 k1 cs ih (by omega) hk1 (by omega) fun f hf' => by
            obtain ⟨i, hi⟩ := List.getElem?_of_mem hf'
            have g := hf i f (by simpa using hi)
            have hlt : i < xs.length := by rw [hxl]; have := (List.getElem?_eq_some_iff.1 hi).1; simpa using this
            rw [List.getElem?_eq_getElem hlt] at g
            exact ⟨_, .inr ⟨_, g⟩⟩
          simpa using this
        · cases h
      · cases h
    · cases h
end
/-- The memory as it stands. -/
def hv (w : World) : View := fun b => w.heap[b]?
theorem hv_agree (w : World) : Agree w (hv w) := fun _ _ h => h
theorem hv_cell {w : World} {a : Addr} {v : Value} (h : w.cell? a = some v) : (hv w).cell? a = some v := by
  unfold View.cell? hv
  unfold World.cell? at h
  split at h
  · rename_i c e f hh
    rw [hh]
    exact h
  · cases h
theorem OpL.one {w : World} : ∀ {ks : List CK} {vs : List Value}, OpL w ks vs → ∀ v ∈ vs, v.oneCell' = true
  | _, _, .nil, v, h => by cases h
  | _, _, .cons h t, v, hv => by
    rcases List.mem_cons.1 hv with rfl | hv
    · cases h <;> rfl
    · exact t.one v hv
theorem VRs.get2 {R : Rel} : ∀ {vs : List V} {ys : List Value} {i : Nat} {v : V}, VRs R vs ys → vs[i]? = some v → ∃ y, ys[i]? = some y ∧ VR R v y
  | _, _, 0, _, .cons h _, e => by simp only [List.getElem?_cons_zero, Option.some.injEq] at e; subst e; exact ⟨_, rfl, h⟩
  | _, _, i + 1, _, .cons _ t, e => by simp only [List.getElem?_cons_succ] at e ⊢; exact t.get2 e
/-- A slice outside, decoded element by element. -/
theorem OpK.slice {w : World} {R : Rel} {α : Type} [Inhabited α] {es : List CK} {v : Value} (D : α → List V) (ok : α → Prop) (hpos : 0 < es.length) (dec : ∀ cs, OpL w es cs → ∃ a, VRs R0 (D a) cs ∧ ok a) (h : OpK w (.sl es) v) :
    ∃ (b o c : Nat) (l : List α), VR R (.xs b o 0 es.length l.length c (fun i => D (l.getD i default))) v ∧ XF (hv w) b o es.length (fun i => D (l.getD i default)) l.length ∧ (∀ a ∈ l, ok a) ∧ l.length ≤ maxLen := by
  cases h with
  | nil => exact ⟨0, 0, 0, [], .xs 0 0 0 _ _ (Nat.le_refl _) (fun h => absurd rfl h), fun i hi => absurd hi (Nat.not_lt_zero _), (fun a h => by cases h), Nat.zero_le _⟩
  | sl a len cap hl hm cs h0 h =>
    obtain ⟨f, hf⟩ := choose_lt' (fun i hi => dec _ (h i hi))
    have hlen : ((List.range len).map f).length = len := by simp
    have hget : ∀ i, i < len → ((List.range len).map f).getD i default = f i := fun i hi => by simp [List.getD, hi]
    obtain ⟨b, o, spot⟩ := a
    have hspot : 0 < cap → spot = none := fun hc => by
      obtain ⟨-, hl2, hcell⟩ := World.cells?_some (h0 0 hc)
      have := hcell 0 hpos
      rw [List.getElem?_eq_getElem (by omega)] at this
      simpa [Addr.add] using World.cell?_spot this
    refine ⟨b, o, cap, (List.range len).map f, ?_, ?_, ?_, ?_⟩
    · rw [hlen]
      exact .xs b o 0 _ _ hl (fun hc => by rw [hspot (by omega)]; simp)
    · rw [hlen]
      intro i hi
      have hic : i < cap := by omega
      obtain rfl := hspot (by omega)
      unfold XE
      simp only [hget i hi]
      obtain ⟨-, hl2, hcell⟩ := World.cells?_some (h0 i hic)
      have hv1 := (hf i hic).1
      refine ⟨by rw [hv1.length, hl2], fun j u hu => ?_⟩
      obtain ⟨y, hy, hr⟩ := hv1.get2 hu
      have hj : j < es.length := by have := (List.getElem?_eq_some_iff.1 hy).1; omega
      refine ⟨y, hr, (h i hic).one y (List.mem_of_getElem? hy), hv_cell ?_⟩
      have := hcell j hj
      rw [WideShapes.add_plain, WideShapes.add_plain] at this
      rw [this, hy]
    · intro a ha
      obtain ⟨i, hi, rfl⟩ := List.mem_map.1 ha
      exact (hf i (by have := List.mem_range.1 hi; omega)).2
    · rw [hlen]; omega
end Go.Vm
