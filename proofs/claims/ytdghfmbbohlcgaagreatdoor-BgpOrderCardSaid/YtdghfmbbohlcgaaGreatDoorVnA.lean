/- What must hold for a body to come to an end that is wanted. -/
import Derived.Test.YtdghfmbbohlcgaaGreatDoorVmZ
set_option linter.unusedVariables false
set_option linter.unusedSimpArgs false
namespace Go.Vm
open Go.RowKit

mutual
/-- What is said of a body, place by place: loops' states; what is frozen; where ways meet. -/
inductive An : Type 1
  | nil
  | two (a b : An)
  | one (a : An)
  | loop (l : Fams)
  | unroll (k : Nat) (a : An)
  | known (a b : An)
  | frz (ts : List Nat) (a : An)
  | cut (ts : List Nat) (l : Fams)
inductive Fams : Type 1
  | one (ι : Type) (inv : ι → Prop) (S : ι → CS) (μ : ι → Nat) (an : ι → An)
  | more (ι : Type) (inv : ι → Prop) (S : ι → CS) (μ : ι → Nat) (an : ι → An) (rest : Fams)
end
def An.l : An → An
  | .two a _ => a
  | .known a _ => a
  | .one a => a
  | _ => .nil
def An.r : An → An
  | .two _ b => b
  | .known _ b => b
  | _ => .nil
abbrev KF := An → View → PT V → Nat → PT Ob → Prop
def enters (nb : Nat) {ι : Type} (inv : ι → Prop) (S : ι → CS) (p : ι → Prop) (H : View) (sl : PT V) (hp : PT Ob) : Prop := ∃ i, Kept nb (S i) H sl hp (inv i ∧ p i)
def Fams.enter (nb : Nat) : Fams → View → PT V → PT Ob → Prop
  | .one ι inv S μ an, H, sl, hp => ∃ i, Kept nb (S i) H sl hp (inv i)
  | .more ι inv S μ an rest, H, sl, hp => (∃ i, Kept nb (S i) H sl hp (inv i)) ∨ rest.enter nb H sl hp
def Fams.step (nb : Nat) : Fams → Nat → View → PT V → PT Ob → Prop
  | .one ι inv S μ an, m, H, sl, hp => ∃ i, Kept nb (S i) H sl hp (μ i < m ∧ inv i)
  | .more ι inv S μ an rest, m, H, sl, hp => (∃ i, Kept nb (S i) H sl hp (μ i < m ∧ inv i)) ∨ rest.step nb m H sl hp
def stp (nb : Nat) (l : Fams) (m : Nat) (Q : KO) : KO := fun o H sl nx hp => match o with
  | .norm => l.step nb m H sl hp
  | .exit i => Q (.exit i) H sl nx hp
  | .ret => Q .ret H sl nx hp
/-- Each round of each family. -/
def Fams.each (nb : Nat) (f : An → View → PT V → Nat → PT Ob → KO → Prop) (all : Fams) (Q : KO) : Fams → Prop
  | .one ι inv S μ an => ∀ i, inv i → f (an i) (S i).H (ofL (S i).sl) (S i).nx (ofL (S i).hp) (stp nb all (μ i) Q)
  | .more ι inv S μ an rest => (∀ i, inv i → f (an i) (S i).H (ofL (S i).sl) (S i).nx (ofL (S i).hp) (stp nb all (μ i) Q)) ∧ Fams.each nb f all Q rest
def Fams.from (f : KF) : Fams → Prop
  | .one ι inv S μ an => ∀ i, inv i → f (an i) (S i).H (ofL (S i).sl) (S i).nx (ofL (S i).hp)
  | .more ι inv S μ an rest => (∀ i, inv i → f (an i) (S i).H (ofL (S i).sl) (S i).nx (ofL (S i).hp)) ∧ rest.from f
def frzs : List Nat → View → PT V → PT Ob → (View → PT V → PT Ob → Prop) → Prop
  | [], H, sl, hp, K => K H sl hp
  | t :: l, H, sl, hp, K => frz t H sl hp fun H' sl' hp' => frzs l H' sl' hp' K
def An.pre (nb : Nat) (f : KF) : An → View → PT V → Nat → PT Ob → Prop
  | .frz ts a, H, sl, nx, hp => frzs ts H sl hp fun H' sl' hp' => f a H' sl' nx hp'
  | .cut ts l, H, sl, nx, hp => (frzs ts H sl hp fun H' sl' hp' => l.enter nb H' sl' hp') ∧ l.from f
  | .nil, H, sl, nx, hp => f .nil H sl nx hp
  | .two a b, H, sl, nx, hp => f (.two a b) H sl nx hp
  | .one a, H, sl, nx, hp => f (.one a) H sl nx hp
  | .loop l, H, sl, nx, hp => f (.loop l) H sl nx hp
  | .unroll k a, H, sl, nx, hp => f (.unroll k a) H sl nx hp
  | .known a b, H, sl, nx, hp => f (.known a b) H sl nx hp
def seqK (f : KF) (b : An) (Q : KO) : KO := fun o H sl nx hp => match o with
  | .norm => f b H sl nx hp
  | .exit i => Q (.exit i) H sl nx hp
  | .ret => Q .ret H sl nx hp
def blockK (id : Nat) (Q : KO) : KO := fun o H sl nx hp => match o with
  | .exit i => match Nat.beq i id with
    | true => Q .norm H sl nx hp
    | false => Q (.exit i) H sl nx hp
  | .norm => Q .norm H sl nx hp
  | .ret => Q .ret H sl nx hp
def unrollN (a : An) (f : An → View → PT V → Nat → PT Ob → KO → Prop) (Q : KO) (k : Nat) : View → PT V → Nat → PT Ob → Prop :=
  Nat.rec (fun _ _ _ _ => False) (fun _ ih H sl nx hp => f a H sl nx hp fun o H' sl' nx' hp' => match o with
    | .norm => ih H' sl' nx' hp'
    | .exit i => Q (.exit i) H' sl' nx' hp'
    | .ret => Q .ret H' sl' nx' hp') k
/-- A test: its slot is known behind it. -/
def setC (sl : PT V) (c : Operand) (b : Bool) : PT V := match c with
  | .tmp t => sl.put t (some (.lit (.bool b)))
  | _ => sl
def isKnown : An → Bool
  | .known _ _ => true
  | _ => false
def vc (P : Program) (pc : Pc) (ct : Ct) (nt nb : Nat) : Code → An → View → PT V → Nat → PT Ob → KO → Prop
  | .skip, an, H, sl, nx, hp, Q => an.pre nb (fun _ H sl nx hp => Q .norm H sl nx hp) H sl nx hp
  | .region _ ops draw, an, H, sl, nx, hp, Q => an.pre nb (fun _ H sl nx hp => match draw with
    | true => match regOk ops.toList && dstsOk nt ops.toList with
      | true => vcD P pc H nt ops.toList (masks ops.toList []) nx ops.toList 0 [] sl (Nat.add nx ops.toList.length) hp [] [] [] fun sl' nx' hp' => Q .norm H sl' nx' hp'
      | false => False
    | false => vcOps P pc ct nt ops.toList ops.toList [] H sl nx hp fun H' sl' nx' hp' => Q .norm H' sl' nx' hp') H sl nx hp
  | .seq x y, an, H, sl, nx, hp, Q => an.pre nb (fun a H sl nx hp => vc P pc ct nt nb x a.l H sl nx hp (seqK (fun b H sl nx hp => vc P pc ct nt nb y b H sl nx hp Q) a.r Q)) H sl nx hp
  | .cond c x y, an, H, sl, nx, hp, Q => an.pre nb (fun a H sl nx hp => match evO sl c with
    | some (.lit (.bool b)) => match isKnown a with
      | true => match b with
        | true => vc P pc ct nt nb x a.l H sl nx hp Q
        | false => vc P pc ct nt nb y a.r H sl nx hp Q
      | false => bifP b (vc P pc ct nt nb x a.l H (setC sl c true) nx hp Q) (vc P pc ct nt nb y a.r H (setC sl c false) nx hp Q)
    | _ => False) H sl nx hp
  | .block id c, an, H, sl, nx, hp, Q => an.pre nb (fun a H sl nx hp => vc P pc ct nt nb c a.l H sl nx hp (blockK id Q)) H sl nx hp
  | .loop c, an, H, sl, nx, hp, Q => an.pre nb (fun a H sl nx hp => match a with
    | .loop l => l.enter nb H sl hp ∧ Fams.each nb (fun a H sl nx hp Q => vc P pc ct nt nb c a H sl nx hp Q) l Q l
    | .unroll k a => unrollN a (fun a H sl nx hp Q => vc P pc ct nt nb c a H sl nx hp Q) Q k H sl nx hp
    | _ => False) H sl nx hp
  | .exit i, an, H, sl, nx, hp, Q => an.pre nb (fun _ H sl nx hp => Q (.exit i) H sl nx hp) H sl nx hp
  | .scope c, an, H, sl, nx, hp, Q => an.pre nb (fun a H sl nx hp => vc P pc ct nt nb c a.l H sl nx hp Q) H sl nx hp
  | .ret, an, H, sl, nx, hp, Q => an.pre nb (fun _ H sl nx hp => Q .ret H sl nx hp) H sl nx hp
  | .label _, _, _, _, _, _, _ => False
  | .rangeFunc _ _ _ _, _, _, _, _, _, _ => False
  | .goto _, _, _, _, _, _, _ => False
  | .refuse _, _, _, _, _, _, _ => False
section
variable {P : Program} {pc : Pc} {ct : Ct} {nt nb : Nat} {hb : PT Ob} {c : Code}
theorem frzs_ok {Q : Post} : ∀ {ts : List Nat} {H : View} {sl : PT V} {nx : Nat} {hp : PT Ob} {K : View → PT V → PT Ob → Prop}, (∀ H' sl' hp', K H' sl' hp' → W P nt nb hb c H' sl' nx hp' Q) → frzs ts H sl hp K → W P nt nb hb c H sl nx hp Q
  | [], H, sl, nx, hp, K, hk, h => hk _ _ _ h
  | t :: l, H, sl, nx, hp, K, hk, h => by
    intro Hb Rb wb R a w Q' hfr g k
    obtain ⟨H', R', sl', hp', h', g'⟩ := g.frz hfr h
    exact frzs_ok hk h' Hb Rb wb R' a w Q' hfr g' k
theorem enter_ok {f : KF} {Q : Post} (hf : ∀ a H sl nx hp, f a H sl nx hp → W P nt nb hb c H sl nx hp Q) : ∀ {l : Fams} {H : View} {sl : PT V} {nx : Nat} {hp : PT Ob}, l.enter nb H sl hp → l.from f → W P nt nb hb c H sl nx hp Q
  | .one ι inv S μ an, H, sl, nx, hp, h, hr => by
    obtain ⟨i, hk⟩ := h
    exact W.kept hk fun hi => hf _ _ _ _ _ (hr i hi)
  | .more ι inv S μ an rest, H, sl, nx, hp, h, hr => by
    rcases h with ⟨i, hk⟩ | h
    · exact W.kept hk fun hi => hf _ _ _ _ _ (hr.1 i hi)
    · exact enter_ok hf h hr.2
theorem pre_ok {f : KF} {Q : Post} (hf : ∀ a H sl nx hp, f a H sl nx hp → W P nt nb hb c H sl nx hp Q) {an : An} {H : View} {sl : PT V} {nx : Nat} {hp : PT Ob} (h : an.pre nb f H sl nx hp) : W P nt nb hb c H sl nx hp Q := by
  cases an with
  | frz ts a => exact frzs_ok (fun H' sl' hp' h' => hf _ _ _ _ _ h') h
  | cut ts l => exact frzs_ok (fun H' sl' hp' h' => enter_ok hf h' h.2) h.1
  | _ => exact hf _ _ _ _ _ h
theorem W.condS {Q : Post} {H : View} {sl : PT V} {nx : Nat} {hp : PT Ob} {o : Operand} {x y : Code} {b : Bool} (hc : evO sl o = some (.lit (.bool b))) (hx : b = true → W P nt nb hb x H (setC sl o true) nx hp Q) (hy : b = false → W P nt nb hb y H (setC sl o false) nx hp Q) : W P nt nb hb (.cond o x y) H sl nx hp Q := by
  have eq : SlEq sl (setC sl o b) := by
    cases o with
    | tmp t => exact SlEq.put hc
    | _ => exact fun _ => rfl
  refine W.cond hc (fun e => ?_) (fun e => ?_)
  · subst e
    intro Hb Rb wb R a w Q' hfr g k
    exact hx rfl Hb Rb wb R a w Q' hfr ⟨g.ac.eq eq, g.fin⟩ k
  · subst e
    intro Hb Rb wb R a w Q' hfr g k
    exact hy rfl Hb Rb wb R a w Q' hfr ⟨g.ac.eq eq, g.fin⟩ k
/-- The states of a loop's heads, with how many rounds are left. -/
def Fams.at (f : An → View → PT V → Nat → PT Ob → KO → Prop) (nb : Nat) (all : Fams) (Q : KO) (m : Nat) (H : View) (sl : PT V) (nx : Nat) (hp : PT Ob) : Prop := ∃ an, f an H sl nx hp (stp nb all m Q)
section
variable {f : An → View → PT V → Nat → PT Ob → KO → Prop} {all : Fams} {Q : KO} {Hb : View} {Rb R : Rel} {wb w : World} {a : Act}
theorem step_good (hfr : ∀ i b c, Rb i b c → i < nb) : ∀ {l : Fams} {m : Nat} {H : View} {sl : PT V} {nx : Nat} {hp : PT Ob}, Fams.each nb f all Q l → l.step nb m H sl hp → Good nt Hb Rb nb hb wb H R sl nx hp a w →
    ∃ m' H' R' sl' nx' hp', m' < m ∧ Fams.at f nb all Q m' H' sl' nx' hp' ∧ Good nt Hb Rb nb hb wb H' R' sl' nx' hp' a w
  | .one ι inv S μ an, m, H, sl, nx, hp, he, h, g => by
    obtain ⟨i, h⟩ := h
    obtain ⟨⟨h1, h2⟩, R', g'⟩ := g.kept hfr h
    exact ⟨_, _, _, _, _, _, h1, ⟨_, he i h2⟩, g'⟩
  | .more ι inv S μ an rest, m, H, sl, nx, hp, he, h, g => by
    rcases h with ⟨i, h⟩ | h
    · obtain ⟨⟨h1, h2⟩, R', g'⟩ := g.kept hfr h
      exact ⟨_, _, _, _, _, _, h1, ⟨_, he.1 i h2⟩, g'⟩
    · exact step_good hfr he.2 h g
theorem enter_good (hfr : ∀ i b c, Rb i b c → i < nb) : ∀ {l : Fams} {H : View} {sl : PT V} {nx : Nat} {hp : PT Ob}, Fams.each nb f all Q l → l.enter nb H sl hp → Good nt Hb Rb nb hb wb H R sl nx hp a w →
    ∃ m' H' R' sl' nx' hp', Fams.at f nb all Q m' H' sl' nx' hp' ∧ Good nt Hb Rb nb hb wb H' R' sl' nx' hp' a w
  | .one ι inv S μ an, H, sl, nx, hp, he, h, g => by
    obtain ⟨i, h⟩ := h
    obtain ⟨h2, R', g'⟩ := g.kept hfr h
    exact ⟨_, _, _, _, _, _, ⟨_, he i h2⟩, g'⟩
  | .more ι inv S μ an rest, H, sl, nx, hp, he, h, g => by
    rcases h with ⟨i, h⟩ | h
    · obtain ⟨h2, R', g'⟩ := g.kept hfr h
      exact ⟨_, _, _, _, _, _, ⟨_, he.1 i h2⟩, g'⟩
    · exact enter_good hfr he.2 h g
end
theorem W.loopF {Q : KO} {l : Fams} (hf : ∀ an H sl nx hp Q, vc P pc ct nt nb c an H sl nx hp Q → W P nt nb hb c H sl nx hp Q) {H : View} {sl : PT V} {nx : Nat} {hp : PT Ob} (he : Fams.each nb (fun a H sl nx hp Q => vc P pc ct nt nb c a H sl nx hp Q) l Q l) (hen : l.enter nb H sl hp) : W P nt nb hb (.loop c) H sl nx hp Q := by
  intro Hb Rb wb R a w Q' hfr g k
  have key : ∀ (n m : Nat) (H : View) (R : Rel) (sl : PT V) (nx : Nat) (hp : PT Ob) (a : Act) (w : World), m ≤ n → Fams.at (fun a H sl nx hp Q => vc P pc ct nt nb c a H sl nx hp Q) nb l Q m H sl nx hp → Good nt Hb Rb nb hb wb H R sl nx hp a w → Code.rounds P c Q' (n + 1) a w := by
    intro n
    induction n with
    | zero =>
      intro m H R sl nx hp a w hm hat g
      obtain ⟨an, hv⟩ := hat
      rw [rounds_succ]
      refine hf _ _ _ _ _ _ hv Hb Rb wb R a w _ hfr g fun o H' sl' nx' hp' R' a' w' q g' => ?_
      cases o with
      | norm =>
        obtain ⟨m', _, _, _, _, _, h1, _⟩ := step_good hfr he q g'
        omega
      | exit i => exact k _ _ _ _ _ _ _ _ q g'
      | ret => exact k _ _ _ _ _ _ _ _ q g'
    | succ n ih =>
      intro m H R sl nx hp a w hm hat g
      obtain ⟨an, hv⟩ := hat
      rw [rounds_succ]
      refine hf _ _ _ _ _ _ hv Hb Rb wb R a w _ hfr g fun o H' sl' nx' hp' R' a' w' q g' => ?_
      cases o with
      | norm =>
        obtain ⟨m', H2, R2, sl2, nx2, hp2, h1, h2, h3⟩ := step_good hfr he q g'
        exact ih m' H2 R2 sl2 nx2 hp2 a' w' (by omega) h2 h3
      | exit i => exact k _ _ _ _ _ _ _ _ q g'
      | ret => exact k _ _ _ _ _ _ _ _ q g'
  obtain ⟨m, H2, R2, sl2, nx2, hp2, h2, h3⟩ := enter_good hfr he hen g
  exact wp_loop_rounds (m + 1) (key m m H2 R2 sl2 nx2 hp2 a w (Nat.le_refl _) h2 h3)
theorem unroll_ok {Q : KO} (hf : ∀ an H sl nx hp Q, vc P pc ct nt nb c an H sl nx hp Q → W P nt nb hb c H sl nx hp Q) (n : Nat) {a : An} {H : View} {sl : PT V} {nx : Nat} {hp : PT Ob} (h : unrollN a (fun a H sl nx hp Q => vc P pc ct nt nb c a H sl nx hp Q) Q n H sl nx hp) : W P nt nb hb (.loop c) H sl nx hp Q := by
  intro Hb Rb wb R a w Q' hfr g k
  refine wp_loop_rounds n ?_
  induction n generalizing H sl nx hp R a w with
  | zero => exact h.elim
  | succ n ih =>
    rw [rounds_succ]
    refine hf _ _ _ _ _ _ h Hb Rb wb R a w _ hfr g fun o H' sl' nx' hp' R' a' w' q g' => ?_
    cases o with
    | norm => exact ih q R' a' w' g'
    | exit i => exact k _ _ _ _ _ _ _ _ q g'
    | ret => exact k _ _ _ _ _ _ _ _ q g'
theorem vc_ok (hm : P.follows .mixedOrders = true) (hpc : PcOk P pc) (hct : CtOk P ct) : ∀ (c : Code) {an : An} {H : View} {sl : PT V} {nx : Nat} {hp : PT Ob} {Q : KO}, vc P pc ct nt nb c an H sl nx hp Q → W P nt nb hb c H sl nx hp Q
  | .skip, an, H, sl, nx, hp, Q, h => by
    rw [vc] at h
    exact pre_ok (fun a H sl nx hp h => W.skip h) h
  | .exit i, an, H, sl, nx, hp, Q, h => by
    rw [vc] at h
    exact pre_ok (fun a H sl nx hp h => W.exit h) h
  | .ret, an, H, sl, nx, hp, Q, h => by
    rw [vc] at h
    exact pre_ok (fun a H sl nx hp h => W.ret h) h
  | .scope c, an, H, sl, nx, hp, Q, h => by
    rw [vc] at h
    exact pre_ok (fun a H sl nx hp h => W.scope (vc_ok hm hpc hct c h)) h
  | .region id ops draw, an, H, sl, nx, hp, Q, h => by
    rw [vc] at h
    refine pre_ok (fun a H sl nx hp h => ?_) h
    cases draw with
    | false => exact W.region (vcOps_ok hpc hct _ (fun t b h => by cases h) h)
    | true =>
      simp only at h
      split at h
      · rename_i hok
        exact W.draw hm hpc hok h fun _ _ _ q => q
      · exact h.elim
  | .seq x y, an, H, sl, nx, hp, Q, h => by
    rw [vc] at h
    refine pre_ok (fun a H sl nx hp h => ?_) h
    refine W.seq ((vc_ok hm hpc hct x h).mono ?_)
    intro o H' sl' nx' hp' q
    cases o with
    | norm => exact vc_ok hm hpc hct y q
    | exit i => exact q
    | ret => exact q
  | .cond c x y, an, H, sl, nx, hp, Q, h => by
    rw [vc] at h
    refine pre_ok (fun a H sl nx hp h => ?_) h
    split at h
    · rename_i b hc
      split at h
      · split at h
        · exact W.cond hc (fun _ => vc_ok hm hpc hct x h) (fun e => by cases e)
        · exact W.cond hc (fun e => by cases e) (fun _ => vc_ok hm hpc hct y h)
      · rw [bifP_eq] at h
        exact W.condS hc (fun e => vc_ok hm hpc hct x (h.1 e)) (fun e => vc_ok hm hpc hct y (h.2 e))
    · exact h.elim
  | .block id c, an, H, sl, nx, hp, Q, h => by
    rw [vc] at h
    refine pre_ok (fun a H sl nx hp h => ?_) h
    refine W.block ((vc_ok hm hpc hct c h).mono ?_)
    intro o H' sl' nx' hp' q
    cases o with
    | norm => exact q
    | ret => exact q
    | exit i =>
      simp only [inB]
      simp only [blockK] at q
      split at q
      · rename_i hb'
        rw [if_pos (Nat.eq_of_beq_eq_true hb')]
        exact q
      · rename_i hb'
        have : i ≠ id := fun e => by subst e; simp at hb'
        rw [if_neg this]
        exact q
  | .loop c, an, H, sl, nx, hp, Q, h => by
    rw [vc] at h
    refine pre_ok (fun a H sl nx hp h => ?_) h
    split at h
    · exact W.loopF (fun an H sl nx hp Q h => vc_ok hm hpc hct c h) h.2 h.1
    · exact unroll_ok (fun an H sl nx hp Q h => vc_ok hm hpc hct c h) _ h
    · exact h.elim
  | .label _, _, _, _, _, _, _, h => by rw [vc] at h; exact h.elim
  | .rangeFunc _ _ _ _, _, _, _, _, _, _, h => by rw [vc] at h; exact h.elim
  | .goto _, _, _, _, _, _, _, h => by rw [vc] at h; exact h.elim
  | .refuse _, _, _, _, _, _, _, h => by rw [vc] at h; exact h.elim
end
/-! ### functions -/
def retK (P : Program) (res : List ResultVar) (K : KV) : KO := fun o H sl nx hp => match o with
  | .exit _ => False
  | .norm => match resV P H hp sl res with
    | some vs => K H (retV vs) nx hp
    | none => False
  | .ret => match resV P H hp sl res with
    | some vs => K H (retV vs) nx hp
    | none => False
/-- A function's body, from its arguments. -/
def vcFn (P : Program) (pc : Pc) (ct : Ct) (g : FuncId) (an : An) (H : View) (args : List V) (nb : Nat) (hp : PT Ob) (K : KV) : Prop :=
  match P.funcs[g]? with
  | some fn => match fn.body with
    | some c => match Nat.ble args.length fn.ntmps with
      | true => vc P pc ct fn.ntmps nb c an H (slotsOf args 0 .nil) nb hp (retK P fn.results.toList K)
      | false => False
    | none => False
  | none => False
theorem vcFn_ok {P : Program} {pc : Pc} {ct : Ct} (hm : P.follows .mixedOrders = true) (hpc : PcOk P pc) (hct : CtOk P ct) {g : FuncId} {an : An} {H : View} {args : List V} {nb : Nat} {hp : PT Ob} {K : KV} (h : vcFn P pc ct g an H args nb hp K) : Con P g H args nb hp K := by
  unfold vcFn at h
  split at h
  · rename_i fn hf
    split at h
    · rename_i c hbd
      split at h
      · rename_i hle
        refine Con.of hf hbd (Nat.le_of_ble_eq_true hle) ((vc_ok hm hpc hct c h).mono ?_)
        intro o H' sl' nx' hp' q
        cases o with
        | exit i => exact q.elim
        | norm =>
          refine ⟨.inr rfl, ?_⟩
          simp only [retK] at q
          split at q
          · rename_i vs hvs; exact ⟨vs, hvs, q⟩
          · exact q.elim
        | ret =>
          refine ⟨.inl rfl, ?_⟩
          simp only [retK] at q
          split at q
          · rename_i vs hvs; exact ⟨vs, hvs, q⟩
          · exact q.elim
      · exact h.elim
    · exact h.elim
  · exact h.elim
/-- Callees entered in place, so deep, where nothing else is known of them. -/
def ctIn (P : Program) (pc : Pc) (base : Ct) (n : Nat) : Ct :=
  Nat.rec base (fun _ ih g args H nx hp K => match base g args H nx hp K with
    | some q => some q
    | none => some (vcFn P pc ih g .nil H args nx hp K)) n
theorem ctIn_ok {P : Program} {pc : Pc} (hm : P.follows .mixedOrders = true) (hpc : PcOk P pc) {base : Ct} (hb : CtOk P base) (n : Nat) : CtOk P (ctIn P pc base n) := by
  induction n with
  | zero => exact hb
  | succ n ih =>
    intro g args H nx hp K p h hp' he
    have h : (match base g args H nx hp K with
      | some q => some q
      | none => some (vcFn P pc (ctIn P pc base n) g .nil H args nx hp K)) = some p := h
    split at h
    · rename_i q hq
      simp only [Option.some.injEq] at h; subst h
      exact hb _ _ _ _ _ _ _ hq hp' he
    · simp only [Option.some.injEq] at h; subst h
      exact vcFn_ok hm hpc ih hp'
def noCt : Ct := fun _ _ _ _ _ _ => none
theorem noCt_ok (P : Program) : CtOk P noCt := fun _ _ _ _ _ _ _ h => by cases h
def noPc : Pc := fun _ _ _ _ => none
theorem noPc_ok (P : Program) : PcOk P noPc := fun _ _ _ _ _ _ _ h => by cases h
def ctOn (f : FuncId) (c : List V → View → Nat → PT Ob → KV → Option Prop) (ct : Ct) : Ct := fun g args H nx hp K => match Nat.beq g f with
  | true => c args H nx hp K
  | false => ct g args H nx hp K
theorem ctOn_ok {P : Program} {ct : Ct} {f : FuncId} {c : List V → View → Nat → PT Ob → KV → Option Prop} (hct : CtOk P ct) (hc : ∀ args H nx hp K p, c args H nx hp K = some p → p → Con P f H args nx hp K) : CtOk P (ctOn f c ct) := by
  intro g args H nx hp K p h hp' he
  unfold ctOn at h
  split at h
  · rename_i hb'
    obtain rfl := Nat.eq_of_beq_eq_true hb'
    exact hc _ _ _ _ _ _ h hp'
  · exact hct _ _ _ _ _ _ _ h hp' he
def pcOn (f : FuncId) (c : List V → View → Option (Option Prop × V)) (pc : Pc) : Pc := fun g args H hp => match Nat.beq g f with
  | true => match c args H with
    | some (p, v) => some (false, p, v)
    | none => none
  | false => pc g args H hp
theorem pcOn_ok {P : Program} {pc : Pc} {f : FuncId} {c : List V → View → Option (Option Prop × V)} (hpc : PcOk P pc) (hc : ∀ args H p v, c args H = some (p, v) → hs p → PcFn P f H args v) : PcOk P (pcOn f c pc) := by
  intro g args H hp rd p v h hp' he
  unfold pcOn at h
  split at h
  · rename_i hb'
    obtain rfl := Nat.eq_of_beq_eq_true hb'
    split at h
    · rename_i p' v' h'
      simp only [Option.some.injEq, Prod.mk.injEq] at h
      obtain ⟨rfl, rfl, rfl⟩ := h
      exact ⟨(fun _ => hc _ _ _ _ h' hp'), fun e => by cases e⟩
    · cases h
  · exact hpc _ _ _ _ _ _ _ h hp' he
def rcOn (f : FuncId) (c : List V → View → PT Ob → Option (Option Prop × V)) (pc : Pc) : Pc := fun g args H hp => match Nat.beq g f with
  | true => match c args H hp with
    | some (p, v) => some (true, p, v)
    | none => none
  | false => pc g args H hp
theorem rcOn_ok {P : Program} {pc : Pc} {f : FuncId} {c : List V → View → PT Ob → Option (Option Prop × V)} (hpc : PcOk P pc) (hc : ∀ args H hp p v, c args H hp = some (p, v) → hs p → RcFn P f H hp args v) : PcOk P (rcOn f c pc) := by
  intro g args H hp rd p v h hp' he
  unfold rcOn at h
  split at h
  · rename_i hb'
    obtain rfl := Nat.eq_of_beq_eq_true hb'
    split at h
    · rename_i p' v' h'
      simp only [Option.some.injEq, Prod.mk.injEq] at h
      obtain ⟨rfl, rfl, rfl⟩ := h
      exact ⟨(fun e => by cases e), fun _ => hc _ _ _ _ _ h' hp'⟩
    · cases h
  · exact hpc _ _ _ _ _ _ _ h hp' he
/-- Out of a body's contract. -/
theorem PcFn.of {P : Program} {g : FuncId} {H : View} {args : List V} {v : V} (hl : noIds args = true) (hv : noId v = true) (h : Con P g H args 0 .nil fun H' u _ _ => u = v) : PcFn P g H args v := by
  intro R w ys hA hys
  have hC0 : Cn H R0 .nil w := ⟨hA, (fun id o h => by cases h), (fun id b c b' c' h => h.elim), (fun id id' o o' b c c' h => by cases h)⟩
  refine Calls.mono (h R0 w ys hC0 (fun _ _ _ h => h.elim) (noIds_R0 _ hl hys)) ?_
  rintro e w' ⟨H', R', u, y, n', hp0', rfl, hu, F, rfl⟩
  exact ⟨y, rfl, noId_R0 _ hv hu, fun b x hx => F.st.fr b x hx fun _ _ h => h.elim, F.st.below⟩
def noIdO : Ob → Bool
  | .cells _ l => noIds l
  | .row _ _ l => noIds l
  | .fam _ _ _ _ => true
  | .fmap _ _ _ => true
  | _ => false
theorem noIdO_R0 {R R' : Rel} {o : Ob} {c : Nat} {x : Obj} (h : noIdO o = true) (k : ObR R o c x) : ObR R' o c x := by
  cases k with
  | cells T _ k k2 => exact .cells T _ (noIds_R0 _ h k) k2
  | row T z _ k k2 k3 k4 => exact .row T z _ (noIds_R0 _ h k) k2 k3 k4
  | fam T z _ a b c d e => exact .fam T z _ a b c d e
  | fmap a _ b c => exact .fmap a _ b c
  | _ => cases h
/-- One that reads a row of one's own: its contract names it 0. -/
theorem RcFn.of {P : Program} {g : FuncId} {H : View} {args : List V} {v : V} {ob : Ob} {id : Nat} {hp : PT Ob} (hg : hp.get id = some ob) (hno : noIdO ob = true) (hl : ltL 1 args) (hv : noId v = true)
    (h : Con P g H args 1 (ofL [(0, ob)]) fun H' u _ hp' => u = v ∧ hp'.get 0 = some ob) : RcFn P g H hp (renL (fun _ => id) args) v := by
  intro R w ys n hC hfr hys
  let R1 : Rel := fun i b c => i = 0 ∧ R id b c
  have one : ∀ i o, (ofL [(0, ob)]).get i = some o → i = 0 ∧ o = ob := by
    intro i o h
    have := ofL_get h
    simp only [List.mem_cons, Prod.mk.injEq, List.not_mem_nil, or_false] at this
    exact this
  have hC1 : Cn H R1 (ofL [(0, ob)]) w := by
    refine ⟨hC.agree, fun i o ho => ?_, fun i b c b' c' h h' => hC.fn _ _ _ _ _ h.2 h'.2, fun i j o o' b c c' ho ho' _ _ => by rw [(one i o ho).1, (one j o' ho').1]⟩
    obtain ⟨rfl, rfl⟩ := one i o ho
    rcases hC.all id _ hg with ⟨q1, b, q2⟩ | ⟨b, c, x, q1, q2, q3, q4⟩
    · exact .inl ⟨q1, b, rfl, q2⟩
    · exact .inr ⟨b, c, x, ⟨rfl, q1⟩, q2, q3, noIdO_R0 hno q4⟩
  refine Calls.mono (h R1 w ys hC1 (fun i b c hh => by obtain ⟨rfl, _⟩ := hh; omega) (VRs.back (k := 1) (ρ := fun _ => id) (fun i b c hi hr => ⟨by omega, hr⟩) args hl hys)) ?_
  rintro e w' ⟨H', R', u, y, n', hp', rfl, hu, F, rfl, hg'⟩
  -- every block of the memory stands
  have other : ∀ i o b c x, i ≠ id → hp.get i = some o → R i b (some c) → w.heap[b]? = some x → w'.heap[b]? = some x := by
    intro i o b c x he hi hr hx
    refine F.st.fr b x hx fun k c' hk => ?_
    obtain ⟨rfl, hk⟩ := hk
    exact absurd (hC.inj _ _ _ _ _ _ _ hi hg hr hk) he
  have own : ∀ b c, R id b (some c) → ∃ x', w'.heap[b]? = some x' ∧ ObR R ob c x' := by
    intro b c hr
    obtain ⟨x', _, q3, q4⟩ := F.cn.at hg' (F.st.grow 0 b (some c) ⟨rfl, hr⟩)
    exact ⟨x', q3, noIdO_R0 hno q4⟩
  have hA : Agree w' H := fun b o hb => F.cn.agree b o (F.le b o hb)
  refine ⟨y, rfl, noId_R0 _ hv hu, ⟨hA, fun i o ho => ?_, hC.fn, hC.inj⟩, ⟨fun _ _ _ h => h, fun _ _ _ h => .inl h, fun _ _ h => h, Nat.le_refl _, F.st.below, fun b o hb hd => F.st.fr b o hb fun k c' hk => ?_⟩⟩
  · rcases hC.all i o ho with k | ⟨b, c, x, q1, q2, q3, q4⟩
    · exact .inl k
    · by_cases he : i = id
      · subst he
        rw [hg] at ho
        simp only [Option.some.injEq] at ho
        subst ho
        obtain ⟨x', r1, r2⟩ := own b c q1
        exact .inr ⟨b, c, x', q1, q2, r1, r2⟩
      · exact .inr ⟨b, c, x, q1, q2, other i o b c x he ho q1 q3, q4⟩
  · obtain ⟨rfl, hk⟩ := hk
    have := hd _ _ hk
    rw [hg] at this; cases this
/-- The rule for a function, where what must hold is said apart. (A hypothesis whose type is a vc is looked into: it takes long.) -/
theorem vcFn_of {P : Program} {pc : Pc} {ct : Ct} {g : FuncId} {an : An} {H : View} {args : List V} {nb : Nat} {hp : PT Ob} {K : KV} {A : Prop} (hm : P.follows .mixedOrders = true) (hpc : PcOk P pc) (hct : CtOk P ct) (e : A = vcFn P pc ct g an H args nb hp K) (h : A) : Con P g H args nb hp K :=
  vcFn_ok hm hpc hct (e ▸ h)
end Go.Vm
