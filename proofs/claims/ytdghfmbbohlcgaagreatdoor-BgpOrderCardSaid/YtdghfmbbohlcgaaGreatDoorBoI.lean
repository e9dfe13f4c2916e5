/- What is better is an order. -/
import Derived.Test.YtdghfmbbohlcgaaGreatDoorBoH
set_option linter.unusedVariables false
set_option linter.unusedSimpArgs false
namespace Go.Vm
open Go.RowKit
/-- Three compared: how they must stand. -/
structure T3 (aa ab ba bc ac : Int) : Prop where
  rf : aa = 0
  sw : ab < 0 ↔ 0 < ba
  sx : 0 < ab ↔ ba < 0
  ll : ab < 0 → bc < 0 → ac < 0
  el : ab = 0 → bc < 0 → ac < 0
  le : ab < 0 → bc = 0 → ac < 0
  ee : ab = 0 → bc = 0 → ac = 0
theorem T3.cmp (a b c : Int) : T3 (cmpI a a) (cmpI a b) (cmpI b a) (cmpI b c) (cmpI a c) := by
  constructor <;> unfold cmpI <;> (repeat' split) <;> omega
theorem T3.rev (a b c : Int) : T3 (cmpI a a) (cmpI b a) (cmpI a b) (cmpI c b) (cmpI c a) := by
  constructor <;> unfold cmpI <;> (repeat' split) <;> omega
theorem T3.sub (a b c : Int) : T3 (a - a) (b - a) (a - b) (c - b) (c - a) := by
  constructor <;> omega
theorem T3.nil : T3 (orI []) (orI []) (orI []) (orI []) (orI []) := by
  constructor <;> simp [orI]
theorem T3.cons {a1 a2 a3 a4 a5 : Int} {l1 l2 l3 l4 l5 : List Int} (h : T3 a1 a2 a3 a4 a5) (t : T3 (orI l1) (orI l2) (orI l3) (orI l4) (orI l5)) : T3 (orI (a1 :: l1)) (orI (a2 :: l2)) (orI (a3 :: l3)) (orI (a4 :: l4)) (orI (a5 :: l5)) := by
  obtain ⟨h1, h2, h3, h4, h5, h6, h7⟩ := h
  obtain ⟨t1, t2, t3, t4, t5, t6, t7⟩ := t
  have key : a2 = 0 ↔ a3 = 0 := by clear h4 h5 h6 h7 t1 t2 t3 t4 t5 t6 t7; omega
  by_cases e2 : a2 = 0
  · have e3 : a3 = 0 := key.1 e2
    by_cases e4 : a4 = 0
    · have e5 := h7 e2 e4
      simp only [orI, h1, e2, e3, e4, e5, if_true]
      exact ⟨t1, t2, t3, t4, t5, t6, t7⟩
    · have e5 := h5 e2
      simp only [orI, h1, e2, e3, if_neg e4, if_true]
      exact ⟨t1, t2, t3, fun _ h => by rw [if_neg (Int.ne_of_lt (e5 h))]; exact e5 h, fun _ h => by rw [if_neg (Int.ne_of_lt (e5 h))]; exact e5 h, fun _ h => absurd h e4, fun _ h => absurd h e4⟩
  · have e3 : ¬ a3 = 0 := fun h => e2 (key.2 h)
    by_cases e4 : a4 = 0
    · have e5 := fun h => h6 h e4
      simp only [orI, h1, if_neg e2, if_neg e3, e4, if_true]
      exact ⟨t1, h2, h3, fun h _ => by rw [if_neg (Int.ne_of_lt (e5 h))]; exact e5 h, fun h => absurd h e2, fun h _ => by rw [if_neg (Int.ne_of_lt (e5 h))]; exact e5 h, fun h => absurd h e2⟩
    · simp only [orI, h1, if_neg e2, if_neg e3, if_neg e4, if_true]
      exact ⟨t1, h2, h3, fun h h' => by rw [if_neg (Int.ne_of_lt (h4 h h'))]; exact h4 h h', fun h => absurd h e2, fun _ h => absurd h e4, fun h => absurd h e2⟩
def restK (a b : AKey) (x y : Int) : Int := orI [cmpI b.pref a.pref, cmpI a.plen b.plen, cmpI a.metric b.metric, boolI b.ext - boolI a.ext, cmpI x y, cmpI a.ident b.ident, cmpI a.clen b.clen, cmpI a.peer b.peer, cmpI a.sess b.sess]
theorem T3.rest (a b c : AKey) (x y z : Int) : T3 (restK a a x x) (restK a b x y) (restK b a y x) (restK b c y z) (restK a c x z) :=
  .cons (.rev ..) (.cons (.cmp ..) (.cons (.cmp ..) (.cons (.sub ..) (.cons (.cmp ..) (.cons (.cmp ..) (.cons (.cmp ..) (.cons (.cmp ..) (.cons (.cmp ..) .nil))))))))
theorem sess_b {s : Int} : (s = -1 ∧ boolI (s != -1) = 0) ∨ (s ≠ -1 ∧ boolI (s != -1) = 1) := by
  by_cases h : s = -1
  · exact .inl ⟨h, by rw [h]; rfl⟩
  · exact .inr ⟨h, by rw [(bne_iff_ne).2 h]; rfl⟩
theorem T3.ord (a b c : AKey) (x y z : Int) : T3 (ordK a a x x) (ordK a b x y) (ordK b a y x) (ordK b c y z) (ordK a c x z) := by
  have h := T3.rest a b c x y z
  obtain ⟨h1, h2, h3, h4, h5, h6, h7⟩ := h
  unfold restK at *
  unfold ordK
  rcases @sess_b a.sess with ⟨ha, ea⟩ | ⟨ha, ea⟩ <;> rcases @sess_b b.sess with ⟨hb, eb⟩ | ⟨hb, eb⟩ <;> rcases @sess_b c.sess with ⟨hc, ec⟩ | ⟨hc, ec⟩ <;>
    rw [ea, eb, ec] <;> simp only [ha, hb, hc, or_self, or_true, true_or, if_true, if_false, or_false, false_or] <;> constructor <;> first | assumption | omega
theorem cmpI_zero {x y : Int} : cmpI x y = 0 ↔ x = y := by unfold cmpI; (repeat' split) <;> omega
theorem orI_zero {x : Int} {l : List Int} : orI (x :: l) = 0 ↔ x = 0 ∧ orI l = 0 := by
  simp only [orI]; split <;> simp_all
theorem boolI_sub {p q : Bool} : boolI p - boolI q = 0 ↔ p = q := by cases p <;> cases q <;> simp [boolI]
theorem ordK_zero {a b : AKey} {x y : Int} (hs : a.sess ≠ -1) (h : ordK a b x y = 0) : b.sess = a.sess ∧ a.pref = b.pref ∧ a.plen = b.plen ∧ a.metric = b.metric ∧ a.ext = b.ext ∧ x = y ∧ a.clen = b.clen ∧ a.peer = b.peer := by
  unfold ordK at h
  split at h
  · rename_i hh
    rcases hh with hh | hh
    · exact absurd hh hs
    · rw [hh, (bne_iff_ne).2 hs] at h; exact absurd h (by decide)
  · simp only [orI_zero, cmpI_zero, boolI_sub] at h
    obtain ⟨h1, h2, h3, h4, h5, h6, h7, h8, h9, -⟩ := h
    exact ⟨h9.symm, h1.symm, h2, h3, h4.symm, h5, h7, h8⟩
end Go.Vm
