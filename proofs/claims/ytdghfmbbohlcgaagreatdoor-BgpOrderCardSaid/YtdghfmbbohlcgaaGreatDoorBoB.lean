/- Adverts: comparing. -/
import Derived.Test.YtdghfmbbohlcgaaGreatDoorBoA
set_option linter.unusedVariables false
set_option linter.unusedSimpArgs false
namespace Go.Vm
open Go.RowKit
set_option maxRecDepth 100000
theorem mixed : Go.Proofs.Tryz.prog.follows .mixedOrders = true := by kernel_rfl
def cmpI (x y : Int) : Int := if x < y then -1 else if y < x then 1 else 0
def cmpS (x y : ByteArray) : Int := if Op.bytesLess x.toList y.toList then -1 else if x.toList == y.toList then 0 else 1
def cmpB (x y : Bool) : Int := if x = y then 0 else if y then -1 else 1
def orI : List Int → Int
  | [] => 0
  | x :: l => if x = 0 then orI l else x
abbrev IV (x : Int) : V := .lit (.int .i64 x)
theorem cmpInt_fn (H : View) (x y : Int) : PcFn Go.Proofs.Tryz.prog 42 H [IV x, IV y] (IV (cmpI x y)) := by
  refine .of rfl rfl ?_
  have h : cmpIntVC H x y fun H' u _ _ => u = IV (cmpI x y) := by
    simp only [cmpIntVC, bifP_eq, bne_self_eq_false, Bool.false_eq_true, false_implies, true_implies, true_and, decide_eq_true_eq, decide_eq_false_iff_not]
    refine ⟨fun h => by simp [cmpI, h], fun h => ⟨fun h2 => by simp [cmpI, h, h2], fun h2 => by simp [cmpI, h, h2]⟩⟩
  exact vcFn_of mixed (noPc_ok _) (ctIn_ok mixed (noPc_ok _) (noCt_ok _) 3) (cmpIntVC_eq ..) h
theorem cmpAddr_fn (H : View) (x y : Int) : PcFn Go.Proofs.Tryz.prog 43 H [.lit (.int .u32 x), .lit (.int .u32 y)] (IV (cmpI x y)) := by
  refine .of rfl rfl ?_
  have h : cmpAddrVC H x y fun H' u _ _ => u = IV (cmpI x y) := by
    simp only [cmpAddrVC, bifP_eq, bne_self_eq_false, Bool.false_eq_true, false_implies, true_implies, true_and, decide_eq_true_eq, decide_eq_false_iff_not]
    refine ⟨fun h => by simp [cmpI, h], fun h => ⟨fun h2 => by simp [cmpI, h, h2], fun h2 => by simp [cmpI, h, h2]⟩⟩
  exact vcFn_of mixed (noPc_ok _) (ctIn_ok mixed (noPc_ok _) (noCt_ok _) 3) (cmpAddrVC_eq ..) h
def boolI : Bool → Int
  | true => 1
  | false => 0
def orA (x y : Int) : Int := if x = 0 then y else x
theorem boolean_fn (H : View) (x : Bool) : PcFn Go.Proofs.Tryz.prog 40 H [.lit (.bool x)] (IV (boolI x)) := by
  refine .of rfl rfl ?_
  have h : boolVC H x fun H' u _ _ => u = IV (boolI x) := by cases x <;> simp [boolVC, boolI, bifP_eq]
  exact vcFn_of mixed (noPc_ok _) (noCt_ok _) (boolVC_eq ..) h
theorem orA_fn (H : View) (hp : PT Ob) (id : Nat) (x y : Int) (hg : hp.get id = some (.cells 23 [.lit (.int .u32 x), .lit (.int .u32 y)])) : RcFn Go.Proofs.Tryz.prog 39 H hp [.sl id 0 2 2] (.lit (.int .u32 (orA x y))) := by
  refine RcFn.of (args := [.sl 0 0 2 2]) hg rfl ⟨Nat.zero_lt_one, trivial⟩ rfl ?_
  have h : orAVC H x y fun H' u _ hp' => u = .lit (.int .u32 (orA x y)) ∧ hp'.get 0 = some (.cells 23 [.lit (.int .u32 x), .lit (.int .u32 y)]) := by
    simp only [orAVC, bifP_eq, bne_iff_ne, ne_eq, bne_eq_false_iff_eq]
    refine ⟨fun h => ⟨by simp [orA, h], rfl⟩, fun h => ⟨fun h2 => ⟨by simp [orA, h], rfl⟩, fun h2 => ⟨by simp [orA, h, h2], rfl⟩⟩⟩
  exact vcFn_of mixed (noPc_ok _) (noCt_ok _) (orAVC_eq ..) h
theorem fst9_fn (H : View) (hp : PT Ob) (id : Nat) (a b c d e f g h i : Int) (hg : hp.get id = some (.cells 3 [IV a, IV b, IV c, IV d, IV e, IV f, IV g, IV h, IV i])) : RcFn Go.Proofs.Tryz.prog 41 H hp [.sl id 0 9 9] (IV (orI [a, b, c, d, e, f, g, h, i])) := by
  refine RcFn.of (args := [.sl 0 0 9 9]) hg rfl ⟨Nat.zero_lt_one, trivial⟩ rfl ?_
  have hh : fst9VC H a b c d e f g h i fun H' u _ hp' => u = IV (orI [a, b, c, d, e, f, g, h, i]) ∧ hp'.get 0 = some (.cells 3 [IV a, IV b, IV c, IV d, IV e, IV f, IV g, IV h, IV i]) := by
    simp only [fst9VC, bifP_eq, bne_iff_ne, ne_eq, bne_eq_false_iff_eq]
    exact ⟨fun h1 => ⟨by simp [orI, *], rfl⟩, fun h1 => ⟨fun h2 => ⟨by simp [orI, *], rfl⟩, fun h2 => ⟨fun h3 => ⟨by simp [orI, *], rfl⟩, fun h3 => ⟨fun h4 => ⟨by simp [orI, *], rfl⟩, fun h4 => ⟨fun h5 => ⟨by simp [orI, *], rfl⟩, fun h5 => ⟨fun h6 => ⟨by simp [orI, *], rfl⟩, fun h6 => ⟨fun h7 => ⟨by simp [orI, *], rfl⟩, fun h7 => ⟨fun h8 => ⟨by simp [orI, *], rfl⟩, fun h8 => ⟨fun h9 => ⟨by simp [orI, *], rfl⟩, fun h9 => ⟨by simp [orI, *], rfl⟩⟩⟩⟩⟩⟩⟩⟩⟩⟩
  exact vcFn_of mixed (noPc_ok _) (noCt_ok _) (fst9VC_eq ..) hh
def c126 : List V → View → Option (Option Prop × V)
  | [.lit (.bool x)], _ => some (none, IV (boolI x))
  | _, _ => none
def c125 : List V → View → PT Ob → Option (Option Prop × V)
  | [.sl id 0 2 2], _, hp => match hp.get id with
    | some (.cells 23 [.lit (.int .u32 x), .lit (.int .u32 y)]) => some (none, .lit (.int .u32 (orA x y)))
    | _ => none
  | _, _, _ => none
def c127 : List V → View → PT Ob → Option (Option Prop × V)
  | [.sl id 0 9 9], _, hp => match hp.get id with
    | some (.cells 3 [.lit (.int .i64 a), .lit (.int .i64 b), .lit (.int .i64 c), .lit (.int .i64 d), .lit (.int .i64 e), .lit (.int .i64 f), .lit (.int .i64 g), .lit (.int .i64 h), .lit (.int .i64 i)]) => some (none, IV (orI [a, b, c, d, e, f, g, h, i]))
    | _ => none
  | _, _, _ => none
def c81 : List V → View → Option (Option Prop × V)
  | [.lit (.int .i64 x), .lit (.int .i64 y)], _ => some (none, IV (cmpI x y))
  | _, _ => none
def c128 : List V → View → Option (Option Prop × V)
  | [.lit (.int .u32 x), .lit (.int .u32 y)], _ => some (none, IV (cmpI x y))
  | _, _ => none
def pcB : Pc := pcOn 42 c81 (pcOn 43 c128 (pcOn 40 c126 (rcOn 39 c125 (rcOn 41 c127 noPc))))
theorem pcB_ok : PcOk Go.Proofs.Tryz.prog pcB := by
  refine pcOn_ok (pcOn_ok (pcOn_ok (rcOn_ok (rcOn_ok (noPc_ok _) ?_) ?_) ?_) ?_) ?_
  · intro args H hp p v h _
    unfold c127 at h
    split at h
    · split at h
      · rename_i hg
        simp only [Option.some.injEq, Prod.mk.injEq] at h
        obtain ⟨-, rfl⟩ := h
        exact fst9_fn _ _ _ _ _ _ _ _ _ _ _ _ hg
      · cases h
    · cases h
  · intro args H hp p v h _
    unfold c125 at h
    split at h
    · split at h
      · rename_i hg
        simp only [Option.some.injEq, Prod.mk.injEq] at h
        obtain ⟨-, rfl⟩ := h
        exact orA_fn _ _ _ _ _ hg
      · cases h
    · cases h
  · intro args H p v h _
    unfold c126 at h
    split at h
    · simp only [Option.some.injEq, Prod.mk.injEq] at h; obtain ⟨-, rfl⟩ := h; exact boolean_fn _ _
    · cases h
  · intro args H p v h _
    unfold c128 at h
    split at h
    · simp only [Option.some.injEq, Prod.mk.injEq] at h; obtain ⟨-, rfl⟩ := h; exact cmpAddr_fn _ _ _
    · cases h
  · intro args H p v h _
    unfold c81 at h
    split at h
    · simp only [Option.some.injEq, Prod.mk.injEq] at h; obtain ⟨-, rfl⟩ := h; exact cmpInt_fn _ _ _
    · cases h
end Go.Vm
