/-
  PROVED: 'Rows.BgpOrderCardSaid': the law that what is better is an order returns true, for any three adverts and any costs, whatever the world at the call, and leaves its arguments as they were.
  Its conditions: none beyond the given card's own (the listed variables read as the program's text lays them).
  HOW: the law's body, and those of Better, order and what they call, are reckoned over open values to plain propositions (..Bo*), which are proved; the law's guard is run by an evaluator that is proved against the model (..Wk*).
-/
import Derived.Test.YtdghfmbbohlcgaaGreatDoorRows
import Derived.Test.YtdghfmbbohlcgaaGreatDoorTie
import Derived.Test.YtdghfmbbohlcgaaGreatDoorCards
import Derived.Test.YtdghfmbbohlcgaaGreatDoorOrdWalk
import Derived.Test.YtdghfmbbohlcgaaGreatDoorOrdFacts
import Derived.WalkKit
import Derived.ProofKit
import Derived.OpenShut
import Derived.LaidMore
import Derived.Lay
import Derived.SevenTiedAt
import Derived.Stop.Joined
namespace Go.Proofs.YtdghfmbbohlcgaaGreatDoor.bgpOrder
open Go.ChangeShapes Go.WideShapes Go.ChangeAt Go.RowKit
set_option linter.unusedVariables false
set_option maxRecDepth 100000
theorem own : ownKnob Tryz.prog.godebug = none := by kernel_rfl
/-- What stood below the heap's old size stands: then the law's end holds. -/
theorem post_of_below {P : Program} {H : Type} {enc : TypeId × Value → H} {f : Func} {s : ChangeSpec} {apart fresh handsOn again : Bool} {W W' : World} {args : Array Value} {v : Value} {ds gs : List (DataW H)} {before pa pv : List MemPlace}
    (hW : DataW.Whole enc P f.params.toList s.vars apart W args.toList ds gs before) (hB : Below W.heap.size W W')
    (hres : ∀ (b : Nat) (sp : Nat → Bool) (hd : Bool), DataW.TrodAll enc P W' b sp hd f.resultTypes.toList (v.resultList f.resultTypes.size) (s.fn H (ds ++ gs)).results [])
    (hargs : ∀ sp : Nat → Bool, (∀ p ∈ before, sp p.block = true) → DataW.TrodAll enc P W' 0 sp true f.params.toList args.toList (s.fn H (ds ++ gs)).args pa)
    (hvars : ∀ sp : Nat → Bool, (∀ p ∈ before, sp p.block = true) → DataW.TrodVars enc P W' sp s.vars (s.fn H (ds ++ gs)).vars pv)
    (hps : before = pa ++ pv)
    (hok : ∀ (j : Nat) (t : TypeId) (r : Value), f.resultTypes[j]? = some t → (v.resultList f.resultTypes.size)[j]? = some r → Value.okWide P W' .any 0 t r) : s.post enc P f apart fresh handsOn again W args v W' := by
  have hold : ∀ p ∈ before, (fun b => decide (b < W.heap.size)) p.block = true := fun p hp => by simpa using hW.lt p hp
  have hlt : ∀ p ∈ before, p.block < W.heap.size := fun p hp => by simpa using hold p hp
  refine ⟨ds, gs, before, [], pa, pv, hW, hres _ _ _, hargs _ hold, hvars _ hold, World.keptBut_mono (fun p hp => ⟨hp, ?_⟩) (hB.frame _), fun _ => ?_⟩
  · rw [hps, List.mem_append] at hp
    exact .inr hp
  · obtain ⟨_, _, _, _, _, hz, hn⟩ := hW
    refine ⟨hok, _, _, ([] ++ pa) ++ pv, ⟨[] ++ pa, pv, trodAll_append (hargs _ (fun _ _ => rfl)) (hres _ _ _), hvars _ (fun _ _ => rfl), rfl, ?_, ?_⟩, ?_⟩
    · intro b off hp
      have hp' : MemPlace.cell b off ∈ before := by rw [hps]; simpa using hp
      rw [hB.frozen (p := ⟨b, off, none⟩) (hlt _ hp')]
      exact hz b off hp'
    · intro ha
      have := hn ha
      rw [hps] at this
      simpa using this
    · intro p hp _
      rw [hps]
      simpa using hp

def laid : List (String × DataW Unit) := [("math/bits.deBruijn32tab", Rows.laid_math_bits_deBruijn32tab), ("math/bits.deBruijn64tab", Rows.laid_math_bits_deBruijn64tab), ("internal/strconv.uint64pow10", Rows.laid_internal_strconv_uint64pow10), ("waymark/waymarklaw19.net", Rows.laid_waymark_waymarklaw19_net)]
def ad0 : Value := .agg #[.int .u32 0, .int .i64 0, .int .u32 0, .int .i64 0, .int .i64 0, .slice none 0 0, .slice none 0 0, .int .u32 0, .int .u32 0, .bool false, .int .u32 0, .slice none 0 0, .int .i64 0]
def args0 : Array Value := #[ad0, ad0, ad0, .int .i64 0, .int .i64 0, .int .i64 0]
noncomputable abbrev W0 (os : Os) : World := (World.laidAll Tryz.prog os laid).forCall (fun _ _ => 0) ⟨#[], args0, []⟩
theorem k1 : Tryz.checked.prog.inits.idxOf? 3 = none := by kernel_rfl
theorem k2 (os : Os) : World.variablesZipB Tryz.checked.prog (W0 os) = true := by kernel_rfl
theorem k3 (os : Os) : List.take ((begin Tryz.checked.prog (fun _ _ => 0) default).world.heap.size - Tryz.checked.prog.globals.size) (List.drop Tryz.checked.prog.globals.size (W0 os).heap.toList) = List.drop Tryz.checked.prog.globals.size (begin Tryz.checked.prog (fun _ _ => 0) default).world.heap.toList := by kernel_rfl
theorem k4 (os : Os) : Input.okWideB Tryz.checked.prog (W0 os) 3 ⟨#[], args0, []⟩ = true := by kernel_rfl
theorem k5 (os : Os) (H : Type) (enc : TypeId × Value → H) : ChangeSpec.preB enc Tryz.checked.prog Tryz.f3 Rows.bgpOrderSpec Rows.bgpOrderRow.domain false (W0 os).memory args0 8 = true := by kernel_rfl
theorem k6 (os : Os) (H : Type) (enc : TypeId × Value → H) : ChangeSpec.sizedB enc Tryz.checked.prog Tryz.f3 Rows.bgpOrderSpec false (W0 os).memory args0 8 = true := by kernel_rfl
theorem k7 : (laid.all fun x => x.snd.handleName?.isNone) = true := by kernel_rfl
theorem k8 (os : Os) : World.layFits Tryz.prog (World.holding Tryz.prog os ⟨#[], args0, []⟩) laid [] = true := by kernel_rfl
theorem k9 (os : Os) : World.layIfaces Tryz.prog (World.holding Tryz.prog os ⟨#[], args0, []⟩) laid (World.laidAll Tryz.prog os laid) = true := by kernel_rfl
theorem g0 : Tryz.prog.globalNamed "waymark/waymarklaw19.net" = some 0 := by kernel_rfl
theorem g1 : (Tryz.prog.globals[0]?).map (·.type) = some 25 := by kernel_rfl
theorem net_in {W : World} (h : laidMet Tryz.prog laid W) : Go.Vm.NetIn (Go.Vm.hv W) :=
  Go.Vm.two_in (t := 25) h (.tail _ (.tail _ (.tail _ (.head _)))) g0 g1 Tryz.underlying25 (by kernel_rfl) ⟨rfl, by kernel_rfl, by kernel_rfl⟩ ⟨rfl, by kernel_rfl, by kernel_rfl⟩
theorem laidOut : laidOutB Tryz.prog = true := by kernel_rfl
theorem reads : ∀ t ∈ [29, 29, 29, 3, 3, 3], Tryz.prog.readableRec t = true ∧ t < Tryz.prog.types.size := by
  have h29 : Tryz.prog.readableRec 29 = true ∧ 29 < Tryz.prog.types.size := ⟨by kernel_rfl, of_decide_eq_true (by kernel_rfl)⟩
  have h3 : Tryz.prog.readableRec 3 = true ∧ 3 < Tryz.prog.types.size := ⟨by kernel_rfl, of_decide_eq_true (by kernel_rfl)⟩
  intro t ht
  simp only [List.mem_cons, List.not_mem_nil, or_false] at ht
  rcases ht with rfl | rfl | rfl | rfl | rfl | rfl <;> assumption
theorem lifted (os : Os) (started : os.Started) (H : Type) (enc : TypeId × Value → H) :
    ReturnsInHanded {} Tryz.checked os 3 .any (fun w args => (Rows.bgpOrderSpec.pre enc Tryz.prog Tryz.f3 Rows.bgpOrderRow.domain false w args ∧ laidMetH Tryz.prog laid w) ∧ sizedMet enc Tryz.prog Tryz.f3 (OpenSpec.ofChange Rows.bgpOrderSpec) false w args)
      (Rows.bgpOrderSpec.post enc Tryz.prog Tryz.f3 false true false false) := by
  refine returnsInHanded_of_change_and (C := Tryz.checked) (X := fun w _ => laidMetH Tryz.prog laid w) (fun _ _ _ hh h => h.of_heap hh) own started k1 Tryz.func3
    (ChangeSpec.witness_shaped (enc := enc) (C := Tryz.checked) (os := os) (X := fun w _ => laidMetH Tryz.prog laid w) false (World.laidAll Tryz.prog os laid) args0 8 (World.laidAll_os _ _ _)
      (World.shaped_of_ZipB (k2 os) (k3 os)) (k4 os) (k5 os H enc) (k6 os H enc)
      (by rw [MakeChecks.laidMetH_plain _ _ _ k7]; exact laidMet_laidAll _ (k8 os) (k9 os))) ?_
  intro W base args ds gs before hval0 hW hc _ hL _
  have hval : ∀ (j : Nat) t v, Tryz.f3.params[j]? = some t → args[j]? = some v → Value.okWide Tryz.prog W .any base t v := hval0
  have hW' := hW
  obtain ⟨p, q, hA0, hV, rfl, _, _⟩ := hW
  have hA : DataW.TrodAll enc Tryz.prog W 0 (fun _ => true) true Tryz.f3.params.toList args.toList ds p := hA0
  rw [Tryz.params3] at hA hval
  have hAk := hA
  obtain ⟨v1, vs, d1, ds', p1, q1, e1, rfl, rfl, a1, hA⟩ := trodAll_cons hA
  obtain ⟨v2, vs, d2, ds', p2, q2, rfl, rfl, rfl, a2, hA⟩ := trodAll_cons hA
  obtain ⟨v3, vs, d3, ds', p3, q3, rfl, rfl, rfl, a3, hA⟩ := trodAll_cons hA
  obtain ⟨v4, vs, d4, ds', p4, q4, rfl, rfl, rfl, a4, hA⟩ := trodAll_cons hA
  obtain ⟨v5, vs, d5, ds', p5, q5, rfl, rfl, rfl, a5, hA⟩ := trodAll_cons hA
  obtain ⟨v6, vs, d6, ds', p6, q6, rfl, rfl, rfl, a6, hA⟩ := trodAll_cons hA
  obtain ⟨rfl, rfl, rfl⟩ := trodAll_nil hA
  obtain ⟨rfl, rfl⟩ := trodVars_none hV
  have eargs : args = #[v1, v2, v3, v4, v5, v6] := Array.toList_inj.1 e1
  subst eargs
  clear hA0 hval0
  simp only [List.append_nil] at hW' hAk
  obtain ⟨c1, rfl, h1⟩ := Go.Vm.arg_struct rfl (by kernel_rfl) ck29 (hval 0 29 v1 rfl rfl) a1
  obtain ⟨c2, rfl, h2⟩ := Go.Vm.arg_struct rfl (by kernel_rfl) ck29 (hval 1 29 v2 rfl rfl) a2
  obtain ⟨c3, rfl, h3⟩ := Go.Vm.arg_struct rfl (by kernel_rfl) ck29 (hval 2 29 v3 rfl rfl) a3
  obtain ⟨x, rfl⟩ := int_open (Go.Vm.arg_one rfl (by kernel_rfl) ck3 (hval 3 3 v4 rfl rfl) a4)
  obtain ⟨y, rfl⟩ := int_open (Go.Vm.arg_one rfl (by kernel_rfl) ck3 (hval 4 3 v5 rfl rfl) a5)
  obtain ⟨z, rfl⟩ := int_open (Go.Vm.arg_one rfl (by kernel_rfl) ck3 (hval 5 3 v6 rfl rfl) a6)
  have hN := net_in (by rw [MakeChecks.laidMetH_plain _ _ _ k7] at hL; exact hL)
  refine (walk hN h1 h2 h3).mono fun e W' ⟨he, hg⟩ => ?_
  subst he
  have hlt : ∀ m ∈ (p1 ++ (p2 ++ (p3 ++ (p4 ++ (p5 ++ p6))))), m.block < W.heap.size := fun m hm => by simpa using hW'.lt m (by simpa using hm)
  exact ⟨_, rfl, post_of_below (pa := p1 ++ (p2 ++ (p3 ++ (p4 ++ (p5 ++ p6))))) (pv := []) hW' hg (fun _ _ _ => (trodAll_cons_mk (shut_bool Tryz.underlying4 _) trodAll_mk0))
    (fun sp hsp => by rw [Tryz.params3]; exact Go.Vm.trodAll_stays laidOut hg _ _ _ _ reads hAk hlt (fun m hm => hsp m (by simpa using hm))) (fun _ _ => rfl) (by simp)
    (ok_one (by kernel_rfl) rfl (okWide_bool_mk Tryz.underlying4 _))⟩

theorem over : Rows.bgpOrderRow.holds Tryz.pinned (OpenSpec.ofChange Rows.bgpOrderSpec) :=
  OpenClaim.holds_of_wide 3 Tryz.f3 rfl rfl rfl rfl rfl rfl rfl ⟨rfl, rfl, rfl, rfl, rfl⟩ rfl rfl rfl rfl rfl (by kernel_rfl) Tryz.func3 closed
    (of_decide_eq_true (by kernel_rfl)) (by unfold Func.isWrapper; first | (rw [if_pos (by decide +kernel)]; kernel_rfl) | (rw [if_neg (by decide +kernel)]; exact ⟨rfl, rfl⟩))
    (fun os started H enc _ => lifted os started H enc)

/-- Where no body of the whole program starts a goroutine, none is started. -/
theorem goes_none {P : Program} (h : P.funcs.toList.all (fun f => !f.goes) = true) (func : String) : P.goesFrom func = false := by
  have hall : ∀ g : Nat, (P.funcs[g]?).any Func.goes = false := by
    intro g
    cases hg : P.funcs[g]? with
    | none => rfl
    | some fn =>
      have hm : fn ∈ P.funcs.toList := by
        rw [← Array.getElem?_toList] at hg
        exact List.mem_of_getElem? hg
      have := List.all_eq_true.1 h fn hm
      simpa using this
  have hany : P.funcs.any Func.goes = false := by
    rw [← Array.any_toList]
    rw [List.any_eq_false]
    intro x hx
    have := List.all_eq_true.1 h x hx
    simpa using this
  unfold Program.goesFrom
  cases P.funcNamed func with
  | none => rfl
  | some f =>
    show P.goes f = false
    unfold Program.goes
    rw [hany]
    simp [hall]
theorem goesBy_none {P : Program} {c : OpenClaim} (h : P.funcs.toList.all (fun f => !f.goes) = true) (hs : c.start = .entering) : c.goesBy P = false := by
  unfold OpenClaim.goesBy Program.goesAt
  rw [hs, goes_none h]
  rfl
theorem still : Tryz.pinned.checked.prog.funcs.toList.all (fun f => !f.goes) = true := by kernel_rfl

theorem wants : ∀ t, t ∈ (#[29, 29, 29, 3, 3, 3] : Array TypeId) → Tryz.pinned.checked.prog.wantsStandIn t = false := by
  have h29 : Tryz.pinned.checked.prog.wantsStandIn 29 = false := by kernel_rfl
  have h3 : Tryz.pinned.checked.prog.wantsStandIn 3 = false := by kernel_rfl
  intro t ht
  simp only [List.mem_toArray, List.mem_cons, List.not_mem_nil, or_false] at ht
  rcases ht with rfl | rfl | rfl | rfl | rfl | rfl <;> assumption
theorem card_holds : Rows.BgpOrderCardSaid :=
  Claim7.holds_tied_plain_at .later [] [.data, .data, .data, .data] true (true, "3536826ac9e827853b7fb2f03d5d83b0ab1cb062feaaca84bdcf5ce4d199450e") false
    over (fun _ h => by cases h) (by kernel_rfl) (fun _ h => by cases h) bgpOrder_row_tie rfl ⟨rfl, rfl⟩ (by kernel_rfl) rfl
    (fun f fn hf hfn => by
      obtain rfl : f = 3 := Option.some.inj ((show Tryz.prog.funcNamed "waymark/waymarklaw19.BgpOrder" = some 3 by kernel_rfl).symm.trans hf) |>.symm
      obtain rfl : fn = Tryz.f3 := (Option.some.inj (Tryz.func3.symm.trans hfn)).symm
      exact ⟨by kernel_rfl, fun j t ht => by
        rw [Tryz.params3] at ht
        exact wants t (Array.mem_of_getElem? ht)⟩)
    (goesBy_none (P := Tryz.pinned.checked.prog) (c := Rows.bgpOrderRow) still rfl).symm
#print axioms card_holds
end Go.Proofs.YtdghfmbbohlcgaaGreatDoor.bgpOrder
