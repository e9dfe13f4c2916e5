/-
  PROVED: 'Rows.SpfNamesCardSaid': the closed law on shortest paths where there is nobody returns true, whatever the world at the call.
  Its conditions: none beyond the given card's own (the listed variables read as the program's text lays them).
  HOW: the call is computed by an evaluator that is proved against the model (the texts ..VmA to ..VmP); the kernel runs it, the guard piece by piece (..AwakeA to ..AwakeE).
-/
import Derived.Test.YtcpghfnfjdhkbaaGreatDoorRows
import Derived.Test.YtcpghfnfjdhkbaaGreatDoorTie
import Derived.Test.YtcpghfnfjdhkbaaGreatDoorCards
import Derived.Test.YtcpghfnfjdhkbaaGreatDoorAwakeE
import Derived.Test.YtcpghfnfjdhkbaaGreatDoorSpfFacts
import Derived.WalkKit
import Derived.ProofKit
import Derived.OpenShut
import Derived.LaidMore
import Derived.Lay
import Derived.SevenTiedAt
import Derived.Stop.Joined
namespace Go.Proofs.YtcpghfnfjdhkbaaGreatDoor.spfNames
open Go.ChangeShapes Go.WideShapes Go.ChangeAt Go.RowKit
set_option linter.unusedVariables false

theorem own : ownKnob Tryz.prog.godebug = none := by kernel_rfl
noncomputable def b : Code := match Tryz.f5.body with
  | some c => c
  | none => .skip
theorem ran : Go.Vm.segB (Go.Vm.evCode Tryz.prog (fun _ => none) (Go.Vm.withC 15 (.bool true) (Go.Vm.evCall Tryz.prog (fun _ => none) 1000 99)) 90 1000 b (Go.Vm.ofL []) 0 (Go.Vm.ofL [])) .ret [(0, .lit (.bool true))] 61 [] = true := by kernel_rfl
theorem body5 : Tryz.f5.body = some b := by kernel_rfl
theorem walk (w : World) : Calls Tryz.prog 5 #[] w fun e w' => e = .returned (.bool true) ∧ Below w.heap.size w w' :=
  Go.Vm.SegOk.calls Tryz.func5 body5 (by rw [Tryz.ntmps5]; exact Go.Vm.seg_of awake.mixed (Go.Vm.withC_ok (Go.Vm.evCall_ok awake.mixed 99) awake.calls) ran) (.inl rfl) (t := 0) (by kernel_rfl) (by kernel_rfl) w

/-- What stood below the heap's old size stands: then the law's end holds. -/
theorem post_of_below {P : Program} {H : Type} {enc : TypeId × Value → H} {f : Func} {s : ChangeSpec} {apart fresh handsOn again : Bool} {W W' : World} {args : Array Value} {v : Value} {ds gs : List (DataW H)} {before pa pv : List MemPlace}
    (hW : DataW.Whole enc P f.params.toList s.vars apart W args.toList ds gs before) (hB : Below W.heap.size W W')
    (hres : ∀ (b : Nat) (sp : Nat → Bool) (hd : Bool), DataW.TrodAll enc P W' b sp hd f.resultTypes.toList (v.resultList f.resultTypes.size) (s.fn H (ds ++ gs)).results [])
    (hargs : ∀ sp : Nat → Bool, (∀ p ∈ before, sp p.block = true) → DataW.TrodAll enc P W' 0 sp true f.params.toList args.toList (s.fn H (ds ++ gs)).args pa)
    (hvars : ∀ sp : Nat → Bool, (∀ p ∈ before, sp p.block = true) → DataW.TrodVars enc P W' sp s.vars (s.fn H (ds ++ gs)).vars pv)
    (hps : before = pa ++ pv)
    (hok : ∀ (j : Nat) (t : TypeId) (r : Value), f.resultTypes[j]? = some t → (v.resultList f.resultTypes.size)[j]? = some r → Value.okWide P W' .any 0 t r) : s.post enc P f apart fresh handsOn again W args v W' := by
  have hold : ∀ p ∈ before, (fun b => decide (b < W.heap.size)) p.block = true := fun p hp => by simpa using hW.lt p hp
  have hlt : ∀ p ∈ before, p.block < W.heap.size := fun p hp => by simpa using hold p hp
  refine ⟨ds, gs, before, [], pa, pv, hW, hres _ _ _, hargs _ hold, hvars _ hold, World.keptBut_mono (fun p hp => ⟨hp, ?_⟩) (hB.frame _), fun _ => ?_⟩
  · rw [hps, List.mem_append] at hp
    exact .inr hp
  · obtain ⟨_, _, _, _, _, hz, hn⟩ := hW
    refine ⟨hok, _, _, ([] ++ pa) ++ pv, ⟨[] ++ pa, pv, trodAll_append (hargs _ (fun _ _ => rfl)) (hres _ _ _), hvars _ (fun _ _ => rfl), rfl, ?_, ?_⟩, ?_⟩
    · intro b off hp
      have hp' : MemPlace.cell b off ∈ before := by rw [hps]; simpa using hp
      rw [hB.frozen (p := ⟨b, off, none⟩) (hlt _ hp')]
      exact hz b off hp'
    · intro ha
      have := hn ha
      rw [hps] at this
      simpa using this
    · intro p hp _
      rw [hps]
      simpa using hp

def laid : List (String × DataW Unit) := [("math/bits.deBruijn32tab", Rows.laid_math_bits_deBruijn32tab), ("math/bits.deBruijn64tab", Rows.laid_math_bits_deBruijn64tab), ("internal/strconv.uint64pow10", Rows.laid_internal_strconv_uint64pow10)]
set_option maxRecDepth 100000
noncomputable abbrev W0 (os : Os) : World := (World.laidAll Tryz.prog os laid).forCall (fun _ _ => 0) ⟨#[], #[], []⟩
theorem k1 : Tryz.checked.prog.inits.idxOf? 5 = none := by kernel_rfl
theorem k2 (os : Os) : World.variablesZipB Tryz.checked.prog (W0 os) = true := by kernel_rfl
theorem k3 (os : Os) : List.take ((begin Tryz.checked.prog (fun _ _ => 0) default).world.heap.size - Tryz.checked.prog.globals.size) (List.drop Tryz.checked.prog.globals.size (W0 os).heap.toList) = List.drop Tryz.checked.prog.globals.size (begin Tryz.checked.prog (fun _ _ => 0) default).world.heap.toList := by kernel_rfl
theorem k4 (os : Os) : Input.okWideB Tryz.checked.prog (W0 os) 5 ⟨#[], #[], []⟩ = true := by kernel_rfl
theorem k5 (os : Os) (H : Type) (enc : TypeId × Value → H) : ChangeSpec.preB enc Tryz.checked.prog Tryz.f5 Rows.spfNamesSpec Rows.spfNamesRow.domain false (W0 os).memory #[] 8 = true := by kernel_rfl
theorem k6 (os : Os) (H : Type) (enc : TypeId × Value → H) : ChangeSpec.sizedB enc Tryz.checked.prog Tryz.f5 Rows.spfNamesSpec false (W0 os).memory #[] 8 = true := by kernel_rfl
theorem k7 : (laid.all fun x => x.snd.handleName?.isNone) = true := by kernel_rfl
theorem k8 (os : Os) : World.layFits Tryz.prog (World.holding Tryz.prog os ⟨#[], #[], []⟩) laid [] = true := by kernel_rfl
theorem k9 (os : Os) : World.layIfaces Tryz.prog (World.holding Tryz.prog os ⟨#[], #[], []⟩) laid (World.laidAll Tryz.prog os laid) = true := by kernel_rfl
theorem lifted (os : Os) (started : os.Started) (H : Type) (enc : TypeId × Value → H) :
    ReturnsInHanded {} Tryz.checked os 5 .any (fun w args => (Rows.spfNamesSpec.pre enc Tryz.prog Tryz.f5 Rows.spfNamesRow.domain false w args ∧ laidMetH Tryz.prog laid w) ∧ sizedMet enc Tryz.prog Tryz.f5 (OpenSpec.ofChange Rows.spfNamesSpec) false w args)
      (Rows.spfNamesSpec.post enc Tryz.prog Tryz.f5 false true false false) := by
  refine returnsInHanded_of_change_and (C := Tryz.checked) (X := fun w _ => laidMetH Tryz.prog laid w) (fun _ _ _ hh h => h.of_heap hh) own started k1 Tryz.func5
    (ChangeSpec.witness_shaped (enc := enc) (C := Tryz.checked) (os := os) (X := fun w _ => laidMetH Tryz.prog laid w) false (World.laidAll Tryz.prog os laid) #[] 8 (World.laidAll_os _ _ _)
      (World.shaped_of_ZipB (k2 os) (k3 os)) (k4 os) (k5 os H enc) (k6 os H enc)
      (by rw [MakeChecks.laidMetH_plain _ _ _ k7]; exact laidMet_laidAll _ (k8 os) (k9 os))) ?_
  intro W base args ds gs before hval0 hW hc _ hL _
  have hval : ∀ (j : Nat) t v, Tryz.f5.params[j]? = some t → args[j]? = some v → Value.okWide Tryz.prog W .any base t v := hval0
  have hW' := hW
  obtain ⟨p, q, hA0, hV, rfl, _, _⟩ := hW
  have hA : DataW.TrodAll enc Tryz.prog W 0 (fun _ => true) true Tryz.f5.params.toList args.toList ds p := hA0
  rw [Tryz.params5] at hA hval
  obtain ⟨rfl, rfl, rfl⟩ := trodAll_none hA
  obtain ⟨rfl, rfl⟩ := trodVars_none hV
  clear hA0 hval0
  simp only [List.append_nil] at hW'
  refine (walk W).mono fun e W' ⟨he, hg⟩ => ?_
  subst he
  exact ⟨_, rfl, post_of_below (pa := []) (pv := []) hW' hg (fun _ _ _ => (trodAll_cons_mk (shut_bool Tryz.underlying4 _) trodAll_mk0)) (fun sp _ => rfl) (fun _ _ => rfl) rfl
    (ok_one (by kernel_rfl) rfl (okWide_bool_mk Tryz.underlying4 _))⟩

theorem over : Rows.spfNamesRow.holds Tryz.pinned (OpenSpec.ofChange Rows.spfNamesSpec) :=
  OpenClaim.holds_of_wide 5 Tryz.f5 rfl rfl rfl rfl rfl rfl rfl ⟨rfl, rfl, rfl, rfl, rfl⟩ rfl rfl rfl rfl rfl (by kernel_rfl) Tryz.func5 closed
    (of_decide_eq_true (by kernel_rfl)) (by unfold Func.isWrapper; first | (rw [if_pos (by decide +kernel)]; kernel_rfl) | (rw [if_neg (by decide +kernel)]; exact ⟨rfl, rfl⟩))
    (fun os started H enc _ => lifted os started H enc)

/-- Where no body of the whole program starts a goroutine, none is started. -/
theorem goes_none {P : Program} (h : P.funcs.toList.all (fun f => !f.goes) = true) (func : String) : P.goesFrom func = false := by
  have hall : ∀ g : Nat, (P.funcs[g]?).any Func.goes = false := by
    intro g
    cases hg : P.funcs[g]? with
    | none => rfl
    | some fn =>
      have hm : fn ∈ P.funcs.toList := by
        rw [← Array.getElem?_toList] at hg
        exact List.mem_of_getElem? hg
      have := List.all_eq_true.1 h fn hm
      simpa using this
  have hany : P.funcs.any Func.goes = false := by
    rw [← Array.any_toList]
    rw [List.any_eq_false]
    intro x hx
    have := List.all_eq_true.1 h x hx
    simpa using this
  unfold Program.goesFrom
  cases P.funcNamed func with
  | none => rfl
  | some f =>
    show P.goes f = false
    unfold Program.goes
    rw [hany]
    simp [hall]
theorem goesBy_none {P : Program} {c : OpenClaim} (h : P.funcs.toList.all (fun f => !f.goes) = true) (hs : c.start = .entering) : c.goesBy P = false := by
  unfold OpenClaim.goesBy Program.goesAt
  rw [hs, goes_none h]
  rfl
theorem still : Tryz.pinned.checked.prog.funcs.toList.all (fun f => !f.goes) = true := by kernel_rfl

theorem card_holds : Rows.SpfNamesCardSaid :=
  Claim7.holds_tied_plain_at .later [] [.data, .data, .data] true (true, "a274d2f75ba12674d7d568a3e0ecd4fcf8769234f69c7438ac6c750061f0a3dd") false
    over (fun _ h => by cases h) (by kernel_rfl) (fun _ h => by cases h) spfNames_row_tie rfl ⟨rfl, rfl⟩ (by kernel_rfl) rfl
    (fun f fn hf hfn => by
      obtain rfl : f = 5 := Option.some.inj ((show Tryz.prog.funcNamed "waymark/waymarklaw18.SpfNames" = some 5 by kernel_rfl).symm.trans hf) |>.symm
      obtain rfl : fn = Tryz.f5 := (Option.some.inj (Tryz.func5.symm.trans hfn)).symm
      exact ⟨by kernel_rfl, fun j t ht => by
        rw [Tryz.params5] at ht
        simp at ht⟩)
    (goesBy_none (P := Tryz.pinned.checked.prog) (c := Rows.spfNamesRow) still rfl).symm
#print axioms card_holds
end Go.Proofs.YtcpghfnfjdhkbaaGreatDoor.spfNames
