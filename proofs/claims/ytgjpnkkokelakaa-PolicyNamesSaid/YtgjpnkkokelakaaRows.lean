/-
  No cell of these rows narrows 'for every input' (looked for: loops, veiled, ifaces, maps, wideKeys, modest, calm, conditions, laid).
  DERIVED. THE GIVEN ROWS OF THIS SEAT. 8 by the template 'for every input the law returns true; each argument reads behind the call as it read before'; 0 by the template 'total and deterministic' (their statements: YtgjpnkkokelakaaTotals.lean).
  GIVEN WITH THE SEED: the statements are not yours to turn. If you find one false, say at which input.
  Laid BY PROGRAM, IN A SANDBOX (cutbox-rows.mjs): the forced cells as the released guide's own fill.sh prints them over the translation 466cd66aa25ea7a7… (all of the seat's roots in one cut). By AI agents, Wed Nov 11 2026. No macro, syntax, notation, axiom, sorry.
-/
import Derived.Test.YtgjpnkkokelakaaChecked
import GoSem.Claim
import GoSem.ClaimJoined
import GoSem.ClaimMapViews
import Derived.JoinedTies
import Derived.KernelRfl
namespace Go.Proofs.Ytgjpnkkokelakaa
/- THE CELL 'sum', in the pinned program and in every row, IS THE sha256 OF THE DUMP (.gsa) THAT YtgjpnkkokelakaaProg.lean LOADS. Nothing in Lean hashes anything: it is a label: what it is worth is what the hold of that sum in a sandbox is worth. -/
noncomputable def Try.pinned : Pinned := { name := "ytgjpnkkokelakaa", sum := "466cd66aa25ea7a7e2fd92212175290b734727be6cb7e96ae95dd93b49edb1f7", checked := Try.checked }
namespace Rows
def none {H : Type} : Left H := { results := [], args := [] }

/-- 'waymarklaw19.BgpChooses': WHATEVER THE INPUT: true; the input reads as it did. -/
def bgpChoosesSpec : ChangeSpec := { name := "bgpChooses", fn := fun _ => fun
  | [d1, d2, d3, d4] => { results := [.lit (.bool true)], args := [d1, d2, d3, d4] }
  | _ => none }
def bgpChoosesRow : OpenClaim := { program := "ytgjpnkkokelakaa", sum := "466cd66aa25ea7a7e2fd92212175290b734727be6cb7e96ae95dd93b49edb1f7", func := "waymark/waymarklaw19.BgpChooses", spec := "bgpChooses", unfollowed := true, recurses := true, plainKeys := false, apart := false }
def BgpChoosesSaid : Prop := bgpChoosesRow.holds Try.pinned (OpenSpec.ofChange bgpChoosesSpec)

/-- ITS FALSE NEIGHBOUR: 'it returns false'. Refute it at one input. -/
def bgpChoosesWrong : ChangeSpec := { name := "bgpChooses", fn := fun _ => fun
  | [d1, d2, d3, d4] => { results := [.lit (.bool false)], args := [d1, d2, d3, d4] }
  | _ => none }
def BgpChoosesWrongFalsely : Prop := bgpChoosesRow.holds Try.pinned (OpenSpec.ofChange bgpChoosesWrong)

/-- 'waymarklaw20.RibTakes': WHATEVER THE INPUT: true; the input reads as it did. -/
def ribTakesSpec : ChangeSpec := { name := "ribTakes", fn := fun _ => fun
  | [d1, d2] => { results := [.lit (.bool true)], args := [d1, d2] }
  | _ => none }
def ribTakesRow : OpenClaim := { program := "ytgjpnkkokelakaa", sum := "466cd66aa25ea7a7e2fd92212175290b734727be6cb7e96ae95dd93b49edb1f7", func := "waymark/waymarklaw20.RibTakes", spec := "ribTakes", unfollowed := true, recurses := true, plainKeys := false, apart := false }
def RibTakesSaid : Prop := ribTakesRow.holds Try.pinned (OpenSpec.ofChange ribTakesSpec)

/-- ITS FALSE NEIGHBOUR: 'it returns false'. Refute it at one input. -/
def ribTakesWrong : ChangeSpec := { name := "ribTakes", fn := fun _ => fun
  | [d1, d2] => { results := [.lit (.bool false)], args := [d1, d2] }
  | _ => none }
def RibTakesWrongFalsely : Prop := ribTakesRow.holds Try.pinned (OpenSpec.ofChange ribTakesWrong)

/-- 'waymarklaw20.RibBest': WHATEVER THE INPUT: true; the input reads as it did. -/
def ribBestSpec : ChangeSpec := { name := "ribBest", fn := fun _ => fun
  | [d1, d2] => { results := [.lit (.bool true)], args := [d1, d2] }
  | _ => none }
def ribBestRow : OpenClaim := { program := "ytgjpnkkokelakaa", sum := "466cd66aa25ea7a7e2fd92212175290b734727be6cb7e96ae95dd93b49edb1f7", func := "waymark/waymarklaw20.RibBest", spec := "ribBest", unfollowed := true, recurses := true, plainKeys := false, apart := false }
def RibBestSaid : Prop := ribBestRow.holds Try.pinned (OpenSpec.ofChange ribBestSpec)

/-- ITS FALSE NEIGHBOUR: 'it returns false'. Refute it at one input. -/
def ribBestWrong : ChangeSpec := { name := "ribBest", fn := fun _ => fun
  | [d1, d2] => { results := [.lit (.bool false)], args := [d1, d2] }
  | _ => none }
def RibBestWrongFalsely : Prop := ribBestRow.holds Try.pinned (OpenSpec.ofChange ribBestWrong)

/-- 'waymarklaw20.RibLooked': WHATEVER THE INPUT: true; the input reads as it did. -/
def ribLookedSpec : ChangeSpec := { name := "ribLooked", fn := fun _ => fun
  | [d1, d2] => { results := [.lit (.bool true)], args := [d1, d2] }
  | _ => none }
def ribLookedRow : OpenClaim := { program := "ytgjpnkkokelakaa", sum := "466cd66aa25ea7a7e2fd92212175290b734727be6cb7e96ae95dd93b49edb1f7", func := "waymark/waymarklaw20.RibLooked", spec := "ribLooked", unfollowed := true, recurses := true, plainKeys := false, apart := false }
def RibLookedSaid : Prop := ribLookedRow.holds Try.pinned (OpenSpec.ofChange ribLookedSpec)

/-- ITS FALSE NEIGHBOUR: 'it returns false'. Refute it at one input. -/
def ribLookedWrong : ChangeSpec := { name := "ribLooked", fn := fun _ => fun
  | [d1, d2] => { results := [.lit (.bool false)], args := [d1, d2] }
  | _ => none }
def RibLookedWrongFalsely : Prop := ribLookedRow.holds Try.pinned (OpenSpec.ofChange ribLookedWrong)

/-- 'waymarklaw16.PolicyNothing': WHATEVER THE INPUT: true; the input reads as it did. -/
def policyNothingSpec : ChangeSpec := { name := "policyNothing", fn := fun _ => fun
  | [d1, d2, d3] => { results := [.lit (.bool true)], args := [d1, d2, d3] }
  | _ => none }
def policyNothingRow : OpenClaim := { program := "ytgjpnkkokelakaa", sum := "466cd66aa25ea7a7e2fd92212175290b734727be6cb7e96ae95dd93b49edb1f7", func := "waymark/waymarklaw16.PolicyNothing", spec := "policyNothing", unfollowed := true, recurses := true, plainKeys := false, apart := false }
def PolicyNothingSaid : Prop := policyNothingRow.holds Try.pinned (OpenSpec.ofChange policyNothingSpec)

/-- ITS FALSE NEIGHBOUR: 'it returns false'. Refute it at one input. -/
def policyNothingWrong : ChangeSpec := { name := "policyNothing", fn := fun _ => fun
  | [d1, d2, d3] => { results := [.lit (.bool false)], args := [d1, d2, d3] }
  | _ => none }
def PolicyNothingWrongFalsely : Prop := policyNothingRow.holds Try.pinned (OpenSpec.ofChange policyNothingWrong)

/-- 'waymarklaw16.PolicyClauses': WHATEVER THE INPUT: true; the input reads as it did. -/
def policyClausesSpec : ChangeSpec := { name := "policyClauses", fn := fun _ => fun
  | [d1, d2, d3, d4] => { results := [.lit (.bool true)], args := [d1, d2, d3, d4] }
  | _ => none }
def policyClausesRow : OpenClaim := { program := "ytgjpnkkokelakaa", sum := "466cd66aa25ea7a7e2fd92212175290b734727be6cb7e96ae95dd93b49edb1f7", func := "waymark/waymarklaw16.PolicyClauses", spec := "policyClauses", unfollowed := true, recurses := true, plainKeys := false, apart := false }
def PolicyClausesSaid : Prop := policyClausesRow.holds Try.pinned (OpenSpec.ofChange policyClausesSpec)

/-- ITS FALSE NEIGHBOUR: 'it returns false'. Refute it at one input. -/
def policyClausesWrong : ChangeSpec := { name := "policyClauses", fn := fun _ => fun
  | [d1, d2, d3, d4] => { results := [.lit (.bool false)], args := [d1, d2, d3, d4] }
  | _ => none }
def PolicyClausesWrongFalsely : Prop := policyClausesRow.holds Try.pinned (OpenSpec.ofChange policyClausesWrong)

/-- 'waymarklaw16.PolicyNames': WHATEVER THE INPUT: true; the input reads as it did. -/
def policyNamesSpec : ChangeSpec := { name := "policyNames", fn := fun _ => fun
  | [] => { results := [.lit (.bool true)], args := [] }
  | _ => none }
def policyNamesRow : OpenClaim := { program := "ytgjpnkkokelakaa", sum := "466cd66aa25ea7a7e2fd92212175290b734727be6cb7e96ae95dd93b49edb1f7", func := "waymark/waymarklaw16.PolicyNames", spec := "policyNames", unfollowed := true, recurses := true, plainKeys := false, apart := false }
def PolicyNamesSaid : Prop := policyNamesRow.holds Try.pinned (OpenSpec.ofChange policyNamesSpec)

/-- ITS FALSE NEIGHBOUR: 'it returns false'. Refute it at one input. -/
def policyNamesWrong : ChangeSpec := { name := "policyNames", fn := fun _ => fun
  | [] => { results := [.lit (.bool false)], args := [] }
  | _ => none }
def PolicyNamesWrongFalsely : Prop := policyNamesRow.holds Try.pinned (OpenSpec.ofChange policyNamesWrong)

/-- 'waymarklaw20.RibCandidates': WHATEVER THE INPUT: true; the input reads as it did. -/
def ribCandidatesSpec : ChangeSpec := { name := "ribCandidates", fn := fun _ => fun
  | [d1, d2, d3, d4, d5] => { results := [.lit (.bool true)], args := [d1, d2, d3, d4, d5] }
  | _ => none }
def ribCandidatesRow : OpenClaim := { program := "ytgjpnkkokelakaa", sum := "466cd66aa25ea7a7e2fd92212175290b734727be6cb7e96ae95dd93b49edb1f7", func := "waymark/waymarklaw20.RibCandidates", spec := "ribCandidates", unfollowed := true, recurses := true, plainKeys := false, apart := false }
def RibCandidatesSaid : Prop := ribCandidatesRow.holds Try.pinned (OpenSpec.ofChange ribCandidatesSpec)

/-- ITS FALSE NEIGHBOUR: 'it returns false'. Refute it at one input. -/
def ribCandidatesWrong : ChangeSpec := { name := "ribCandidates", fn := fun _ => fun
  | [d1, d2, d3, d4, d5] => { results := [.lit (.bool false)], args := [d1, d2, d3, d4, d5] }
  | _ => none }
def RibCandidatesWrongFalsely : Prop := ribCandidatesRow.holds Try.pinned (OpenSpec.ofChange ribCandidatesWrong)

/- THE SECOND FORM. 'bulk': how many values and letters a reading holds, each counted each time it is reached (what is shared counts as often as it is met; a slice's spare places count too). A statement '..UptoSaid' is the law's where the arguments, and the package variables that the reading takes, are together of bulk at most 1048576: NARROWER than '..Said'. Prove '..Said' where nothing that the law and all that it calls make is longer than what came in: it says more and counts as full. Else prove '..UptoSaid'. A law counts once. -/
mutual
def uptoBulk {H : Type} : DataW H → Nat
  | .lit (.string bytes) => bytes.length + 1
  | .lit _ => 1
  | .nil => 1
  | .ptr d => uptoBulk d + 1
  | .slice elems spare => uptoBulkAll elems + uptoBulkAll spare + 1
  | .agg parts => uptoBulkAll parts + 1
  | .iface _ d => uptoBulk d + 1
  | .map entries => uptoBulkEntries entries + 1
  | .held _ => 1
def uptoBulkAll {H : Type} : List (DataW H) → Nat
  | [] => 0
  | d :: r => uptoBulk d + uptoBulkAll r
def uptoBulkEntries {H : Type} : List (Lit × DataW H) → Nat
  | [] => 0
  | x :: r => uptoBulkEntry x + uptoBulkEntries r
def uptoBulkEntry {H : Type} : Lit × DataW H → Nat
  | (.string bytes, d) => bytes.length + uptoBulk d + 1
  | (_, d) => uptoBulk d + 1
 end
def uptoSmall : (H : Type) → List (DataW H) → Bool := fun _ ds => decide (uptoBulkAll ds ≤ 1048576)
def OpenSpec.upto (s : _root_.Go.ChangeSpec) : _root_.Go.OpenSpec := { _root_.Go.OpenSpec.ofChange s with cond := some uptoSmall }

/-- 'waymarklaw19.BgpChooses', WHERE WHAT IT READS IS OF BULK AT MOST 1048576: true; the input reads as it did. -/
def bgpChoosesUptoRow : OpenClaim := { program := "ytgjpnkkokelakaa", sum := "466cd66aa25ea7a7e2fd92212175290b734727be6cb7e96ae95dd93b49edb1f7", func := "waymark/waymarklaw19.BgpChooses", spec := "bgpChooses", unfollowed := true, recurses := true, plainKeys := false, apart := false, narrowed := true }
def BgpChoosesUptoSaid : Prop := bgpChoosesUptoRow.holds Try.pinned (OpenSpec.upto bgpChoosesSpec)

/-- 'waymarklaw20.RibTakes', WHERE WHAT IT READS IS OF BULK AT MOST 1048576: true; the input reads as it did. -/
def ribTakesUptoRow : OpenClaim := { program := "ytgjpnkkokelakaa", sum := "466cd66aa25ea7a7e2fd92212175290b734727be6cb7e96ae95dd93b49edb1f7", func := "waymark/waymarklaw20.RibTakes", spec := "ribTakes", unfollowed := true, recurses := true, plainKeys := false, apart := false, narrowed := true }
def RibTakesUptoSaid : Prop := ribTakesUptoRow.holds Try.pinned (OpenSpec.upto ribTakesSpec)

/-- 'waymarklaw20.RibBest', WHERE WHAT IT READS IS OF BULK AT MOST 1048576: true; the input reads as it did. -/
def ribBestUptoRow : OpenClaim := { program := "ytgjpnkkokelakaa", sum := "466cd66aa25ea7a7e2fd92212175290b734727be6cb7e96ae95dd93b49edb1f7", func := "waymark/waymarklaw20.RibBest", spec := "ribBest", unfollowed := true, recurses := true, plainKeys := false, apart := false, narrowed := true }
def RibBestUptoSaid : Prop := ribBestUptoRow.holds Try.pinned (OpenSpec.upto ribBestSpec)

/-- 'waymarklaw20.RibLooked', WHERE WHAT IT READS IS OF BULK AT MOST 1048576: true; the input reads as it did. -/
def ribLookedUptoRow : OpenClaim := { program := "ytgjpnkkokelakaa", sum := "466cd66aa25ea7a7e2fd92212175290b734727be6cb7e96ae95dd93b49edb1f7", func := "waymark/waymarklaw20.RibLooked", spec := "ribLooked", unfollowed := true, recurses := true, plainKeys := false, apart := false, narrowed := true }
def RibLookedUptoSaid : Prop := ribLookedUptoRow.holds Try.pinned (OpenSpec.upto ribLookedSpec)

/-- 'waymarklaw16.PolicyNothing', WHERE WHAT IT READS IS OF BULK AT MOST 1048576: true; the input reads as it did. -/
def policyNothingUptoRow : OpenClaim := { program := "ytgjpnkkokelakaa", sum := "466cd66aa25ea7a7e2fd92212175290b734727be6cb7e96ae95dd93b49edb1f7", func := "waymark/waymarklaw16.PolicyNothing", spec := "policyNothing", unfollowed := true, recurses := true, plainKeys := false, apart := false, narrowed := true }
def PolicyNothingUptoSaid : Prop := policyNothingUptoRow.holds Try.pinned (OpenSpec.upto policyNothingSpec)

/-- 'waymarklaw16.PolicyClauses', WHERE WHAT IT READS IS OF BULK AT MOST 1048576: true; the input reads as it did. -/
def policyClausesUptoRow : OpenClaim := { program := "ytgjpnkkokelakaa", sum := "466cd66aa25ea7a7e2fd92212175290b734727be6cb7e96ae95dd93b49edb1f7", func := "waymark/waymarklaw16.PolicyClauses", spec := "policyClauses", unfollowed := true, recurses := true, plainKeys := false, apart := false, narrowed := true }
def PolicyClausesUptoSaid : Prop := policyClausesUptoRow.holds Try.pinned (OpenSpec.upto policyClausesSpec)

/-- 'waymarklaw16.PolicyNames', WHERE WHAT IT READS IS OF BULK AT MOST 1048576: true; the input reads as it did. -/
def policyNamesUptoRow : OpenClaim := { program := "ytgjpnkkokelakaa", sum := "466cd66aa25ea7a7e2fd92212175290b734727be6cb7e96ae95dd93b49edb1f7", func := "waymark/waymarklaw16.PolicyNames", spec := "policyNames", unfollowed := true, recurses := true, plainKeys := false, apart := false, narrowed := true }
def PolicyNamesUptoSaid : Prop := policyNamesUptoRow.holds Try.pinned (OpenSpec.upto policyNamesSpec)

/-- 'waymarklaw20.RibCandidates', WHERE WHAT IT READS IS OF BULK AT MOST 1048576: true; the input reads as it did. -/
def ribCandidatesUptoRow : OpenClaim := { program := "ytgjpnkkokelakaa", sum := "466cd66aa25ea7a7e2fd92212175290b734727be6cb7e96ae95dd93b49edb1f7", func := "waymark/waymarklaw20.RibCandidates", spec := "ribCandidates", unfollowed := true, recurses := true, plainKeys := false, apart := false, narrowed := true }
def RibCandidatesUptoSaid : Prop := ribCandidatesUptoRow.holds Try.pinned (OpenSpec.upto ribCandidatesSpec)

end Rows
end Go.Proofs.Ytgjpnkkokelakaa
