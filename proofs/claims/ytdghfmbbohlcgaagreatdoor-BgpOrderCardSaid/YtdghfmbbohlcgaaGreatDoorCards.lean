/-
  DERIVED. GIVEN WITH THE SEED: THE CARDS: each row of YtdghfmbbohlcgaaGreatDoorRows.lean that lists a variable, with what it lists TIED to the program's text (the seventh form; the later family's looks); each row that meets fmt, with fmt's text TOLD by the authors' own Lean function (tested against real Go, not proved from fmt's source: count such statements apart). THE CARD IS WHAT COUNTS. Prove the row's statement (the work); the ties are given (YtdghfmbbohlcgaaGreatDoorTie.lean); close each card by the builder's one call (the guide's Derived/Test/ToyasCard.lean, 'card_holds'). Laid BY PROGRAM, IN A SANDBOX (cutbox-door.mjs). By AI agents, Wed Nov 11 2026. No macro, syntax, notation, axiom, sorry.
-/
import Derived.Test.YtdghfmbbohlcgaaGreatDoorRows
import GoSem.ClaimSeven
namespace Go.Proofs.YtdghfmbbohlcgaaGreatDoor
namespace Rows

/-- THE TIED CARD OF 'waymarklaw19.BgpOrder'. -/
def bgpOrderCard : Claim7 := { stood := { row := bgpOrderRow, standIns := [], harness := (true, "3536826ac9e827853b7fb2f03d5d83b0ab1cb062feaaca84bdcf5ce4d199450e"), looks := false }, kinds := [], alts := [], laidByText := true, laidKinds := [.data, .data, .data, .data], laidTests := true, laidLooks := .later }
def BgpOrderCardSaid : Prop := Claim7.holds Tryz.pinned (.plain (OpenSpec.ofChange bgpOrderSpec)) bgpOrderCard

/-- THE TIED CARD OF 'waymarklaw19.BgpBest'. -/
def bgpBestCard : Claim7 := { stood := { row := bgpBestRow, standIns := [], harness := (true, "3536826ac9e827853b7fb2f03d5d83b0ab1cb062feaaca84bdcf5ce4d199450e"), looks := false }, kinds := [], alts := [], laidByText := true, laidKinds := [.data, .data, .data, .data], laidTests := true, laidLooks := .later }
def BgpBestCardSaid : Prop := Claim7.holds Tryz.pinned (.plain (OpenSpec.ofChange bgpBestSpec)) bgpBestCard

/-- THE TIED CARD OF 'waymarklaw19.BgpCircles'. -/
def bgpCirclesCard : Claim7 := { stood := { row := bgpCirclesRow, standIns := [], harness := (true, "3536826ac9e827853b7fb2f03d5d83b0ab1cb062feaaca84bdcf5ce4d199450e"), looks := false }, kinds := [], alts := [], laidByText := true, laidKinds := [.data, .data, .data, .data], laidTests := true, laidLooks := .later }
def BgpCirclesCardSaid : Prop := Claim7.holds Tryz.pinned (.plain (OpenSpec.ofChange bgpCirclesSpec)) bgpCirclesCard

/-- THE TIED CARD OF 'waymarklaw19.BgpRest'. -/
def bgpRestCard : Claim7 := { stood := { row := bgpRestRow, standIns := [], harness := (true, "3536826ac9e827853b7fb2f03d5d83b0ab1cb062feaaca84bdcf5ce4d199450e"), looks := false }, kinds := [], alts := [], laidByText := true, laidKinds := [.data, .data, .data, .data], laidTests := true, laidLooks := .later }
def BgpRestCardSaid : Prop := Claim7.holds Tryz.pinned (.plain (OpenSpec.ofChange bgpRestSpec)) bgpRestCard

/-- THE SECOND FORM's CARD OF 'waymarklaw19.BgpOrder'. -/
def bgpOrderUptoCard : Claim7 := { stood := { row := bgpOrderUptoRow, standIns := [], harness := (true, "3536826ac9e827853b7fb2f03d5d83b0ab1cb062feaaca84bdcf5ce4d199450e"), looks := false }, kinds := [], alts := [], laidByText := true, laidKinds := [.data, .data, .data, .data], laidTests := true, laidLooks := .later }
def BgpOrderUptoCardSaid : Prop := Claim7.holds Tryz.pinned (.plain (OpenSpec.upto bgpOrderSpec)) bgpOrderUptoCard

/-- THE SECOND FORM's CARD OF 'waymarklaw19.BgpBest'. -/
def bgpBestUptoCard : Claim7 := { stood := { row := bgpBestUptoRow, standIns := [], harness := (true, "3536826ac9e827853b7fb2f03d5d83b0ab1cb062feaaca84bdcf5ce4d199450e"), looks := false }, kinds := [], alts := [], laidByText := true, laidKinds := [.data, .data, .data, .data], laidTests := true, laidLooks := .later }
def BgpBestUptoCardSaid : Prop := Claim7.holds Tryz.pinned (.plain (OpenSpec.upto bgpBestSpec)) bgpBestUptoCard

/-- THE SECOND FORM's CARD OF 'waymarklaw19.BgpCircles'. -/
def bgpCirclesUptoCard : Claim7 := { stood := { row := bgpCirclesUptoRow, standIns := [], harness := (true, "3536826ac9e827853b7fb2f03d5d83b0ab1cb062feaaca84bdcf5ce4d199450e"), looks := false }, kinds := [], alts := [], laidByText := true, laidKinds := [.data, .data, .data, .data], laidTests := true, laidLooks := .later }
def BgpCirclesUptoCardSaid : Prop := Claim7.holds Tryz.pinned (.plain (OpenSpec.upto bgpCirclesSpec)) bgpCirclesUptoCard

/-- THE SECOND FORM's CARD OF 'waymarklaw19.BgpRest'. -/
def bgpRestUptoCard : Claim7 := { stood := { row := bgpRestUptoRow, standIns := [], harness := (true, "3536826ac9e827853b7fb2f03d5d83b0ab1cb062feaaca84bdcf5ce4d199450e"), looks := false }, kinds := [], alts := [], laidByText := true, laidKinds := [.data, .data, .data, .data], laidTests := true, laidLooks := .later }
def BgpRestUptoCardSaid : Prop := Claim7.holds Tryz.pinned (.plain (OpenSpec.upto bgpRestSpec)) bgpRestUptoCard
end Rows
end Go.Proofs.YtdghfmbbohlcgaaGreatDoor
