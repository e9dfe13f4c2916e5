/-
  DERIVED. GIVEN WITH THE SEED: THE CARDS: each row of YtcpghfnfjdhkbaaGreatDoorRows.lean that lists a variable, with what it lists TIED to the program's text (the seventh form; the later family's looks); each row that meets fmt, with fmt's text TOLD by the authors' own Lean function (tested against real Go, not proved from fmt's source: count such statements apart). THE CARD IS WHAT COUNTS. Prove the row's statement (the work); the ties are given (YtcpghfnfjdhkbaaGreatDoorTie.lean); close each card by the builder's one call (the guide's Derived/Test/ToyasCard.lean, 'card_holds'). Laid BY PROGRAM, IN A SANDBOX (cutbox-door.mjs). By AI agents, Wed Nov 11 2026. No macro, syntax, notation, axiom, sorry.
-/
import Derived.Test.YtcpghfnfjdhkbaaGreatDoorRows
import GoSem.ClaimSeven
namespace Go.Proofs.YtcpghfnfjdhkbaaGreatDoor
namespace Rows

/-- THE TIED CARD OF 'waymarklaw19.BgpOrder'. -/
def bgpOrderCard : Claim7 := { stood := { row := bgpOrderRow, standIns := [], harness := (true, "a274d2f75ba12674d7d568a3e0ecd4fcf8769234f69c7438ac6c750061f0a3dd"), looks := false }, kinds := [], alts := [], laidByText := true, laidKinds := [.data, .data, .data, .data], laidTests := true, laidLooks := .later }
def BgpOrderCardSaid : Prop := Claim7.holds Tryz.pinned (.plain (OpenSpec.ofChange bgpOrderSpec)) bgpOrderCard

/-- THE TIED CARD OF 'waymarklaw19.BgpBest'. -/
def bgpBestCard : Claim7 := { stood := { row := bgpBestRow, standIns := [], harness := (true, "a274d2f75ba12674d7d568a3e0ecd4fcf8769234f69c7438ac6c750061f0a3dd"), looks := false }, kinds := [], alts := [], laidByText := true, laidKinds := [.data, .data, .data, .data], laidTests := true, laidLooks := .later }
def BgpBestCardSaid : Prop := Claim7.holds Tryz.pinned (.plain (OpenSpec.ofChange bgpBestSpec)) bgpBestCard

/-- THE TIED CARD OF 'waymarklaw18.SpfNames'. -/
def spfNamesCard : Claim7 := { stood := { row := spfNamesRow, standIns := [], harness := (true, "a274d2f75ba12674d7d568a3e0ecd4fcf8769234f69c7438ac6c750061f0a3dd"), looks := false }, kinds := [], alts := [], laidByText := true, laidKinds := [.data, .data, .data], laidTests := true, laidLooks := .later }
def SpfNamesCardSaid : Prop := Claim7.holds Tryz.pinned (.plain (OpenSpec.ofChange spfNamesSpec)) spfNamesCard

/-- THE SECOND FORM's CARD OF 'waymarklaw19.BgpOrder'. -/
def bgpOrderUptoCard : Claim7 := { stood := { row := bgpOrderUptoRow, standIns := [], harness := (true, "a274d2f75ba12674d7d568a3e0ecd4fcf8769234f69c7438ac6c750061f0a3dd"), looks := false }, kinds := [], alts := [], laidByText := true, laidKinds := [.data, .data, .data, .data], laidTests := true, laidLooks := .later }
def BgpOrderUptoCardSaid : Prop := Claim7.holds Tryz.pinned (.plain (OpenSpec.upto bgpOrderSpec)) bgpOrderUptoCard

/-- THE SECOND FORM's CARD OF 'waymarklaw19.BgpBest'. -/
def bgpBestUptoCard : Claim7 := { stood := { row := bgpBestUptoRow, standIns := [], harness := (true, "a274d2f75ba12674d7d568a3e0ecd4fcf8769234f69c7438ac6c750061f0a3dd"), looks := false }, kinds := [], alts := [], laidByText := true, laidKinds := [.data, .data, .data, .data], laidTests := true, laidLooks := .later }
def BgpBestUptoCardSaid : Prop := Claim7.holds Tryz.pinned (.plain (OpenSpec.upto bgpBestSpec)) bgpBestUptoCard

/-- THE SECOND FORM's CARD OF 'waymarklaw18.SpfNames'. -/
def spfNamesUptoCard : Claim7 := { stood := { row := spfNamesUptoRow, standIns := [], harness := (true, "a274d2f75ba12674d7d568a3e0ecd4fcf8769234f69c7438ac6c750061f0a3dd"), looks := false }, kinds := [], alts := [], laidByText := true, laidKinds := [.data, .data, .data], laidTests := true, laidLooks := .later }
def SpfNamesUptoCardSaid : Prop := Claim7.holds Tryz.pinned (.plain (OpenSpec.upto spfNamesSpec)) spfNamesUptoCard
end Rows
end Go.Proofs.YtcpghfnfjdhkbaaGreatDoor
