/-
  DERIVED. GIVEN WITH THE SEED: THE CARDS: each row of YtlhfgbkonmgahaaDoorRows.lean that lists a variable, with what it lists TIED to the program's text (the seventh form; the later family's looks); each row that meets fmt, with fmt's text TOLD by the authors' own Lean function (tested against real Go, not proved from fmt's source: count such statements apart). THE CARD IS WHAT COUNTS. Prove the row's statement (the work); the ties are given (YtlhfgbkonmgahaaDoorTie.lean); close each card by the builder's one call (the guide's Derived/Test/ToyasCard.lean, 'card_holds'). Laid BY PROGRAM, IN A SANDBOX (cutbox-door.mjs). By AI agents, Wed Nov 11 2026. No macro, syntax, notation, axiom, sorry.
-/
import Derived.Test.YtlhfgbkonmgahaaDoorRows
import GoSem.ClaimSeven
namespace Go.Proofs.YtlhfgbkonmgahaaDoor
namespace Rows

/-- THE TIED CARD OF 'sorteslaw09.BeaconFew'. -/
def beaconFewCard : Claim7 := { stood := { row := beaconFewRow, standIns := [], harness := (true, "d71e253c4e1120297bd771ab7e6096a949cdfdd0a18e2e14dcb6c6d51da3d6de"), looks := false }, kinds := [], alts := [], laidByText := true, laidKinds := [.data, .data, .data, .data, .data], laidTests := true, laidLooks := .later }
def BeaconFewCardSaid : Prop := Claim7.holds Tryd.pinned (.plain (OpenSpec.ofChange beaconFewSpec)) beaconFewCard

/-- THE SECOND FORM's CARD OF 'sorteslaw09.BeaconFew'. -/
def beaconFewUptoCard : Claim7 := { stood := { row := beaconFewUptoRow, standIns := [], harness := (true, "d71e253c4e1120297bd771ab7e6096a949cdfdd0a18e2e14dcb6c6d51da3d6de"), looks := false }, kinds := [], alts := [], laidByText := true, laidKinds := [.data, .data, .data, .data, .data], laidTests := true, laidLooks := .later }
def BeaconFewUptoCardSaid : Prop := Claim7.holds Tryd.pinned (.plain (OpenSpec.upto beaconFewSpec)) beaconFewUptoCard
end Rows
end Go.Proofs.YtlhfgbkonmgahaaDoor
