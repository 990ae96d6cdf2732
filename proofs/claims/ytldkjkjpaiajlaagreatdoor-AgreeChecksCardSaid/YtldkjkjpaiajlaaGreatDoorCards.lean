/-
  DERIVED. GIVEN WITH THE SEED: THE CARDS: each row of YtldkjkjpaiajlaaGreatDoorRows.lean that lists a variable, with what it lists TIED to the program's text (the seventh form; the later family's looks); each row that meets fmt, with fmt's text TOLD by the authors' own Lean function (tested against real Go, not proved from fmt's source: count such statements apart). THE CARD IS WHAT COUNTS. Prove the row's statement (the work); the ties are given (YtldkjkjpaiajlaaGreatDoorTie.lean); close each card by the builder's one call (the guide's Derived/Test/ToyasCard.lean, 'card_holds'). Laid BY PROGRAM, IN A SANDBOX (cutbox-door.mjs). By AI agents, Wed Nov 11 2026. No macro, syntax, notation, axiom, sorry.
-/
import Derived.Test.YtldkjkjpaiajlaaGreatDoorRows
import GoSem.ClaimSeven
namespace Go.Proofs.YtldkjkjpaiajlaaGreatDoor
namespace Rows

/-- THE TIED CARD OF 'sorteslaw29.AgreeChecks'. -/
def agreeChecksCard : Claim7 := { stood := { row := agreeChecksRow, standIns := [], harness := (true, "57565866f855ea03ef454141c4a362533906641a02cb5ff9ff0896e20259d46d"), looks := true }, kinds := [], alts := [], laidByText := true, laidKinds := [.data, .data, .data, .data, .sentinel, .sentinel, .data, .data, .pinned], laidTests := true, laidLooks := .later }
def AgreeChecksCardSaid : Prop := Claim7.holds Tryz.pinned (.plain (OpenSpec.ofChange agreeChecksSpec)) agreeChecksCard

/-- THE TIED CARD OF 'sorteslaw29.AgreeReturns'. -/
def agreeReturnsCard : Claim7 := { stood := { row := agreeReturnsRow, standIns := [], harness := (true, "57565866f855ea03ef454141c4a362533906641a02cb5ff9ff0896e20259d46d"), looks := true }, kinds := [], alts := [], laidByText := true, laidKinds := [.data, .data, .data, .data, .sentinel, .sentinel, .data, .data, .pinned], laidTests := true, laidLooks := .later }
def AgreeReturnsCardSaid : Prop := Claim7.holds Tryz.pinned (.plain (OpenSpec.ofChange agreeReturnsSpec)) agreeReturnsCard

/-- THE TIED CARD OF 'sorteslaw29.AgreeLives'. -/
def agreeLivesCard : Claim7 := { stood := { row := agreeLivesRow, standIns := [], harness := (true, "57565866f855ea03ef454141c4a362533906641a02cb5ff9ff0896e20259d46d"), looks := true }, kinds := [], alts := [], laidByText := true, laidKinds := [.data, .data, .data, .data, .sentinel, .sentinel, .data, .data, .pinned], laidTests := true, laidLooks := .later }
def AgreeLivesCardSaid : Prop := Claim7.holds Tryz.pinned (.plain (OpenSpec.ofChange agreeLivesSpec)) agreeLivesCard

/-- THE SECOND FORM's CARD OF 'sorteslaw29.AgreeChecks'. -/
def agreeChecksUptoCard : Claim7 := { stood := { row := agreeChecksUptoRow, standIns := [], harness := (true, "57565866f855ea03ef454141c4a362533906641a02cb5ff9ff0896e20259d46d"), looks := true }, kinds := [], alts := [], laidByText := true, laidKinds := [.data, .data, .data, .data, .sentinel, .sentinel, .data, .data, .pinned], laidTests := true, laidLooks := .later }
def AgreeChecksUptoCardSaid : Prop := Claim7.holds Tryz.pinned (.plain (OpenSpec.upto agreeChecksSpec)) agreeChecksUptoCard

/-- THE SECOND FORM's CARD OF 'sorteslaw29.AgreeReturns'. -/
def agreeReturnsUptoCard : Claim7 := { stood := { row := agreeReturnsUptoRow, standIns := [], harness := (true, "57565866f855ea03ef454141c4a362533906641a02cb5ff9ff0896e20259d46d"), looks := true }, kinds := [], alts := [], laidByText := true, laidKinds := [.data, .data, .data, .data, .sentinel, .sentinel, .data, .data, .pinned], laidTests := true, laidLooks := .later }
def AgreeReturnsUptoCardSaid : Prop := Claim7.holds Tryz.pinned (.plain (OpenSpec.upto agreeReturnsSpec)) agreeReturnsUptoCard

/-- THE SECOND FORM's CARD OF 'sorteslaw29.AgreeLives'. -/
def agreeLivesUptoCard : Claim7 := { stood := { row := agreeLivesUptoRow, standIns := [], harness := (true, "57565866f855ea03ef454141c4a362533906641a02cb5ff9ff0896e20259d46d"), looks := true }, kinds := [], alts := [], laidByText := true, laidKinds := [.data, .data, .data, .data, .sentinel, .sentinel, .data, .data, .pinned], laidTests := true, laidLooks := .later }
def AgreeLivesUptoCardSaid : Prop := Claim7.holds Tryz.pinned (.plain (OpenSpec.upto agreeLivesSpec)) agreeLivesUptoCard
end Rows
end Go.Proofs.YtldkjkjpaiajlaaGreatDoor
