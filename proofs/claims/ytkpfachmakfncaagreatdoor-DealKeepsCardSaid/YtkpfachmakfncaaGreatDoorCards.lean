/-
  DERIVED. GIVEN WITH THE SEED: THE CARDS: each row of YtkpfachmakfncaaGreatDoorRows.lean that lists a variable, with what it lists TIED to the program's text (the seventh form; the later family's looks); each row that meets fmt, with fmt's text TOLD by the authors' own Lean function (tested against real Go, not proved from fmt's source: count such statements apart). THE CARD IS WHAT COUNTS. Prove the row's statement (the work); the ties are given (YtkpfachmakfncaaGreatDoorTie.lean); close each card by the builder's one call (the guide's Derived/Test/ToyasCard.lean, 'card_holds'). Laid BY PROGRAM, IN A SANDBOX (cutbox-door.mjs). By AI agents, Wed Nov 11 2026. No macro, syntax, notation, axiom, sorry.
-/
import Derived.Test.YtkpfachmakfncaaGreatDoorRows
import GoSem.ClaimSeven
namespace Go.Proofs.YtkpfachmakfncaaGreatDoor
namespace Rows

/-- THE TIED CARD OF 'sorteslaw07.DealTexts'. -/
def dealTextsCard : Claim7 := { stood := { row := dealTextsRow, standIns := [], harness := (true, "49a90e57ea43b5f42d9f07db7bac2b518bf9af1613d402fce428ddd0e9ac005d"), looks := true }, kinds := [], alts := [], laidByText := true, laidKinds := [.data, .data, .data, .data, .sentinel, .sentinel, .data, .data, .pinned], laidTests := true, laidLooks := .later }
def DealTextsCardSaid : Prop := Claim7.holds Tryz.pinned (.plain (OpenSpec.ofChange dealTextsSpec)) dealTextsCard

/-- THE TIED CARD OF 'sorteslaw07.DealKeeps'. -/
def dealKeepsCard : Claim7 := { stood := { row := dealKeepsRow, standIns := [], harness := (true, "49a90e57ea43b5f42d9f07db7bac2b518bf9af1613d402fce428ddd0e9ac005d"), looks := true }, kinds := [], alts := [], laidByText := true, laidKinds := [.data, .data, .data, .data, .sentinel, .sentinel, .data, .data, .pinned], laidTests := true, laidLooks := .later }
def DealKeepsCardSaid : Prop := Claim7.holds Tryz.pinned (.plain (OpenSpec.ofChange dealKeepsSpec)) dealKeepsCard

/-- THE SECOND FORM's CARD OF 'sorteslaw07.DealTexts'. -/
def dealTextsUptoCard : Claim7 := { stood := { row := dealTextsUptoRow, standIns := [], harness := (true, "49a90e57ea43b5f42d9f07db7bac2b518bf9af1613d402fce428ddd0e9ac005d"), looks := true }, kinds := [], alts := [], laidByText := true, laidKinds := [.data, .data, .data, .data, .sentinel, .sentinel, .data, .data, .pinned], laidTests := true, laidLooks := .later }
def DealTextsUptoCardSaid : Prop := Claim7.holds Tryz.pinned (.plain (OpenSpec.upto dealTextsSpec)) dealTextsUptoCard

/-- THE SECOND FORM's CARD OF 'sorteslaw07.DealKeeps'. -/
def dealKeepsUptoCard : Claim7 := { stood := { row := dealKeepsUptoRow, standIns := [], harness := (true, "49a90e57ea43b5f42d9f07db7bac2b518bf9af1613d402fce428ddd0e9ac005d"), looks := true }, kinds := [], alts := [], laidByText := true, laidKinds := [.data, .data, .data, .data, .sentinel, .sentinel, .data, .data, .pinned], laidTests := true, laidLooks := .later }
def DealKeepsUptoCardSaid : Prop := Claim7.holds Tryz.pinned (.plain (OpenSpec.upto dealKeepsSpec)) dealKeepsUptoCard
end Rows
end Go.Proofs.YtkpfachmakfncaaGreatDoor
