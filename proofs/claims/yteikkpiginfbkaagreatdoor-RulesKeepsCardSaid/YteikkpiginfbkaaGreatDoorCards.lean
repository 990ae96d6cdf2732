/-
  DERIVED. GIVEN WITH THE SEED: THE CARDS: each row of YteikkpiginfbkaaGreatDoorRows.lean that lists a variable, with what it lists TIED to the program's text (the seventh form; the later family's looks); each row that meets fmt, with fmt's text TOLD by the authors' own Lean function (tested against real Go, not proved from fmt's source: count such statements apart). THE CARD IS WHAT COUNTS. Prove the row's statement (the work); the ties are given (YteikkpiginfbkaaGreatDoorTie.lean); close each card by the builder's one call (the guide's Derived/Test/ToyasCard.lean, 'card_holds'). Laid BY PROGRAM, IN A SANDBOX (cutbox-door.mjs). By AI agents, Wed Nov 11 2026. No macro, syntax, notation, axiom, sorry.
-/
import Derived.Test.YteikkpiginfbkaaGreatDoorRows
import GoSem.ClaimSeven
namespace Go.Proofs.YteikkpiginfbkaaGreatDoor
namespace Rows

/-- THE TIED CARD OF 'sorteslaw13.RulesBegins'. -/
def rulesBeginsCard : Claim7 := { stood := { row := rulesBeginsRow, standIns := [], harness := (true, "914ca9462c6f3573e5c4acadf61dd7ea32acd9b90b8816a772cff430954bdb5e"), looks := true }, kinds := [], alts := [], laidByText := true, laidKinds := [.data, .data, .data, .data, .pinned], laidTests := true, laidLooks := .later }
def RulesBeginsCardSaid : Prop := Claim7.holds Tryz.pinned (.plain (OpenSpec.ofChange rulesBeginsSpec)) rulesBeginsCard

/-- THE TIED CARD OF 'sorteslaw13.RulesKeeps'. -/
def rulesKeepsCard : Claim7 := { stood := { row := rulesKeepsRow, standIns := [], harness := (true, "914ca9462c6f3573e5c4acadf61dd7ea32acd9b90b8816a772cff430954bdb5e"), looks := true }, kinds := [], alts := [], laidByText := true, laidKinds := [.data, .data, .data, .data, .pinned], laidTests := true, laidLooks := .later }
def RulesKeepsCardSaid : Prop := Claim7.holds Tryz.pinned (.plain (OpenSpec.ofChange rulesKeepsSpec)) rulesKeepsCard

/-- THE TIED CARD OF 'sorteslaw13.RulesPrints'. -/
def rulesPrintsCard : Claim7 := { stood := { row := rulesPrintsRow, standIns := [], harness := (true, "914ca9462c6f3573e5c4acadf61dd7ea32acd9b90b8816a772cff430954bdb5e"), looks := true }, kinds := [], alts := [], laidByText := true, laidKinds := [.data, .data, .data, .data, .pinned], laidTests := true, laidLooks := .later }
def RulesPrintsCardSaid : Prop := Claim7.holds Tryz.pinned (.plain (OpenSpec.ofChange rulesPrintsSpec)) rulesPrintsCard

/-- THE TIED CARD OF 'sorteslaw13.RulesTexts'. -/
def rulesTextsCard : Claim7 := { stood := { row := rulesTextsRow, standIns := [], harness := (true, "914ca9462c6f3573e5c4acadf61dd7ea32acd9b90b8816a772cff430954bdb5e"), looks := true }, kinds := [], alts := [], laidByText := true, laidKinds := [.data, .data, .data, .data, .pinned], laidTests := true, laidLooks := .later }
def RulesTextsCardSaid : Prop := Claim7.holds Tryz.pinned (.plain (OpenSpec.ofChange rulesTextsSpec)) rulesTextsCard

/-- THE TIED CARD OF 'sorteslaw13.RulesRaw'. -/
def rulesRawCard : Claim7 := { stood := { row := rulesRawRow, standIns := [], harness := (true, "914ca9462c6f3573e5c4acadf61dd7ea32acd9b90b8816a772cff430954bdb5e"), looks := true }, kinds := [], alts := [], laidByText := true, laidKinds := [.data, .data, .data, .data, .pinned], laidTests := true, laidLooks := .later }
def RulesRawCardSaid : Prop := Claim7.holds Tryz.pinned (.plain (OpenSpec.ofChange rulesRawSpec)) rulesRawCard

/-- THE TIED CARD OF 'sorteslaw13.RulesEqual'. -/
def rulesEqualCard : Claim7 := { stood := { row := rulesEqualRow, standIns := [], harness := (true, "914ca9462c6f3573e5c4acadf61dd7ea32acd9b90b8816a772cff430954bdb5e"), looks := true }, kinds := [], alts := [], laidByText := true, laidKinds := [.data, .data, .data, .data, .pinned], laidTests := true, laidLooks := .later }
def RulesEqualCardSaid : Prop := Claim7.holds Tryz.pinned (.plain (OpenSpec.ofChange rulesEqualSpec)) rulesEqualCard

/-- THE TIED CARD OF 'sorteslaw13.RulesLimits'. -/
def rulesLimitsCard : Claim7 := { stood := { row := rulesLimitsRow, standIns := [], harness := (true, "914ca9462c6f3573e5c4acadf61dd7ea32acd9b90b8816a772cff430954bdb5e"), looks := true }, kinds := [], alts := [], laidByText := true, laidKinds := [.data, .data, .data, .data, .pinned], laidTests := true, laidLooks := .later }
def RulesLimitsCardSaid : Prop := Claim7.holds Tryz.pinned (.plain (OpenSpec.ofChange rulesLimitsSpec)) rulesLimitsCard

/-- THE SECOND FORM's CARD OF 'sorteslaw13.RulesBegins'. -/
def rulesBeginsUptoCard : Claim7 := { stood := { row := rulesBeginsUptoRow, standIns := [], harness := (true, "914ca9462c6f3573e5c4acadf61dd7ea32acd9b90b8816a772cff430954bdb5e"), looks := true }, kinds := [], alts := [], laidByText := true, laidKinds := [.data, .data, .data, .data, .pinned], laidTests := true, laidLooks := .later }
def RulesBeginsUptoCardSaid : Prop := Claim7.holds Tryz.pinned (.plain (OpenSpec.upto rulesBeginsSpec)) rulesBeginsUptoCard

/-- THE SECOND FORM's CARD OF 'sorteslaw13.RulesKeeps'. -/
def rulesKeepsUptoCard : Claim7 := { stood := { row := rulesKeepsUptoRow, standIns := [], harness := (true, "914ca9462c6f3573e5c4acadf61dd7ea32acd9b90b8816a772cff430954bdb5e"), looks := true }, kinds := [], alts := [], laidByText := true, laidKinds := [.data, .data, .data, .data, .pinned], laidTests := true, laidLooks := .later }
def RulesKeepsUptoCardSaid : Prop := Claim7.holds Tryz.pinned (.plain (OpenSpec.upto rulesKeepsSpec)) rulesKeepsUptoCard

/-- THE SECOND FORM's CARD OF 'sorteslaw13.RulesPrints'. -/
def rulesPrintsUptoCard : Claim7 := { stood := { row := rulesPrintsUptoRow, standIns := [], harness := (true, "914ca9462c6f3573e5c4acadf61dd7ea32acd9b90b8816a772cff430954bdb5e"), looks := true }, kinds := [], alts := [], laidByText := true, laidKinds := [.data, .data, .data, .data, .pinned], laidTests := true, laidLooks := .later }
def RulesPrintsUptoCardSaid : Prop := Claim7.holds Tryz.pinned (.plain (OpenSpec.upto rulesPrintsSpec)) rulesPrintsUptoCard

/-- THE SECOND FORM's CARD OF 'sorteslaw13.RulesTexts'. -/
def rulesTextsUptoCard : Claim7 := { stood := { row := rulesTextsUptoRow, standIns := [], harness := (true, "914ca9462c6f3573e5c4acadf61dd7ea32acd9b90b8816a772cff430954bdb5e"), looks := true }, kinds := [], alts := [], laidByText := true, laidKinds := [.data, .data, .data, .data, .pinned], laidTests := true, laidLooks := .later }
def RulesTextsUptoCardSaid : Prop := Claim7.holds Tryz.pinned (.plain (OpenSpec.upto rulesTextsSpec)) rulesTextsUptoCard

/-- THE SECOND FORM's CARD OF 'sorteslaw13.RulesRaw'. -/
def rulesRawUptoCard : Claim7 := { stood := { row := rulesRawUptoRow, standIns := [], harness := (true, "914ca9462c6f3573e5c4acadf61dd7ea32acd9b90b8816a772cff430954bdb5e"), looks := true }, kinds := [], alts := [], laidByText := true, laidKinds := [.data, .data, .data, .data, .pinned], laidTests := true, laidLooks := .later }
def RulesRawUptoCardSaid : Prop := Claim7.holds Tryz.pinned (.plain (OpenSpec.upto rulesRawSpec)) rulesRawUptoCard

/-- THE SECOND FORM's CARD OF 'sorteslaw13.RulesEqual'. -/
def rulesEqualUptoCard : Claim7 := { stood := { row := rulesEqualUptoRow, standIns := [], harness := (true, "914ca9462c6f3573e5c4acadf61dd7ea32acd9b90b8816a772cff430954bdb5e"), looks := true }, kinds := [], alts := [], laidByText := true, laidKinds := [.data, .data, .data, .data, .pinned], laidTests := true, laidLooks := .later }
def RulesEqualUptoCardSaid : Prop := Claim7.holds Tryz.pinned (.plain (OpenSpec.upto rulesEqualSpec)) rulesEqualUptoCard

/-- THE SECOND FORM's CARD OF 'sorteslaw13.RulesLimits'. -/
def rulesLimitsUptoCard : Claim7 := { stood := { row := rulesLimitsUptoRow, standIns := [], harness := (true, "914ca9462c6f3573e5c4acadf61dd7ea32acd9b90b8816a772cff430954bdb5e"), looks := true }, kinds := [], alts := [], laidByText := true, laidKinds := [.data, .data, .data, .data, .pinned], laidTests := true, laidLooks := .later }
def RulesLimitsUptoCardSaid : Prop := Claim7.holds Tryz.pinned (.plain (OpenSpec.upto rulesLimitsSpec)) rulesLimitsUptoCard
end Rows
end Go.Proofs.YteikkpiginfbkaaGreatDoor
