/-
  DERIVED. GIVEN WITH THE SEED: THE CARDS: each row of YtnpaddakkniliaaDoorRows.lean that lists a variable, with what it lists TIED to the program's text (the seventh form; the later family's looks); each row that meets fmt, with fmt's text TOLD by the authors' own Lean function (tested against real Go, not proved from fmt's source: count such statements apart). THE CARD IS WHAT COUNTS. Prove the row's statement (the work); the ties are given (YtnpaddakkniliaaDoorTie.lean); close each card by the builder's one call (the guide's Derived/Test/ToyasCard.lean, 'card_holds'). Laid BY PROGRAM, IN A SANDBOX (cutbox-door.mjs). By AI agents, Wed Nov 11 2026. No macro, syntax, notation, axiom, sorry.
-/
import Derived.Test.YtnpaddakkniliaaDoorRows
import GoSem.ClaimSeven
namespace Go.Proofs.YtnpaddakkniliaaDoor
namespace Rows

/-- THE TIED CARD OF 'toolchestlaw10.ModesTells'. -/
def modesTellsCard : Claim7 := { stood := { row := modesTellsRow, standIns := [], harness := (true, "a41cd04c26f7d789d64c06ace67c201ec17ba9701ee2cb1968a1c83d179786a6"), looks := true }, kinds := [], alts := [], laidByText := true, laidKinds := [.data, .data, .data], laidTests := true, laidLooks := .later }
def ModesTellsCardSaid : Prop := Claim7.holds Tryd.pinned (.plain (OpenSpec.ofChange modesTellsSpec)) modesTellsCard

/-- THE TIED CARD OF 'toolchestlaw10.ModesBack'. -/
def modesBackCard : Claim7 := { stood := { row := modesBackRow, standIns := [], harness := (true, "a41cd04c26f7d789d64c06ace67c201ec17ba9701ee2cb1968a1c83d179786a6"), looks := true }, kinds := [], alts := [], laidByText := true, laidKinds := [.data, .data, .data, .data, .sentinel, .sentinel, .pinned], laidTests := true, laidLooks := .later }
def ModesBackCardSaid : Prop := Claim7.holds Tryd.pinned (.plain (OpenSpec.ofChange modesBackSpec)) modesBackCard

/-- THE TIED CARD OF 'toolchestlaw10.ModesSigns'. -/
def modesSignsCard : Claim7 := { stood := { row := modesSignsRow, standIns := [], harness := (true, "a41cd04c26f7d789d64c06ace67c201ec17ba9701ee2cb1968a1c83d179786a6"), looks := true }, kinds := [], alts := [], laidByText := true, laidKinds := [.data, .data, .data, .data, .sentinel, .sentinel, .pinned], laidTests := true, laidLooks := .later }
def ModesSignsCardSaid : Prop := Claim7.holds Tryd.pinned (.plain (OpenSpec.ofChange modesSignsSpec)) modesSignsCard

/-- THE TIED CARD OF 'toolchestlaw10.ModesAgain'. -/
def modesAgainCard : Claim7 := { stood := { row := modesAgainRow, standIns := [], harness := (true, "a41cd04c26f7d789d64c06ace67c201ec17ba9701ee2cb1968a1c83d179786a6"), looks := true }, kinds := [], alts := [], laidByText := true, laidKinds := [.data, .data, .data, .data, .sentinel, .sentinel, .pinned], laidTests := true, laidLooks := .later }
def ModesAgainCardSaid : Prop := Claim7.holds Tryd.pinned (.plain (OpenSpec.ofChange modesAgainSpec)) modesAgainCard

/-- THE TIED CARD OF 'toolchestlaw10.ModesOne'. -/
def modesOneCard : Claim7 := { stood := { row := modesOneRow, standIns := [], harness := (true, "a41cd04c26f7d789d64c06ace67c201ec17ba9701ee2cb1968a1c83d179786a6"), looks := true }, kinds := [], alts := [], laidByText := true, laidKinds := [.data, .data, .data, .data, .sentinel, .sentinel, .pinned], laidTests := true, laidLooks := .later }
def ModesOneCardSaid : Prop := Claim7.holds Tryd.pinned (.plain (OpenSpec.ofChange modesOneSpec)) modesOneCard

/-- THE TIED CARD OF 'toolchestlaw10.ModesMask'. -/
def modesMaskCard : Claim7 := { stood := { row := modesMaskRow, standIns := [], harness := (true, "a41cd04c26f7d789d64c06ace67c201ec17ba9701ee2cb1968a1c83d179786a6"), looks := true }, kinds := [], alts := [], laidByText := true, laidKinds := [.data, .data, .data, .data, .sentinel, .sentinel, .pinned], laidTests := true, laidLooks := .later }
def ModesMaskCardSaid : Prop := Claim7.holds Tryd.pinned (.plain (OpenSpec.ofChange modesMaskSpec)) modesMaskCard

/-- THE TIED CARD OF 'toolchestlaw10.ModesJoins'. -/
def modesJoinsCard : Claim7 := { stood := { row := modesJoinsRow, standIns := [], harness := (true, "a41cd04c26f7d789d64c06ace67c201ec17ba9701ee2cb1968a1c83d179786a6"), looks := true }, kinds := [], alts := [], laidByText := true, laidKinds := [.data, .data, .data, .data, .sentinel, .sentinel, .pinned], laidTests := true, laidLooks := .later }
def ModesJoinsCardSaid : Prop := Claim7.holds Tryd.pinned (.plain (OpenSpec.ofChange modesJoinsSpec)) modesJoinsCard

/-- THE SECOND FORM's CARD OF 'toolchestlaw10.ModesTells'. -/
def modesTellsUptoCard : Claim7 := { stood := { row := modesTellsUptoRow, standIns := [], harness := (true, "a41cd04c26f7d789d64c06ace67c201ec17ba9701ee2cb1968a1c83d179786a6"), looks := true }, kinds := [], alts := [], laidByText := true, laidKinds := [.data, .data, .data], laidTests := true, laidLooks := .later }
def ModesTellsUptoCardSaid : Prop := Claim7.holds Tryd.pinned (.plain (OpenSpec.upto modesTellsSpec)) modesTellsUptoCard

/-- THE SECOND FORM's CARD OF 'toolchestlaw10.ModesBack'. -/
def modesBackUptoCard : Claim7 := { stood := { row := modesBackUptoRow, standIns := [], harness := (true, "a41cd04c26f7d789d64c06ace67c201ec17ba9701ee2cb1968a1c83d179786a6"), looks := true }, kinds := [], alts := [], laidByText := true, laidKinds := [.data, .data, .data, .data, .sentinel, .sentinel, .pinned], laidTests := true, laidLooks := .later }
def ModesBackUptoCardSaid : Prop := Claim7.holds Tryd.pinned (.plain (OpenSpec.upto modesBackSpec)) modesBackUptoCard

/-- THE SECOND FORM's CARD OF 'toolchestlaw10.ModesSigns'. -/
def modesSignsUptoCard : Claim7 := { stood := { row := modesSignsUptoRow, standIns := [], harness := (true, "a41cd04c26f7d789d64c06ace67c201ec17ba9701ee2cb1968a1c83d179786a6"), looks := true }, kinds := [], alts := [], laidByText := true, laidKinds := [.data, .data, .data, .data, .sentinel, .sentinel, .pinned], laidTests := true, laidLooks := .later }
def ModesSignsUptoCardSaid : Prop := Claim7.holds Tryd.pinned (.plain (OpenSpec.upto modesSignsSpec)) modesSignsUptoCard

/-- THE SECOND FORM's CARD OF 'toolchestlaw10.ModesAgain'. -/
def modesAgainUptoCard : Claim7 := { stood := { row := modesAgainUptoRow, standIns := [], harness := (true, "a41cd04c26f7d789d64c06ace67c201ec17ba9701ee2cb1968a1c83d179786a6"), looks := true }, kinds := [], alts := [], laidByText := true, laidKinds := [.data, .data, .data, .data, .sentinel, .sentinel, .pinned], laidTests := true, laidLooks := .later }
def ModesAgainUptoCardSaid : Prop := Claim7.holds Tryd.pinned (.plain (OpenSpec.upto modesAgainSpec)) modesAgainUptoCard

/-- THE SECOND FORM's CARD OF 'toolchestlaw10.ModesOne'. -/
def modesOneUptoCard : Claim7 := { stood := { row := modesOneUptoRow, standIns := [], harness := (true, "a41cd04c26f7d789d64c06ace67c201ec17ba9701ee2cb1968a1c83d179786a6"), looks := true }, kinds := [], alts := [], laidByText := true, laidKinds := [.data, .data, .data, .data, .sentinel, .sentinel, .pinned], laidTests := true, laidLooks := .later }
def ModesOneUptoCardSaid : Prop := Claim7.holds Tryd.pinned (.plain (OpenSpec.upto modesOneSpec)) modesOneUptoCard

/-- THE SECOND FORM's CARD OF 'toolchestlaw10.ModesMask'. -/
def modesMaskUptoCard : Claim7 := { stood := { row := modesMaskUptoRow, standIns := [], harness := (true, "a41cd04c26f7d789d64c06ace67c201ec17ba9701ee2cb1968a1c83d179786a6"), looks := true }, kinds := [], alts := [], laidByText := true, laidKinds := [.data, .data, .data, .data, .sentinel, .sentinel, .pinned], laidTests := true, laidLooks := .later }
def ModesMaskUptoCardSaid : Prop := Claim7.holds Tryd.pinned (.plain (OpenSpec.upto modesMaskSpec)) modesMaskUptoCard

/-- THE SECOND FORM's CARD OF 'toolchestlaw10.ModesJoins'. -/
def modesJoinsUptoCard : Claim7 := { stood := { row := modesJoinsUptoRow, standIns := [], harness := (true, "a41cd04c26f7d789d64c06ace67c201ec17ba9701ee2cb1968a1c83d179786a6"), looks := true }, kinds := [], alts := [], laidByText := true, laidKinds := [.data, .data, .data, .data, .sentinel, .sentinel, .pinned], laidTests := true, laidLooks := .later }
def ModesJoinsUptoCardSaid : Prop := Claim7.holds Tryd.pinned (.plain (OpenSpec.upto modesJoinsSpec)) modesJoinsUptoCard
end Rows
end Go.Proofs.YtnpaddakkniliaaDoor
