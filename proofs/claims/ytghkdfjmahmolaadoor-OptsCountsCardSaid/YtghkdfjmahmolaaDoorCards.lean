/-
  DERIVED. GIVEN WITH THE SEED: THE CARDS: each row of YtghkdfjmahmolaaDoorRows.lean that lists a variable, with what it lists TIED to the program's text (the seventh form; the later family's looks); each row that meets fmt, with fmt's text TOLD by the authors' own Lean function (tested against real Go, not proved from fmt's source: count such statements apart). THE CARD IS WHAT COUNTS. Prove the row's statement (the work); the ties are given (YtghkdfjmahmolaaDoorTie.lean); close each card by the builder's one call (the guide's Derived/Test/ToyasCard.lean, 'card_holds'). Laid BY PROGRAM, IN A SANDBOX (cutbox-door.mjs). By AI agents, Wed Nov 11 2026. No macro, syntax, notation, axiom, sorry.
-/
import Derived.Test.YtghkdfjmahmolaaDoorRows
import GoSem.ClaimSeven
namespace Go.Proofs.YtghkdfjmahmolaaDoor
namespace Rows

/-- THE TIED CARD OF 'toolchestlaw01.OptsNumbers'. -/
def optsNumbersCard : Claim7 := { stood := { row := optsNumbersRow, standIns := [], harness := (true, "a39cecb279dbcfe452d6e7dfb67997e8c37049ff5929a0feb1132cd5c844abfb"), looks := true }, kinds := [], alts := [], laidByText := true, laidKinds := [.data, .data, .data, .data, .sentinel, .sentinel, .pinned], laidTests := true, laidLooks := .later }
def OptsNumbersCardSaid : Prop := Claim7.holds Tryd.pinned (.plain (OpenSpec.ofChange optsNumbersSpec)) optsNumbersCard

/-- THE TIED CARD OF 'toolchestlaw01.OptsEnd'. -/
def optsEndCard : Claim7 := { stood := { row := optsEndRow, standIns := [], harness := (true, "a39cecb279dbcfe452d6e7dfb67997e8c37049ff5929a0feb1132cd5c844abfb"), looks := true }, kinds := [], alts := [], laidByText := true, laidKinds := [.data, .data, .data, .data, .sentinel, .sentinel, .pinned], laidTests := true, laidLooks := .later }
def OptsEndCardSaid : Prop := Claim7.holds Tryd.pinned (.plain (OpenSpec.ofChange optsEndSpec)) optsEndCard

/-- THE TIED CARD OF 'toolchestlaw01.OptsWords'. -/
def optsWordsCard : Claim7 := { stood := { row := optsWordsRow, standIns := [], harness := (true, "a39cecb279dbcfe452d6e7dfb67997e8c37049ff5929a0feb1132cd5c844abfb"), looks := true }, kinds := [], alts := [], laidByText := true, laidKinds := [.data, .data, .data, .data, .sentinel, .sentinel, .pinned], laidTests := true, laidLooks := .later }
def OptsWordsCardSaid : Prop := Claim7.holds Tryd.pinned (.plain (OpenSpec.ofChange optsWordsSpec)) optsWordsCard

/-- THE TIED CARD OF 'toolchestlaw01.OptsTold'. -/
def optsToldCard : Claim7 := { stood := { row := optsToldRow, standIns := [], harness := (true, "a39cecb279dbcfe452d6e7dfb67997e8c37049ff5929a0feb1132cd5c844abfb"), looks := true }, kinds := [], alts := [], laidByText := true, laidKinds := [.data, .data, .data, .data, .sentinel, .sentinel, .pinned], laidTests := true, laidLooks := .later }
def OptsToldCardSaid : Prop := Claim7.holds Tryd.pinned (.plain (OpenSpec.ofChange optsToldSpec)) optsToldCard

/-- THE TIED CARD OF 'toolchestlaw01.OptsNone'. -/
def optsNoneCard : Claim7 := { stood := { row := optsNoneRow, standIns := [], harness := (true, "a39cecb279dbcfe452d6e7dfb67997e8c37049ff5929a0feb1132cd5c844abfb"), looks := true }, kinds := [], alts := [], laidByText := true, laidKinds := [.data, .data, .data, .data, .sentinel, .sentinel, .pinned], laidTests := true, laidLooks := .later }
def OptsNoneCardSaid : Prop := Claim7.holds Tryd.pinned (.plain (OpenSpec.ofChange optsNoneSpec)) optsNoneCard

/-- THE TIED CARD OF 'toolchestlaw01.OptsDigits'. -/
def optsDigitsCard : Claim7 := { stood := { row := optsDigitsRow, standIns := [], harness := (true, "a39cecb279dbcfe452d6e7dfb67997e8c37049ff5929a0feb1132cd5c844abfb"), looks := true }, kinds := [], alts := [], laidByText := true, laidKinds := [.data, .data, .data, .data, .sentinel, .sentinel, .pinned], laidTests := true, laidLooks := .later }
def OptsDigitsCardSaid : Prop := Claim7.holds Tryd.pinned (.plain (OpenSpec.ofChange optsDigitsSpec)) optsDigitsCard

/-- THE TIED CARD OF 'toolchestlaw01.OptsCounts'. -/
def optsCountsCard : Claim7 := { stood := { row := optsCountsRow, standIns := [], harness := (true, "a39cecb279dbcfe452d6e7dfb67997e8c37049ff5929a0feb1132cd5c844abfb"), looks := true }, kinds := [], alts := [], laidByText := true, laidKinds := [.data, .data, .data, .data, .sentinel, .sentinel, .pinned], laidTests := true, laidLooks := .later }
def OptsCountsCardSaid : Prop := Claim7.holds Tryd.pinned (.plain (OpenSpec.ofChange optsCountsSpec)) optsCountsCard

/-- THE TIED CARD OF 'toolchestlaw11.BlocksSizes'. -/
def blocksSizesCard : Claim7 := { stood := { row := blocksSizesRow, standIns := [], harness := (true, "a39cecb279dbcfe452d6e7dfb67997e8c37049ff5929a0feb1132cd5c844abfb"), looks := true }, kinds := [], alts := [], laidByText := true, laidKinds := [.data, .data, .data, .data, .sentinel, .sentinel, .pinned], laidTests := true, laidLooks := .later }
def BlocksSizesCardSaid : Prop := Claim7.holds Tryd.pinned (.plain (OpenSpec.ofChange blocksSizesSpec)) blocksSizesCard

/-- THE SECOND FORM's CARD OF 'toolchestlaw01.OptsNumbers'. -/
def optsNumbersUptoCard : Claim7 := { stood := { row := optsNumbersUptoRow, standIns := [], harness := (true, "a39cecb279dbcfe452d6e7dfb67997e8c37049ff5929a0feb1132cd5c844abfb"), looks := true }, kinds := [], alts := [], laidByText := true, laidKinds := [.data, .data, .data, .data, .sentinel, .sentinel, .pinned], laidTests := true, laidLooks := .later }
def OptsNumbersUptoCardSaid : Prop := Claim7.holds Tryd.pinned (.plain (OpenSpec.upto optsNumbersSpec)) optsNumbersUptoCard

/-- THE SECOND FORM's CARD OF 'toolchestlaw01.OptsEnd'. -/
def optsEndUptoCard : Claim7 := { stood := { row := optsEndUptoRow, standIns := [], harness := (true, "a39cecb279dbcfe452d6e7dfb67997e8c37049ff5929a0feb1132cd5c844abfb"), looks := true }, kinds := [], alts := [], laidByText := true, laidKinds := [.data, .data, .data, .data, .sentinel, .sentinel, .pinned], laidTests := true, laidLooks := .later }
def OptsEndUptoCardSaid : Prop := Claim7.holds Tryd.pinned (.plain (OpenSpec.upto optsEndSpec)) optsEndUptoCard

/-- THE SECOND FORM's CARD OF 'toolchestlaw01.OptsWords'. -/
def optsWordsUptoCard : Claim7 := { stood := { row := optsWordsUptoRow, standIns := [], harness := (true, "a39cecb279dbcfe452d6e7dfb67997e8c37049ff5929a0feb1132cd5c844abfb"), looks := true }, kinds := [], alts := [], laidByText := true, laidKinds := [.data, .data, .data, .data, .sentinel, .sentinel, .pinned], laidTests := true, laidLooks := .later }
def OptsWordsUptoCardSaid : Prop := Claim7.holds Tryd.pinned (.plain (OpenSpec.upto optsWordsSpec)) optsWordsUptoCard

/-- THE SECOND FORM's CARD OF 'toolchestlaw01.OptsTold'. -/
def optsToldUptoCard : Claim7 := { stood := { row := optsToldUptoRow, standIns := [], harness := (true, "a39cecb279dbcfe452d6e7dfb67997e8c37049ff5929a0feb1132cd5c844abfb"), looks := true }, kinds := [], alts := [], laidByText := true, laidKinds := [.data, .data, .data, .data, .sentinel, .sentinel, .pinned], laidTests := true, laidLooks := .later }
def OptsToldUptoCardSaid : Prop := Claim7.holds Tryd.pinned (.plain (OpenSpec.upto optsToldSpec)) optsToldUptoCard

/-- THE SECOND FORM's CARD OF 'toolchestlaw01.OptsNone'. -/
def optsNoneUptoCard : Claim7 := { stood := { row := optsNoneUptoRow, standIns := [], harness := (true, "a39cecb279dbcfe452d6e7dfb67997e8c37049ff5929a0feb1132cd5c844abfb"), looks := true }, kinds := [], alts := [], laidByText := true, laidKinds := [.data, .data, .data, .data, .sentinel, .sentinel, .pinned], laidTests := true, laidLooks := .later }
def OptsNoneUptoCardSaid : Prop := Claim7.holds Tryd.pinned (.plain (OpenSpec.upto optsNoneSpec)) optsNoneUptoCard

/-- THE SECOND FORM's CARD OF 'toolchestlaw01.OptsDigits'. -/
def optsDigitsUptoCard : Claim7 := { stood := { row := optsDigitsUptoRow, standIns := [], harness := (true, "a39cecb279dbcfe452d6e7dfb67997e8c37049ff5929a0feb1132cd5c844abfb"), looks := true }, kinds := [], alts := [], laidByText := true, laidKinds := [.data, .data, .data, .data, .sentinel, .sentinel, .pinned], laidTests := true, laidLooks := .later }
def OptsDigitsUptoCardSaid : Prop := Claim7.holds Tryd.pinned (.plain (OpenSpec.upto optsDigitsSpec)) optsDigitsUptoCard

/-- THE SECOND FORM's CARD OF 'toolchestlaw01.OptsCounts'. -/
def optsCountsUptoCard : Claim7 := { stood := { row := optsCountsUptoRow, standIns := [], harness := (true, "a39cecb279dbcfe452d6e7dfb67997e8c37049ff5929a0feb1132cd5c844abfb"), looks := true }, kinds := [], alts := [], laidByText := true, laidKinds := [.data, .data, .data, .data, .sentinel, .sentinel, .pinned], laidTests := true, laidLooks := .later }
def OptsCountsUptoCardSaid : Prop := Claim7.holds Tryd.pinned (.plain (OpenSpec.upto optsCountsSpec)) optsCountsUptoCard

/-- THE SECOND FORM's CARD OF 'toolchestlaw11.BlocksSizes'. -/
def blocksSizesUptoCard : Claim7 := { stood := { row := blocksSizesUptoRow, standIns := [], harness := (true, "a39cecb279dbcfe452d6e7dfb67997e8c37049ff5929a0feb1132cd5c844abfb"), looks := true }, kinds := [], alts := [], laidByText := true, laidKinds := [.data, .data, .data, .data, .sentinel, .sentinel, .pinned], laidTests := true, laidLooks := .later }
def BlocksSizesUptoCardSaid : Prop := Claim7.holds Tryd.pinned (.plain (OpenSpec.upto blocksSizesSpec)) blocksSizesUptoCard
end Rows
end Go.Proofs.YtghkdfjmahmolaaDoor
