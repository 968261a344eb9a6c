/-
  DERIVED. GIVEN WITH THE SEED: THE CARDS: each row of YtiffmdfchibpaaaDoorRows.lean that lists a variable, with what it lists TIED to the program's text (the seventh form; the later family's looks); each row that meets fmt, with fmt's text TOLD by the authors' own Lean function (tested against real Go, not proved from fmt's source: count such statements apart). THE CARD IS WHAT COUNTS. Prove the row's statement (the work); the ties are given (YtiffmdfchibpaaaDoorTie.lean); close each card by the builder's one call (the guide's Derived/Test/ToyasCard.lean, 'card_holds'). Laid BY PROGRAM, IN A SANDBOX (cutbox-door.mjs). By AI agents, Wed Nov 11 2026. No macro, syntax, notation, axiom, sorry.
-/
import Derived.Test.YtiffmdfchibpaaaDoorRows
import GoSem.ClaimSeven
namespace Go.Proofs.YtiffmdfchibpaaaDoor
namespace Rows

/-- THE TIED CARD OF 'toolchestlaw11.BlocksPlain'. -/
def blocksPlainCard : Claim7 := { stood := { row := blocksPlainRow, standIns := [], harness := (true, "e6b91627d65852f16e55273525d98143345877ebfd82551d7079c80dbda20415"), looks := true }, kinds := [], alts := [], laidByText := true, laidKinds := [.data, .data, .data, .data, .sentinel, .sentinel, .pinned], laidTests := true, laidLooks := .later }
def BlocksPlainCardSaid : Prop := Claim7.holds Tryd.pinned (.plain (OpenSpec.ofChange blocksPlainSpec)) blocksPlainCard

/-- THE TIED CARD OF 'toolchestlaw11.BlocksParts'. -/
def blocksPartsCard : Claim7 := { stood := { row := blocksPartsRow, standIns := [], harness := (true, "e6b91627d65852f16e55273525d98143345877ebfd82551d7079c80dbda20415"), looks := true }, kinds := [], alts := [], laidByText := true, laidKinds := [.data, .data, .data, .data, .sentinel, .sentinel, .pinned], laidTests := true, laidLooks := .later }
def BlocksPartsCardSaid : Prop := Claim7.holds Tryd.pinned (.plain (OpenSpec.ofChange blocksPartsSpec)) blocksPartsCard

/-- THE TIED CARD OF 'toolchestlaw11.BlocksTwice'. -/
def blocksTwiceCard : Claim7 := { stood := { row := blocksTwiceRow, standIns := [], harness := (true, "e6b91627d65852f16e55273525d98143345877ebfd82551d7079c80dbda20415"), looks := true }, kinds := [], alts := [], laidByText := true, laidKinds := [.data, .data, .data, .data, .sentinel, .sentinel, .pinned], laidTests := true, laidLooks := .later }
def BlocksTwiceCardSaid : Prop := Claim7.holds Tryd.pinned (.plain (OpenSpec.ofChange blocksTwiceSpec)) blocksTwiceCard

/-- THE TIED CARD OF 'toolchestlaw11.BlocksCounts'. -/
def blocksCountsCard : Claim7 := { stood := { row := blocksCountsRow, standIns := [], harness := (true, "e6b91627d65852f16e55273525d98143345877ebfd82551d7079c80dbda20415"), looks := true }, kinds := [], alts := [], laidByText := true, laidKinds := [.data, .data, .data, .data, .sentinel, .sentinel, .pinned], laidTests := true, laidLooks := .later }
def BlocksCountsCardSaid : Prop := Claim7.holds Tryd.pinned (.plain (OpenSpec.ofChange blocksCountsSpec)) blocksCountsCard

/-- THE TIED CARD OF 'toolchestlaw11.BlocksSeeks'. -/
def blocksSeeksCard : Claim7 := { stood := { row := blocksSeeksRow, standIns := [], harness := (true, "e6b91627d65852f16e55273525d98143345877ebfd82551d7079c80dbda20415"), looks := true }, kinds := [], alts := [], laidByText := true, laidKinds := [.data, .data, .data, .data, .sentinel, .sentinel, .pinned], laidTests := true, laidLooks := .later }
def BlocksSeeksCardSaid : Prop := Claim7.holds Tryd.pinned (.plain (OpenSpec.ofChange blocksSeeksSpec)) blocksSeeksCard

/-- THE TIED CARD OF 'toolchestlaw11.BlocksTold'. -/
def blocksToldCard : Claim7 := { stood := { row := blocksToldRow, standIns := [], harness := (true, "e6b91627d65852f16e55273525d98143345877ebfd82551d7079c80dbda20415"), looks := true }, kinds := [], alts := [], laidByText := true, laidKinds := [.data, .data, .data, .data, .sentinel, .sentinel, .pinned], laidTests := true, laidLooks := .later }
def BlocksToldCardSaid : Prop := Claim7.holds Tryd.pinned (.plain (OpenSpec.ofChange blocksToldSpec)) blocksToldCard

/-- THE SECOND FORM's CARD OF 'toolchestlaw11.BlocksPlain'. -/
def blocksPlainUptoCard : Claim7 := { stood := { row := blocksPlainUptoRow, standIns := [], harness := (true, "e6b91627d65852f16e55273525d98143345877ebfd82551d7079c80dbda20415"), looks := true }, kinds := [], alts := [], laidByText := true, laidKinds := [.data, .data, .data, .data, .sentinel, .sentinel, .pinned], laidTests := true, laidLooks := .later }
def BlocksPlainUptoCardSaid : Prop := Claim7.holds Tryd.pinned (.plain (OpenSpec.upto blocksPlainSpec)) blocksPlainUptoCard

/-- THE SECOND FORM's CARD OF 'toolchestlaw11.BlocksParts'. -/
def blocksPartsUptoCard : Claim7 := { stood := { row := blocksPartsUptoRow, standIns := [], harness := (true, "e6b91627d65852f16e55273525d98143345877ebfd82551d7079c80dbda20415"), looks := true }, kinds := [], alts := [], laidByText := true, laidKinds := [.data, .data, .data, .data, .sentinel, .sentinel, .pinned], laidTests := true, laidLooks := .later }
def BlocksPartsUptoCardSaid : Prop := Claim7.holds Tryd.pinned (.plain (OpenSpec.upto blocksPartsSpec)) blocksPartsUptoCard

/-- THE SECOND FORM's CARD OF 'toolchestlaw11.BlocksTwice'. -/
def blocksTwiceUptoCard : Claim7 := { stood := { row := blocksTwiceUptoRow, standIns := [], harness := (true, "e6b91627d65852f16e55273525d98143345877ebfd82551d7079c80dbda20415"), looks := true }, kinds := [], alts := [], laidByText := true, laidKinds := [.data, .data, .data, .data, .sentinel, .sentinel, .pinned], laidTests := true, laidLooks := .later }
def BlocksTwiceUptoCardSaid : Prop := Claim7.holds Tryd.pinned (.plain (OpenSpec.upto blocksTwiceSpec)) blocksTwiceUptoCard

/-- THE SECOND FORM's CARD OF 'toolchestlaw11.BlocksCounts'. -/
def blocksCountsUptoCard : Claim7 := { stood := { row := blocksCountsUptoRow, standIns := [], harness := (true, "e6b91627d65852f16e55273525d98143345877ebfd82551d7079c80dbda20415"), looks := true }, kinds := [], alts := [], laidByText := true, laidKinds := [.data, .data, .data, .data, .sentinel, .sentinel, .pinned], laidTests := true, laidLooks := .later }
def BlocksCountsUptoCardSaid : Prop := Claim7.holds Tryd.pinned (.plain (OpenSpec.upto blocksCountsSpec)) blocksCountsUptoCard

/-- THE SECOND FORM's CARD OF 'toolchestlaw11.BlocksSeeks'. -/
def blocksSeeksUptoCard : Claim7 := { stood := { row := blocksSeeksUptoRow, standIns := [], harness := (true, "e6b91627d65852f16e55273525d98143345877ebfd82551d7079c80dbda20415"), looks := true }, kinds := [], alts := [], laidByText := true, laidKinds := [.data, .data, .data, .data, .sentinel, .sentinel, .pinned], laidTests := true, laidLooks := .later }
def BlocksSeeksUptoCardSaid : Prop := Claim7.holds Tryd.pinned (.plain (OpenSpec.upto blocksSeeksSpec)) blocksSeeksUptoCard

/-- THE SECOND FORM's CARD OF 'toolchestlaw11.BlocksTold'. -/
def blocksToldUptoCard : Claim7 := { stood := { row := blocksToldUptoRow, standIns := [], harness := (true, "e6b91627d65852f16e55273525d98143345877ebfd82551d7079c80dbda20415"), looks := true }, kinds := [], alts := [], laidByText := true, laidKinds := [.data, .data, .data, .data, .sentinel, .sentinel, .pinned], laidTests := true, laidLooks := .later }
def BlocksToldUptoCardSaid : Prop := Claim7.holds Tryd.pinned (.plain (OpenSpec.upto blocksToldSpec)) blocksToldUptoCard
end Rows
end Go.Proofs.YtiffmdfchibpaaaDoor
