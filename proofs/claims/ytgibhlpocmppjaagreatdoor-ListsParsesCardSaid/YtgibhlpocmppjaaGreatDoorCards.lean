/-
  DERIVED. GIVEN WITH THE SEED: THE CARDS: each row of YtgibhlpocmppjaaGreatDoorRows.lean that lists a variable, with what it lists TIED to the program's text (the seventh form; the later family's looks); each row that meets fmt, with fmt's text TOLD by the authors' own Lean function (tested against real Go, not proved from fmt's source: count such statements apart). THE CARD IS WHAT COUNTS. Prove the row's statement (the work); the ties are given (YtgibhlpocmppjaaGreatDoorTie.lean); close each card by the builder's one call (the guide's Derived/Test/ToyasCard.lean, 'card_holds'). Laid BY PROGRAM, IN A SANDBOX (cutbox-door.mjs). By AI agents, Wed Nov 11 2026. No macro, syntax, notation, axiom, sorry.
-/
import Derived.Test.YtgibhlpocmppjaaGreatDoorRows
import GoSem.ClaimSeven
namespace Go.Proofs.YtgibhlpocmppjaaGreatDoor
namespace Rows

/-- THE TIED CARD OF 'toolchestlaw03.ListsParses'. -/
def listsParsesCard : Claim7 := { stood := { row := listsParsesRow, standIns := [], harness := (true, "7e13c73a9c05444e34dd0fd26a85676d8daa05acac9ea4308608fb93bb324d33"), looks := true }, kinds := [], alts := [], laidByText := true, laidKinds := [.data, .data, .data, .data, .sentinel, .sentinel, .pinned], laidTests := true, laidLooks := .later }
def ListsParsesCardSaid : Prop := Claim7.holds Tryz.pinned (.plain (OpenSpec.ofChange listsParsesSpec)) listsParsesCard

/-- THE SECOND FORM's CARD OF 'toolchestlaw03.ListsParses'. -/
def listsParsesUptoCard : Claim7 := { stood := { row := listsParsesUptoRow, standIns := [], harness := (true, "7e13c73a9c05444e34dd0fd26a85676d8daa05acac9ea4308608fb93bb324d33"), looks := true }, kinds := [], alts := [], laidByText := true, laidKinds := [.data, .data, .data, .data, .sentinel, .sentinel, .pinned], laidTests := true, laidLooks := .later }
def ListsParsesUptoCardSaid : Prop := Claim7.holds Tryz.pinned (.plain (OpenSpec.upto listsParsesSpec)) listsParsesUptoCard
end Rows
end Go.Proofs.YtgibhlpocmppjaaGreatDoor
