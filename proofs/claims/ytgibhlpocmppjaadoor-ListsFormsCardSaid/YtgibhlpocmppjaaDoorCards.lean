/-
  DERIVED. GIVEN WITH THE SEED: THE CARDS: each row of YtgibhlpocmppjaaDoorRows.lean that lists a variable, with what it lists TIED to the program's text (the seventh form; the later family's looks); each row that meets fmt, with fmt's text TOLD by the authors' own Lean function (tested against real Go, not proved from fmt's source: count such statements apart). THE CARD IS WHAT COUNTS. Prove the row's statement (the work); the ties are given (YtgibhlpocmppjaaDoorTie.lean); close each card by the builder's one call (the guide's Derived/Test/ToyasCard.lean, 'card_holds'). Laid BY PROGRAM, IN A SANDBOX (cutbox-door.mjs). By AI agents, Wed Nov 11 2026. No macro, syntax, notation, axiom, sorry.
-/
import Derived.Test.YtgibhlpocmppjaaDoorRows
import GoSem.ClaimSeven
namespace Go.Proofs.YtgibhlpocmppjaaDoor
namespace Rows

/-- THE TIED CARD OF 'toolchestlaw03.ListsTells'. -/
def listsTellsCard : Claim7 := { stood := { row := listsTellsRow, standIns := [], harness := (true, "393f57898c11838395428f37b84ba423a69e804fa15b3927c6d2a024cfc31be5"), looks := true }, kinds := [], alts := [], laidByText := true, laidKinds := [.data, .data, .data], laidTests := true, laidLooks := .later }
def ListsTellsCardSaid : Prop := Claim7.holds Tryd.pinned (.plain (OpenSpec.ofChange listsTellsSpec)) listsTellsCard

/-- THE TIED CARD OF 'toolchestlaw03.ListsBack'. -/
def listsBackCard : Claim7 := { stood := { row := listsBackRow, standIns := [], harness := (true, "393f57898c11838395428f37b84ba423a69e804fa15b3927c6d2a024cfc31be5"), looks := true }, kinds := [], alts := [], laidByText := true, laidKinds := [.data, .data, .data, .data, .sentinel, .sentinel, .pinned], laidTests := true, laidLooks := .later }
def ListsBackCardSaid : Prop := Claim7.holds Tryd.pinned (.plain (OpenSpec.ofChange listsBackSpec)) listsBackCard

/-- THE TIED CARD OF 'toolchestlaw03.ListsAgain'. -/
def listsAgainCard : Claim7 := { stood := { row := listsAgainRow, standIns := [], harness := (true, "393f57898c11838395428f37b84ba423a69e804fa15b3927c6d2a024cfc31be5"), looks := true }, kinds := [], alts := [], laidByText := true, laidKinds := [.data, .data, .data, .data, .sentinel, .sentinel, .pinned], laidTests := true, laidLooks := .later }
def ListsAgainCardSaid : Prop := Claim7.holds Tryd.pinned (.plain (OpenSpec.ofChange listsAgainSpec)) listsAgainCard

/-- THE TIED CARD OF 'toolchestlaw03.ListsJoins'. -/
def listsJoinsCard : Claim7 := { stood := { row := listsJoinsRow, standIns := [], harness := (true, "393f57898c11838395428f37b84ba423a69e804fa15b3927c6d2a024cfc31be5"), looks := true }, kinds := [], alts := [], laidByText := true, laidKinds := [.data, .data, .data, .data, .sentinel, .sentinel, .pinned], laidTests := true, laidLooks := .later }
def ListsJoinsCardSaid : Prop := Claim7.holds Tryd.pinned (.plain (OpenSpec.ofChange listsJoinsSpec)) listsJoinsCard

/-- THE TIED CARD OF 'toolchestlaw03.ListsForms'. -/
def listsFormsCard : Claim7 := { stood := { row := listsFormsRow, standIns := [], harness := (true, "393f57898c11838395428f37b84ba423a69e804fa15b3927c6d2a024cfc31be5"), looks := true }, kinds := [], alts := [], laidByText := true, laidKinds := [.data, .data, .data, .data, .sentinel, .sentinel, .pinned], laidTests := true, laidLooks := .later }
def ListsFormsCardSaid : Prop := Claim7.holds Tryd.pinned (.plain (OpenSpec.ofChange listsFormsSpec)) listsFormsCard

/-- THE SECOND FORM's CARD OF 'toolchestlaw03.ListsTells'. -/
def listsTellsUptoCard : Claim7 := { stood := { row := listsTellsUptoRow, standIns := [], harness := (true, "393f57898c11838395428f37b84ba423a69e804fa15b3927c6d2a024cfc31be5"), looks := true }, kinds := [], alts := [], laidByText := true, laidKinds := [.data, .data, .data], laidTests := true, laidLooks := .later }
def ListsTellsUptoCardSaid : Prop := Claim7.holds Tryd.pinned (.plain (OpenSpec.upto listsTellsSpec)) listsTellsUptoCard

/-- THE SECOND FORM's CARD OF 'toolchestlaw03.ListsBack'. -/
def listsBackUptoCard : Claim7 := { stood := { row := listsBackUptoRow, standIns := [], harness := (true, "393f57898c11838395428f37b84ba423a69e804fa15b3927c6d2a024cfc31be5"), looks := true }, kinds := [], alts := [], laidByText := true, laidKinds := [.data, .data, .data, .data, .sentinel, .sentinel, .pinned], laidTests := true, laidLooks := .later }
def ListsBackUptoCardSaid : Prop := Claim7.holds Tryd.pinned (.plain (OpenSpec.upto listsBackSpec)) listsBackUptoCard

/-- THE SECOND FORM's CARD OF 'toolchestlaw03.ListsAgain'. -/
def listsAgainUptoCard : Claim7 := { stood := { row := listsAgainUptoRow, standIns := [], harness := (true, "393f57898c11838395428f37b84ba423a69e804fa15b3927c6d2a024cfc31be5"), looks := true }, kinds := [], alts := [], laidByText := true, laidKinds := [.data, .data, .data, .data, .sentinel, .sentinel, .pinned], laidTests := true, laidLooks := .later }
def ListsAgainUptoCardSaid : Prop := Claim7.holds Tryd.pinned (.plain (OpenSpec.upto listsAgainSpec)) listsAgainUptoCard

/-- THE SECOND FORM's CARD OF 'toolchestlaw03.ListsJoins'. -/
def listsJoinsUptoCard : Claim7 := { stood := { row := listsJoinsUptoRow, standIns := [], harness := (true, "393f57898c11838395428f37b84ba423a69e804fa15b3927c6d2a024cfc31be5"), looks := true }, kinds := [], alts := [], laidByText := true, laidKinds := [.data, .data, .data, .data, .sentinel, .sentinel, .pinned], laidTests := true, laidLooks := .later }
def ListsJoinsUptoCardSaid : Prop := Claim7.holds Tryd.pinned (.plain (OpenSpec.upto listsJoinsSpec)) listsJoinsUptoCard

/-- THE SECOND FORM's CARD OF 'toolchestlaw03.ListsForms'. -/
def listsFormsUptoCard : Claim7 := { stood := { row := listsFormsUptoRow, standIns := [], harness := (true, "393f57898c11838395428f37b84ba423a69e804fa15b3927c6d2a024cfc31be5"), looks := true }, kinds := [], alts := [], laidByText := true, laidKinds := [.data, .data, .data, .data, .sentinel, .sentinel, .pinned], laidTests := true, laidLooks := .later }
def ListsFormsUptoCardSaid : Prop := Claim7.holds Tryd.pinned (.plain (OpenSpec.upto listsFormsSpec)) listsFormsUptoCard
end Rows
end Go.Proofs.YtgibhlpocmppjaaDoor
