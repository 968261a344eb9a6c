/-
  No cell of these rows narrows 'for every input' (looked for: loops, veiled, ifaces, maps, wideKeys, modest, calm, conditions, laid).
  DERIVED. THE GIVEN ROWS OF THIS SEAT. 8 by the template 'for every input the law returns true; each argument reads behind the call as it read before'; 0 by the template 'total and deterministic' (their statements: YtafiadlkfjacnaaTotals.lean).
  GIVEN WITH THE SEED: the statements are not yours to turn. If you find one false, say at which input.
  Laid BY PROGRAM, IN A SANDBOX (cutbox-rows.mjs): the forced cells as the released guide's own fill.sh prints them over the translation b37c9235afb3d2bf… (all of the seat's roots in one cut). By AI agents, Wed Nov 11 2026. No macro, syntax, notation, axiom, sorry.
-/
import Derived.Test.YtafiadlkfjacnaaChecked
import GoSem.Claim
import GoSem.ClaimJoined
import GoSem.ClaimMapViews
import Derived.JoinedTies
import Derived.KernelRfl
namespace Go.Proofs.Ytafiadlkfjacnaa
/- THE CELL 'sum', in the pinned program and in every row, IS THE sha256 OF THE DUMP (.gsa) THAT YtafiadlkfjacnaaProg.lean LOADS. Nothing in Lean hashes anything: it is a label: what it is worth is what the hold of that sum in a sandbox is worth. -/
noncomputable def Try.pinned : Pinned := { name := "ytafiadlkfjacnaa", sum := "b37c9235afb3d2bf3df3afd667fe005b21a3225632f420e60be2347ffde14ca3", checked := Try.checked }
namespace Rows
def none {H : Type} : Left H := { results := [], args := [] }

/-- 'toolchestlaw09.GlobsQuotes': WHATEVER THE INPUT: true; the input reads as it did. -/
def globsQuotesSpec : ChangeSpec := { name := "globsQuotes", fn := fun _ => fun
  | [d] => { results := [.lit (.bool true)], args := [d] }
  | _ => none }
def globsQuotesRow : OpenClaim := { program := "ytafiadlkfjacnaa", sum := "b37c9235afb3d2bf3df3afd667fe005b21a3225632f420e60be2347ffde14ca3", func := "toolchest/toolchestlaw09.GlobsQuotes", spec := "globsQuotes", inPlace := ["internal/bytealg.IndexByteString", "internal/abi.NoEscape"], apart := false }
def GlobsQuotesSaid : Prop := globsQuotesRow.holds Try.pinned (OpenSpec.ofChange globsQuotesSpec)

/-- ITS FALSE NEIGHBOUR: 'it returns false'. Refute it at one input. -/
def globsQuotesWrong : ChangeSpec := { name := "globsQuotes", fn := fun _ => fun
  | [d] => { results := [.lit (.bool false)], args := [d] }
  | _ => none }
def GlobsQuotesWrongFalsely : Prop := globsQuotesRow.holds Try.pinned (OpenSpec.ofChange globsQuotesWrong)

/-- 'toolchestlaw09.GlobsMatches': WHATEVER THE INPUT: true; the input reads as it did. -/
def globsMatchesSpec : ChangeSpec := { name := "globsMatches", fn := fun _ => fun
  | [d1, d2] => { results := [.lit (.bool true)], args := [d1, d2] }
  | _ => none }
def globsMatchesRow : OpenClaim := { program := "ytafiadlkfjacnaa", sum := "b37c9235afb3d2bf3df3afd667fe005b21a3225632f420e60be2347ffde14ca3", func := "toolchest/toolchestlaw09.GlobsMatches", spec := "globsMatches", inPlace := ["internal/bytealg.IndexByteString"], unfollowed := true, recurses := true, apart := false }
def GlobsMatchesSaid : Prop := globsMatchesRow.holds Try.pinned (OpenSpec.ofChange globsMatchesSpec)

/-- ITS FALSE NEIGHBOUR: 'it returns false'. Refute it at one input. -/
def globsMatchesWrong : ChangeSpec := { name := "globsMatches", fn := fun _ => fun
  | [d1, d2] => { results := [.lit (.bool false)], args := [d1, d2] }
  | _ => none }
def GlobsMatchesWrongFalsely : Prop := globsMatchesRow.holds Try.pinned (OpenSpec.ofChange globsMatchesWrong)

/-- 'toolchestlaw09.GlobsAlone': WHATEVER THE INPUT: true; the input reads as it did. -/
def globsAloneSpec : ChangeSpec := { name := "globsAlone", fn := fun _ => fun
  | [d1, d2] => { results := [.lit (.bool true)], args := [d1, d2] }
  | _ => none }
def globsAloneRow : OpenClaim := { program := "ytafiadlkfjacnaa", sum := "b37c9235afb3d2bf3df3afd667fe005b21a3225632f420e60be2347ffde14ca3", func := "toolchest/toolchestlaw09.GlobsAlone", spec := "globsAlone", inPlace := ["internal/bytealg.IndexByteString", "internal/abi.NoEscape"], unfollowed := true, recurses := true, apart := false }
def GlobsAloneSaid : Prop := globsAloneRow.holds Try.pinned (OpenSpec.ofChange globsAloneSpec)

/-- ITS FALSE NEIGHBOUR: 'it returns false'. Refute it at one input. -/
def globsAloneWrong : ChangeSpec := { name := "globsAlone", fn := fun _ => fun
  | [d1, d2] => { results := [.lit (.bool false)], args := [d1, d2] }
  | _ => none }
def GlobsAloneWrongFalsely : Prop := globsAloneRow.holds Try.pinned (OpenSpec.ofChange globsAloneWrong)

/-- 'toolchestlaw09.GlobsStars': WHATEVER THE INPUT: true; the input reads as it did. -/
def globsStarsSpec : ChangeSpec := { name := "globsStars", fn := fun _ => fun
  | [d1, d2] => { results := [.lit (.bool true)], args := [d1, d2] }
  | _ => none }
def globsStarsRow : OpenClaim := { program := "ytafiadlkfjacnaa", sum := "b37c9235afb3d2bf3df3afd667fe005b21a3225632f420e60be2347ffde14ca3", func := "toolchest/toolchestlaw09.GlobsStars", spec := "globsStars", inPlace := ["internal/bytealg.IndexByteString", "internal/abi.NoEscape"], unfollowed := true, recurses := true, apart := false }
def GlobsStarsSaid : Prop := globsStarsRow.holds Try.pinned (OpenSpec.ofChange globsStarsSpec)

/-- ITS FALSE NEIGHBOUR: 'it returns false'. Refute it at one input. -/
def globsStarsWrong : ChangeSpec := { name := "globsStars", fn := fun _ => fun
  | [d1, d2] => { results := [.lit (.bool false)], args := [d1, d2] }
  | _ => none }
def GlobsStarsWrongFalsely : Prop := globsStarsRow.holds Try.pinned (OpenSpec.ofChange globsStarsWrong)

/-- 'toolchestlaw09.GlobsParts': WHATEVER THE INPUT: true; the input reads as it did. -/
def globsPartsSpec : ChangeSpec := { name := "globsParts", fn := fun _ => fun
  | [d1, d2, d3] => { results := [.lit (.bool true)], args := [d1, d2, d3] }
  | _ => none }
def globsPartsRow : OpenClaim := { program := "ytafiadlkfjacnaa", sum := "b37c9235afb3d2bf3df3afd667fe005b21a3225632f420e60be2347ffde14ca3", func := "toolchest/toolchestlaw09.GlobsParts", spec := "globsParts", inPlace := ["internal/bytealg.IndexByteString", "internal/abi.NoEscape"], unfollowed := true, recurses := true, apart := false }
def GlobsPartsSaid : Prop := globsPartsRow.holds Try.pinned (OpenSpec.ofChange globsPartsSpec)

/-- ITS FALSE NEIGHBOUR: 'it returns false'. Refute it at one input. -/
def globsPartsWrong : ChangeSpec := { name := "globsParts", fn := fun _ => fun
  | [d1, d2, d3] => { results := [.lit (.bool false)], args := [d1, d2, d3] }
  | _ => none }
def GlobsPartsWrongFalsely : Prop := globsPartsRow.holds Try.pinned (OpenSpec.ofChange globsPartsWrong)

/-- 'toolchestlaw09.GlobsLong': WHATEVER THE INPUT: true; the input reads as it did. -/
def globsLongSpec : ChangeSpec := { name := "globsLong", fn := fun _ => fun
  | [d1, d2, d3] => { results := [.lit (.bool true)], args := [d1, d2, d3] }
  | _ => none }
def globsLongRow : OpenClaim := { program := "ytafiadlkfjacnaa", sum := "b37c9235afb3d2bf3df3afd667fe005b21a3225632f420e60be2347ffde14ca3", func := "toolchest/toolchestlaw09.GlobsLong", spec := "globsLong", inPlace := ["internal/bytealg.IndexByteString", "internal/abi.NoEscape"], unfollowed := true, recurses := true, apart := false }
def GlobsLongSaid : Prop := globsLongRow.holds Try.pinned (OpenSpec.ofChange globsLongSpec)

/-- ITS FALSE NEIGHBOUR: 'it returns false'. Refute it at one input. -/
def globsLongWrong : ChangeSpec := { name := "globsLong", fn := fun _ => fun
  | [d1, d2, d3] => { results := [.lit (.bool false)], args := [d1, d2, d3] }
  | _ => none }
def GlobsLongWrongFalsely : Prop := globsLongRow.holds Try.pinned (OpenSpec.ofChange globsLongWrong)

/-- 'toolchestlaw09.GlobsRanges': WHATEVER THE INPUT: true; the input reads as it did. -/
def globsRangesSpec : ChangeSpec := { name := "globsRanges", fn := fun _ => fun
  | [d1, d2, d3] => { results := [.lit (.bool true)], args := [d1, d2, d3] }
  | _ => none }
def globsRangesRow : OpenClaim := { program := "ytafiadlkfjacnaa", sum := "b37c9235afb3d2bf3df3afd667fe005b21a3225632f420e60be2347ffde14ca3", func := "toolchest/toolchestlaw09.GlobsRanges", spec := "globsRanges", inPlace := ["internal/bytealg.IndexByteString", "internal/abi.NoEscape"], unfollowed := true, recurses := true, apart := false }
def GlobsRangesSaid : Prop := globsRangesRow.holds Try.pinned (OpenSpec.ofChange globsRangesSpec)

/-- ITS FALSE NEIGHBOUR: 'it returns false'. Refute it at one input. -/
def globsRangesWrong : ChangeSpec := { name := "globsRanges", fn := fun _ => fun
  | [d1, d2, d3] => { results := [.lit (.bool false)], args := [d1, d2, d3] }
  | _ => none }
def GlobsRangesWrongFalsely : Prop := globsRangesRow.holds Try.pinned (OpenSpec.ofChange globsRangesWrong)

/-- 'toolchestlaw09.GlobsPlain': WHATEVER THE INPUT: true; the input reads as it did. -/
def globsPlainSpec : ChangeSpec := { name := "globsPlain", fn := fun _ => fun
  | [d1, d2] => { results := [.lit (.bool true)], args := [d1, d2] }
  | _ => none }
def globsPlainRow : OpenClaim := { program := "ytafiadlkfjacnaa", sum := "b37c9235afb3d2bf3df3afd667fe005b21a3225632f420e60be2347ffde14ca3", func := "toolchest/toolchestlaw09.GlobsPlain", spec := "globsPlain", inPlace := ["internal/bytealg.IndexByteString", "internal/abi.NoEscape"], unfollowed := true, recurses := true, apart := false }
def GlobsPlainSaid : Prop := globsPlainRow.holds Try.pinned (OpenSpec.ofChange globsPlainSpec)

/-- ITS FALSE NEIGHBOUR: 'it returns false'. Refute it at one input. -/
def globsPlainWrong : ChangeSpec := { name := "globsPlain", fn := fun _ => fun
  | [d1, d2] => { results := [.lit (.bool false)], args := [d1, d2] }
  | _ => none }
def GlobsPlainWrongFalsely : Prop := globsPlainRow.holds Try.pinned (OpenSpec.ofChange globsPlainWrong)

/- THE SECOND FORM. 'bulk': how many values and letters a reading holds, each counted each time it is reached (what is shared counts as often as it is met; a slice's spare places count too). A statement '..UptoSaid' is the law's where the arguments, and the package variables that the reading takes, are together of bulk at most 1048576: NARROWER than '..Said'. Prove '..Said' where nothing that the law and all that it calls make is longer than what came in: it says more and counts as full. Else prove '..UptoSaid'. A law counts once. -/
mutual
def uptoBulk {H : Type} : DataW H → Nat
  | .lit (.string bytes) => bytes.length + 1
  | .lit _ => 1
  | .nil => 1
  | .ptr d => uptoBulk d + 1
  | .slice elems spare => uptoBulkAll elems + uptoBulkAll spare + 1
  | .agg parts => uptoBulkAll parts + 1
  | .iface _ d => uptoBulk d + 1
  | .map entries => uptoBulkEntries entries + 1
  | .held _ => 1
def uptoBulkAll {H : Type} : List (DataW H) → Nat
  | [] => 0
  | d :: r => uptoBulk d + uptoBulkAll r
def uptoBulkEntries {H : Type} : List (Lit × DataW H) → Nat
  | [] => 0
  | x :: r => uptoBulkEntry x + uptoBulkEntries r
def uptoBulkEntry {H : Type} : Lit × DataW H → Nat
  | (.string bytes, d) => bytes.length + uptoBulk d + 1
  | (_, d) => uptoBulk d + 1
 end
def uptoSmall : (H : Type) → List (DataW H) → Bool := fun _ ds => decide (uptoBulkAll ds ≤ 1048576)
def OpenSpec.upto (s : _root_.Go.ChangeSpec) : _root_.Go.OpenSpec := { _root_.Go.OpenSpec.ofChange s with cond := some uptoSmall }

/-- 'toolchestlaw09.GlobsQuotes', WHERE WHAT IT READS IS OF BULK AT MOST 1048576: true; the input reads as it did. -/
def globsQuotesUptoRow : OpenClaim := { program := "ytafiadlkfjacnaa", sum := "b37c9235afb3d2bf3df3afd667fe005b21a3225632f420e60be2347ffde14ca3", func := "toolchest/toolchestlaw09.GlobsQuotes", spec := "globsQuotes", inPlace := ["internal/bytealg.IndexByteString", "internal/abi.NoEscape"], apart := false, narrowed := true }
def GlobsQuotesUptoSaid : Prop := globsQuotesUptoRow.holds Try.pinned (OpenSpec.upto globsQuotesSpec)

/-- 'toolchestlaw09.GlobsMatches', WHERE WHAT IT READS IS OF BULK AT MOST 1048576: true; the input reads as it did. -/
def globsMatchesUptoRow : OpenClaim := { program := "ytafiadlkfjacnaa", sum := "b37c9235afb3d2bf3df3afd667fe005b21a3225632f420e60be2347ffde14ca3", func := "toolchest/toolchestlaw09.GlobsMatches", spec := "globsMatches", inPlace := ["internal/bytealg.IndexByteString"], unfollowed := true, recurses := true, apart := false, narrowed := true }
def GlobsMatchesUptoSaid : Prop := globsMatchesUptoRow.holds Try.pinned (OpenSpec.upto globsMatchesSpec)

/-- 'toolchestlaw09.GlobsAlone', WHERE WHAT IT READS IS OF BULK AT MOST 1048576: true; the input reads as it did. -/
def globsAloneUptoRow : OpenClaim := { program := "ytafiadlkfjacnaa", sum := "b37c9235afb3d2bf3df3afd667fe005b21a3225632f420e60be2347ffde14ca3", func := "toolchest/toolchestlaw09.GlobsAlone", spec := "globsAlone", inPlace := ["internal/bytealg.IndexByteString", "internal/abi.NoEscape"], unfollowed := true, recurses := true, apart := false, narrowed := true }
def GlobsAloneUptoSaid : Prop := globsAloneUptoRow.holds Try.pinned (OpenSpec.upto globsAloneSpec)

/-- 'toolchestlaw09.GlobsStars', WHERE WHAT IT READS IS OF BULK AT MOST 1048576: true; the input reads as it did. -/
def globsStarsUptoRow : OpenClaim := { program := "ytafiadlkfjacnaa", sum := "b37c9235afb3d2bf3df3afd667fe005b21a3225632f420e60be2347ffde14ca3", func := "toolchest/toolchestlaw09.GlobsStars", spec := "globsStars", inPlace := ["internal/bytealg.IndexByteString", "internal/abi.NoEscape"], unfollowed := true, recurses := true, apart := false, narrowed := true }
def GlobsStarsUptoSaid : Prop := globsStarsUptoRow.holds Try.pinned (OpenSpec.upto globsStarsSpec)

/-- 'toolchestlaw09.GlobsParts', WHERE WHAT IT READS IS OF BULK AT MOST 1048576: true; the input reads as it did. -/
def globsPartsUptoRow : OpenClaim := { program := "ytafiadlkfjacnaa", sum := "b37c9235afb3d2bf3df3afd667fe005b21a3225632f420e60be2347ffde14ca3", func := "toolchest/toolchestlaw09.GlobsParts", spec := "globsParts", inPlace := ["internal/bytealg.IndexByteString", "internal/abi.NoEscape"], unfollowed := true, recurses := true, apart := false, narrowed := true }
def GlobsPartsUptoSaid : Prop := globsPartsUptoRow.holds Try.pinned (OpenSpec.upto globsPartsSpec)

/-- 'toolchestlaw09.GlobsLong', WHERE WHAT IT READS IS OF BULK AT MOST 1048576: true; the input reads as it did. -/
def globsLongUptoRow : OpenClaim := { program := "ytafiadlkfjacnaa", sum := "b37c9235afb3d2bf3df3afd667fe005b21a3225632f420e60be2347ffde14ca3", func := "toolchest/toolchestlaw09.GlobsLong", spec := "globsLong", inPlace := ["internal/bytealg.IndexByteString", "internal/abi.NoEscape"], unfollowed := true, recurses := true, apart := false, narrowed := true }
def GlobsLongUptoSaid : Prop := globsLongUptoRow.holds Try.pinned (OpenSpec.upto globsLongSpec)

/-- 'toolchestlaw09.GlobsRanges', WHERE WHAT IT READS IS OF BULK AT MOST 1048576: true; the input reads as it did. -/
def globsRangesUptoRow : OpenClaim := { program := "ytafiadlkfjacnaa", sum := "b37c9235afb3d2bf3df3afd667fe005b21a3225632f420e60be2347ffde14ca3", func := "toolchest/toolchestlaw09.GlobsRanges", spec := "globsRanges", inPlace := ["internal/bytealg.IndexByteString", "internal/abi.NoEscape"], unfollowed := true, recurses := true, apart := false, narrowed := true }
def GlobsRangesUptoSaid : Prop := globsRangesUptoRow.holds Try.pinned (OpenSpec.upto globsRangesSpec)

/-- 'toolchestlaw09.GlobsPlain', WHERE WHAT IT READS IS OF BULK AT MOST 1048576: true; the input reads as it did. -/
def globsPlainUptoRow : OpenClaim := { program := "ytafiadlkfjacnaa", sum := "b37c9235afb3d2bf3df3afd667fe005b21a3225632f420e60be2347ffde14ca3", func := "toolchest/toolchestlaw09.GlobsPlain", spec := "globsPlain", inPlace := ["internal/bytealg.IndexByteString", "internal/abi.NoEscape"], unfollowed := true, recurses := true, apart := false, narrowed := true }
def GlobsPlainUptoSaid : Prop := globsPlainUptoRow.holds Try.pinned (OpenSpec.upto globsPlainSpec)

end Rows
end Go.Proofs.Ytafiadlkfjacnaa
