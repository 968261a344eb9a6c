/-
  No cell of these rows narrows 'for every input' (looked for: loops, veiled, ifaces, maps, wideKeys, modest, calm, conditions, laid).
  DERIVED. THE GIVEN ROWS OF THIS SEAT. 5 by the template 'for every input the law returns true; each argument reads behind the call as it read before'; 0 by the template 'total and deterministic' (their statements: YtejneiakpeeamaaTotals.lean).
  GIVEN WITH THE SEED: the statements are not yours to turn. If you find one false, say at which input.
  Laid BY PROGRAM, IN A SANDBOX (cutbox-rows.mjs): the forced cells as the released guide's own fill.sh prints them over the translation 3a5f337ccdc5520f… (all of the seat's roots in one cut). By AI agents, Wed Nov 11 2026. No macro, syntax, notation, axiom, sorry.
-/
import Derived.Test.YtejneiakpeeamaaChecked
import GoSem.Claim
import GoSem.ClaimJoined
import GoSem.ClaimMapViews
import Derived.JoinedTies
import Derived.KernelRfl
namespace Go.Proofs.Ytejneiakpeeamaa
/- THE CELL 'sum', in the pinned program and in every row, IS THE sha256 OF THE DUMP (.gsa) THAT YtejneiakpeeamaaProg.lean LOADS. Nothing in Lean hashes anything: it is a label: what it is worth is what the hold of that sum in a sandbox is worth. -/
noncomputable def Try.pinned : Pinned := { name := "ytejneiakpeeamaa", sum := "3a5f337ccdc5520f336f18367a4dd1a1a8dc6786d1d8713c58c6843ffe9083b7", checked := Try.checked }
namespace Rows
def none {H : Type} : Left H := { results := [], args := [] }

/-- 'toolchestlaw16.CodecSums': WHATEVER THE INPUT: true; the input reads as it did. -/
def codecSumsSpec : ChangeSpec := { name := "codecSums", fn := fun _ => fun
  | [d] => { results := [.lit (.bool true)], args := [d] }
  | _ => none }
def codecSumsRow : OpenClaim := { program := "ytejneiakpeeamaa", sum := "3a5f337ccdc5520f336f18367a4dd1a1a8dc6786d1d8713c58c6843ffe9083b7", func := "toolchest/toolchestlaw16.CodecSums", spec := "codecSums", unfollowed := true, recurses := true, apart := false }
def CodecSumsSaid : Prop := codecSumsRow.holds Try.pinned (OpenSpec.ofChange codecSumsSpec)

/-- ITS FALSE NEIGHBOUR: 'it returns false'. Refute it at one input. -/
def codecSumsWrong : ChangeSpec := { name := "codecSums", fn := fun _ => fun
  | [d] => { results := [.lit (.bool false)], args := [d] }
  | _ => none }
def CodecSumsWrongFalsely : Prop := codecSumsRow.holds Try.pinned (OpenSpec.ofChange codecSumsWrong)

/-- 'toolchestlaw16.CodecBack': WHATEVER THE INPUT: true; the input reads as it did. -/
def codecBackSpec : ChangeSpec := { name := "codecBack", fn := fun _ => fun
  | [d1, d2] => { results := [.lit (.bool true)], args := [d1, d2] }
  | _ => none }
def codecBackRow : OpenClaim := { program := "ytejneiakpeeamaa", sum := "3a5f337ccdc5520f336f18367a4dd1a1a8dc6786d1d8713c58c6843ffe9083b7", func := "toolchest/toolchestlaw16.CodecBack", spec := "codecBack", unfollowed := true, recurses := true, apart := false }
def CodecBackSaid : Prop := codecBackRow.holds Try.pinned (OpenSpec.ofChange codecBackSpec)

/-- ITS FALSE NEIGHBOUR: 'it returns false'. Refute it at one input. -/
def codecBackWrong : ChangeSpec := { name := "codecBack", fn := fun _ => fun
  | [d1, d2] => { results := [.lit (.bool false)], args := [d1, d2] }
  | _ => none }
def CodecBackWrongFalsely : Prop := codecBackRow.holds Try.pinned (OpenSpec.ofChange codecBackWrong)

/-- 'toolchestlaw16.CodecSpoils': WHATEVER THE INPUT: true; the input reads as it did. -/
def codecSpoilsSpec : ChangeSpec := { name := "codecSpoils", fn := fun _ => fun
  | [d1, d2, d3] => { results := [.lit (.bool true)], args := [d1, d2, d3] }
  | _ => none }
def codecSpoilsRow : OpenClaim := { program := "ytejneiakpeeamaa", sum := "3a5f337ccdc5520f336f18367a4dd1a1a8dc6786d1d8713c58c6843ffe9083b7", func := "toolchest/toolchestlaw16.CodecSpoils", spec := "codecSpoils", unfollowed := true, recurses := true, apart := false }
def CodecSpoilsSaid : Prop := codecSpoilsRow.holds Try.pinned (OpenSpec.ofChange codecSpoilsSpec)

/-- ITS FALSE NEIGHBOUR: 'it returns false'. Refute it at one input. -/
def codecSpoilsWrong : ChangeSpec := { name := "codecSpoils", fn := fun _ => fun
  | [d1, d2, d3] => { results := [.lit (.bool false)], args := [d1, d2, d3] }
  | _ => none }
def CodecSpoilsWrongFalsely : Prop := codecSpoilsRow.holds Try.pinned (OpenSpec.ofChange codecSpoilsWrong)

/-- 'toolchestlaw16.CodecAgain': WHATEVER THE INPUT: true; the input reads as it did. -/
def codecAgainSpec : ChangeSpec := { name := "codecAgain", fn := fun _ => fun
  | [d] => { results := [.lit (.bool true)], args := [d] }
  | _ => none }
def codecAgainRow : OpenClaim := { program := "ytejneiakpeeamaa", sum := "3a5f337ccdc5520f336f18367a4dd1a1a8dc6786d1d8713c58c6843ffe9083b7", func := "toolchest/toolchestlaw16.CodecAgain", spec := "codecAgain", unfollowed := true, recurses := true, apart := false }
def CodecAgainSaid : Prop := codecAgainRow.holds Try.pinned (OpenSpec.ofChange codecAgainSpec)

/-- ITS FALSE NEIGHBOUR: 'it returns false'. Refute it at one input. -/
def codecAgainWrong : ChangeSpec := { name := "codecAgain", fn := fun _ => fun
  | [d] => { results := [.lit (.bool false)], args := [d] }
  | _ => none }
def CodecAgainWrongFalsely : Prop := codecAgainRow.holds Try.pinned (OpenSpec.ofChange codecAgainWrong)

/-- 'toolchestlaw16.CodecTreeBack': WHATEVER THE INPUT: true; the input reads as it did. -/
def codecTreeBackSpec : ChangeSpec := { name := "codecTreeBack", fn := fun _ => fun
  | [d1, d2] => { results := [.lit (.bool true)], args := [d1, d2] }
  | _ => none }
def codecTreeBackRow : OpenClaim := { program := "ytejneiakpeeamaa", sum := "3a5f337ccdc5520f336f18367a4dd1a1a8dc6786d1d8713c58c6843ffe9083b7", func := "toolchest/toolchestlaw16.CodecTreeBack", spec := "codecTreeBack", unfollowed := true, recurses := true, apart := false }
def CodecTreeBackSaid : Prop := codecTreeBackRow.holds Try.pinned (OpenSpec.ofChange codecTreeBackSpec)

/-- ITS FALSE NEIGHBOUR: 'it returns false'. Refute it at one input. -/
def codecTreeBackWrong : ChangeSpec := { name := "codecTreeBack", fn := fun _ => fun
  | [d1, d2] => { results := [.lit (.bool false)], args := [d1, d2] }
  | _ => none }
def CodecTreeBackWrongFalsely : Prop := codecTreeBackRow.holds Try.pinned (OpenSpec.ofChange codecTreeBackWrong)

/- THE SECOND FORM. 'bulk': how many values and letters a reading holds, each counted each time it is reached (what is shared counts as often as it is met; a slice's spare places count too). A statement '..UptoSaid' is the law's where the arguments, and the package variables that the reading takes, are together of bulk at most 1048576: NARROWER than '..Said'. Prove '..Said' where nothing that the law and all that it calls make is longer than what came in: it says more and counts as full. Else prove '..UptoSaid'. A law counts once. -/
mutual
def uptoBulk {H : Type} : DataW H → Nat
  | .lit (.string bytes) => bytes.length + 1
  | .lit _ => 1
  | .nil => 1
  | .ptr d => uptoBulk d + 1
  | .slice elems spare => uptoBulkAll elems + uptoBulkAll spare + 1
  | .agg parts => uptoBulkAll parts + 1
  | .iface _ d => uptoBulk d + 1
  | .map entries => uptoBulkEntries entries + 1
  | .held _ => 1
def uptoBulkAll {H : Type} : List (DataW H) → Nat
  | [] => 0
  | d :: r => uptoBulk d + uptoBulkAll r
def uptoBulkEntries {H : Type} : List (Lit × DataW H) → Nat
  | [] => 0
  | x :: r => uptoBulkEntry x + uptoBulkEntries r
def uptoBulkEntry {H : Type} : Lit × DataW H → Nat
  | (.string bytes, d) => bytes.length + uptoBulk d + 1
  | (_, d) => uptoBulk d + 1
 end
def uptoSmall : (H : Type) → List (DataW H) → Bool := fun _ ds => decide (uptoBulkAll ds ≤ 1048576)
def OpenSpec.upto (s : _root_.Go.ChangeSpec) : _root_.Go.OpenSpec := { _root_.Go.OpenSpec.ofChange s with cond := some uptoSmall }

/-- 'toolchestlaw16.CodecSums', WHERE WHAT IT READS IS OF BULK AT MOST 1048576: true; the input reads as it did. -/
def codecSumsUptoRow : OpenClaim := { program := "ytejneiakpeeamaa", sum := "3a5f337ccdc5520f336f18367a4dd1a1a8dc6786d1d8713c58c6843ffe9083b7", func := "toolchest/toolchestlaw16.CodecSums", spec := "codecSums", unfollowed := true, recurses := true, apart := false, narrowed := true }
def CodecSumsUptoSaid : Prop := codecSumsUptoRow.holds Try.pinned (OpenSpec.upto codecSumsSpec)

/-- 'toolchestlaw16.CodecBack', WHERE WHAT IT READS IS OF BULK AT MOST 1048576: true; the input reads as it did. -/
def codecBackUptoRow : OpenClaim := { program := "ytejneiakpeeamaa", sum := "3a5f337ccdc5520f336f18367a4dd1a1a8dc6786d1d8713c58c6843ffe9083b7", func := "toolchest/toolchestlaw16.CodecBack", spec := "codecBack", unfollowed := true, recurses := true, apart := false, narrowed := true }
def CodecBackUptoSaid : Prop := codecBackUptoRow.holds Try.pinned (OpenSpec.upto codecBackSpec)

/-- 'toolchestlaw16.CodecSpoils', WHERE WHAT IT READS IS OF BULK AT MOST 1048576: true; the input reads as it did. -/
def codecSpoilsUptoRow : OpenClaim := { program := "ytejneiakpeeamaa", sum := "3a5f337ccdc5520f336f18367a4dd1a1a8dc6786d1d8713c58c6843ffe9083b7", func := "toolchest/toolchestlaw16.CodecSpoils", spec := "codecSpoils", unfollowed := true, recurses := true, apart := false, narrowed := true }
def CodecSpoilsUptoSaid : Prop := codecSpoilsUptoRow.holds Try.pinned (OpenSpec.upto codecSpoilsSpec)

/-- 'toolchestlaw16.CodecAgain', WHERE WHAT IT READS IS OF BULK AT MOST 1048576: true; the input reads as it did. -/
def codecAgainUptoRow : OpenClaim := { program := "ytejneiakpeeamaa", sum := "3a5f337ccdc5520f336f18367a4dd1a1a8dc6786d1d8713c58c6843ffe9083b7", func := "toolchest/toolchestlaw16.CodecAgain", spec := "codecAgain", unfollowed := true, recurses := true, apart := false, narrowed := true }
def CodecAgainUptoSaid : Prop := codecAgainUptoRow.holds Try.pinned (OpenSpec.upto codecAgainSpec)

/-- 'toolchestlaw16.CodecTreeBack', WHERE WHAT IT READS IS OF BULK AT MOST 1048576: true; the input reads as it did. -/
def codecTreeBackUptoRow : OpenClaim := { program := "ytejneiakpeeamaa", sum := "3a5f337ccdc5520f336f18367a4dd1a1a8dc6786d1d8713c58c6843ffe9083b7", func := "toolchest/toolchestlaw16.CodecTreeBack", spec := "codecTreeBack", unfollowed := true, recurses := true, apart := false, narrowed := true }
def CodecTreeBackUptoSaid : Prop := codecTreeBackUptoRow.holds Try.pinned (OpenSpec.upto codecTreeBackSpec)

end Rows
end Go.Proofs.Ytejneiakpeeamaa
