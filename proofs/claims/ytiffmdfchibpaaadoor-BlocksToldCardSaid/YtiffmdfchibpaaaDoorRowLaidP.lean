/-
  The library's variables that the rows list: a world that holds them. No condition of a claim stands here.
-/
import Derived.Test.YtiffmdfchibpaaaDoorTie
import Derived.WalkKit
import Derived.ProofKit
import Derived.OpenShut
import Derived.LaidLaws
import Derived.Deep.DeepHandedRow
import Derived.Lib.LaidTab
import Derived.Stop.LaidErr
namespace Go.Proofs.YtiffmdfchibpaaaDoor
open Go.ChangeShapes Go.WideShapes Go.ChangeAt Go.RowKit

theorem knob : ownKnob Tryd.prog.godebug = none := by kernel_rfl
/-! ### A world for the witness -/
def litV {H : Type} : DataW H → List Value
  | .lit (.int k z) => [.int k z]
  | _ => []
def litW {H : Type} : DataW H → List Value
  | .agg l => l.flatMap litV
  | x => litV x
def aggV {H : Type} : DataW H → Array Value
  | .agg l => (l.flatMap litW).toArray
  | _ => #[]
def layAt (g : Nat) (cs : Array Value) (h : Array Obj) : Array Obj := h.modify g fun
  | .cells _ t frozen => .cells cs t frozen
  | o => o
noncomputable def low : Nat := (World.holding Tryd.prog default ⟨#[], #[], []⟩).heap.size
abbrev synS : ByteArray := { data := #[105, 110, 118, 97, 108, 105, 100, 32, 115, 121, 110, 116, 97, 120] }
abbrev rngS : ByteArray := { data := #[118, 97, 108, 117, 101, 32, 111, 117, 116, 32, 111, 102, 32, 114, 97, 110, 103, 101] }
noncomputable def laidWorld (os : Os) : World :=
  let w0 := World.holding Tryd.prog os ⟨#[.cells #[.string synS] 118, .cells #[.string rngS] 118], #[], []⟩
  { w0 with heap := layAt 5 (aggV (Rows.laid_internal_strconv_uint64pow10 : DataW Unit)) (layAt 6 (aggV (Rows.laid_math_bits_deBruijn32tab : DataW Unit)) (layAt 7 (aggV (Rows.laid_math_bits_deBruijn64tab : DataW Unit))
      (layAt 4 (aggV (Rows.laid_unicode_utf8_acceptRanges : DataW Unit)) (layAt 3 (aggV (Rows.laid_unicode_utf8_first : DataW Unit))
        (layAt 0 #[.iface 116 (.pointer (some ⟨low, 0, none⟩))] (layAt 1 #[.iface 116 (.pointer (some ⟨low + 1, 0, none⟩))] w0.heap)))))) }
theorem laid_met7 (os : Os) (args : Array Value) : laidMet Tryd.prog Rows.blocksPlainRow.laid ((laidWorld os).forCall (fun _ _ => 0) ⟨#[], args, []⟩).memory :=
  laidMet_of_run' 8 (by kernel_rfl) (by kernel_rfl)
end Go.Proofs.YtiffmdfchibpaaaDoor
