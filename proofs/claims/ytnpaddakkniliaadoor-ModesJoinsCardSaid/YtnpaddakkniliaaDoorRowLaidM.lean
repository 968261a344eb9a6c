/-
  The library's variables that the rows list: a world that holds them. No condition of a claim stands here.
-/
import Derived.Test.YtnpaddakkniliaaDoorTie
import Derived.Test.YtnpaddakkniliaaDoorFmt8
import Derived.Test.YtnpaddakkniliaaDoorShelf
import Derived.WalkKit
import Derived.ProofKit
import Derived.OpenShut
import Derived.LaidLaws
import Derived.Deep.DeepHandedRow
import Derived.Lib.LaidTab
import Derived.Stop.LaidErr
namespace Go.Proofs.YtnpaddakkniliaaDoor
open Go.ChangeShapes Go.WideShapes Go.ChangeAt Go.RowKit

theorem knob : ownKnob Tryd.prog.godebug = none := by kernel_rfl
/-! ### A world for the witness -/
def litV {H : Type} : DataW H → List Value
  | .lit (.int k z) => [.int k z]
  | _ => []
def litW {H : Type} : DataW H → List Value
  | .agg l => l.flatMap litV
  | x => litV x
def aggV {H : Type} : DataW H → Array Value
  | .agg l => (l.flatMap litW).toArray
  | _ => #[]
def layAt (g : Nat) (cs : Array Value) (h : Array Obj) : Array Obj := h.modify g fun
  | .cells _ t frozen => .cells cs t frozen
  | o => o
noncomputable def low : Nat := (World.holding Tryd.prog default ⟨#[], #[], []⟩).heap.size
abbrev synS : ByteArray := { data := #[105, 110, 118, 97, 108, 105, 100, 32, 115, 121, 110, 116, 97, 120] }
abbrev rngS : ByteArray := { data := #[118, 97, 108, 117, 101, 32, 111, 117, 116, 32, 111, 102, 32, 114, 97, 110, 103, 101] }
noncomputable def laidWorld (os : Os) : World :=
  let w0 := World.holding Tryd.prog os ⟨#[.cells #[.string synS] 118, .cells #[.string rngS] 118], #[], []⟩
  { w0 with heap := layAt 0 (aggV (Rows.laid_internal_strconv_uint64pow10 : DataW Unit)) (layAt 6 (aggV (Rows.laid_math_bits_deBruijn32tab : DataW Unit)) (layAt 7 (aggV (Rows.laid_math_bits_deBruijn64tab : DataW Unit))
      (layAt 5 (aggV (Rows.laid_unicode_utf8_acceptRanges : DataW Unit)) (layAt 4 (aggV (Rows.laid_unicode_utf8_first : DataW Unit))
        (layAt 1 #[.iface 116 (.pointer (some ⟨low, 0, none⟩))] (layAt 2 #[.iface 116 (.pointer (some ⟨low + 1, 0, none⟩))] w0.heap)))))) }
theorem laid_met7 (os : Os) (args : Array Value) : laidMet Tryd.prog Rows.modesOneRow.laid ((laidWorld os).forCall (fun _ _ => 0) ⟨#[], args, []⟩).memory :=
  laidMet_of_run' 8 (by kernel_rfl) (by kernel_rfl)
theorem laid_met3 (os : Os) (args : Array Value) : laidMet Tryd.prog Rows.modesTellsRow.laid ((laidWorld os).forCall (fun _ _ => 0) ⟨#[], args, []⟩).memory :=
  laidMet_of_run' 8 (by kernel_rfl) (by kernel_rfl)

/-! ### The rows' list, as the walks take it -/
def db64 : List Int := [0, 1, 56, 2, 57, 49, 28, 3, 61, 58, 42, 50, 38, 29, 17, 4, 62, 47, 59, 36, 45, 43, 51, 22, 53, 39, 33, 30, 24, 18, 12, 5, 63, 55, 48, 27, 60, 41, 37, 16, 46, 35, 44, 21, 52, 32, 23, 11, 54, 26, 40, 15, 34, 20, 31, 10, 25, 14, 19, 9, 13, 8, 7, 6]
theorem gDb : Tryd.prog.globalNamed "math/bits.deBruijn64tab" = some 7 := by kernel_rfl
theorem gDbType : (Tryd.prog.globals[7]?).map (·.type) = some 120 := by kernel_rfl
theorem cellsDb : Tryd.prog.cellsOf 120 = 64 := by kernel_rfl
theorem cellsU8 : Tryd.prog.cellsOf 5 = 1 := by kernel_rfl
theorem dbData : (Rows.laid_math_bits_deBruijn64tab : DataW Unit) = Lib.tabData .u8 db64 := by kernel_rfl
theorem db_of {W : World} {r : List (String × DataW Unit)} (h : laidMet Tryd.prog (("math/bits.deBruijn64tab", Rows.laid_math_bits_deBruijn64tab) :: r) W) : W.cell? ⟨7, 7, none⟩ = some (.int .u8 3) := by
  rw [dbData] at h
  have ht := Lib.tabIs_of_head gDb gDbType Tryd.underlying120 Tryd.underlying5 cellsU8 cellsDb h
  exact ht.cell gDb 7 (by decide)
theorem star_err : "*" ++ "errors.errorString" = "*errors.errorString" := by decide
theorem row_err (u : TypeId) (h : Tryd.prog.typeName? 3 u = some "*errors.errorString") : u = 116 :=
  typeName_ptr_named (nm := "errors.errorString") (by rw [star_err]; kernel_rfl) (by kernel_rfl) (by decide) u (by rw [star_err]; exact h)
theorem gRng : Tryd.prog.globalNamed "strconv.ErrRange" = some 2 := by kernel_rfl
theorem gRngType : (Tryd.prog.globals[2]?).map (·.type) = some 53 := by kernel_rfl
theorem cellsErr : Tryd.prog.cellsOf 118 = 1 := by kernel_rfl
theorem cellsStr : Tryd.prog.cellsOf 9 = 1 := by kernel_rfl
theorem env_of {W : World} (h : laidMet Tryd.prog Rows.modesOneRow.laid W) (hS : W.ShapedOpen Tryd.prog) : EnvM W.heap.size W := by
  have h1 := h.tail
  have h4 := h1.tail.tail.tail
  obtain ⟨a1, s1, hv1, _⟩ := laid_sentinel h4 gRng gRngType Tryd.underlying53 row_err Tryd.underlying116 Tryd.underlying118 rfl rfl Tryd.underlying9 cellsErr cellsStr
  have c1 : W.cell? ⟨2, 0, none⟩ = some (.iface 116 (.pointer (some a1))) := by simpa using World.var?_cell gRng hv1 0
  have c7 := db_of h1
  refine ⟨⟨_, _, c1⟩, ?_, c7, Nat.le_refl _, ?_⟩
  · exact Go.Proofs.cell_of_shapedOpen_int (zero := #[.int .i64 0]) (t := 3) hS (of_decide_eq_true (by kernel_rfl)) (by kernel_rfl) rfl (by kernel_rfl) (by kernel_rfl) Tryd.underlying3
  · exact World.block_lt_of_cell? _ _ c7
end Go.Proofs.YtnpaddakkniliaaDoor
