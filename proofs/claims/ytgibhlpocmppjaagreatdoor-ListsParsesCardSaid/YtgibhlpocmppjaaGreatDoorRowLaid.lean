/-
  The library's variables that the rows list: a world that holds them; the tables out of the rows' list. No condition of a claim stands here.
-/
import Derived.Test.YtgibhlpocmppjaaGreatDoorTie
import Derived.Test.YtgibhlpocmppjaaGreatDoorLstPlace
import Derived.WalkKit
import Derived.ProofKit
import Derived.OpenShut
import Derived.LaidLaws
import Derived.Deep.DeepHandedRow
import Derived.Lib.LaidTab
import Derived.Stop.LaidErr
namespace Go.Proofs.YtgibhlpocmppjaaGreatDoor
open Go.ChangeShapes Go.WideShapes Go.ChangeAt Go.RowKit

theorem knob : ownKnob Tryz.prog.godebug = none := by kernel_rfl
theorem gPow : Tryz.prog.globalNamed "internal/strconv.uint64pow10" = some 5 := by kernel_rfl
theorem gPowType : (Tryz.prog.globals[5]?).map (·.type) = some 179 := by kernel_rfl
theorem cellsPow : Tryz.prog.cellsOf 179 = 20 := by kernel_rfl
theorem cellsU64 : Tryz.prog.cellsOf 161 = 1 := by kernel_rfl
theorem powData : (Rows.laid_internal_strconv_uint64pow10 : DataW Unit) = Lib.tabData .u64 Lib.pow10Tab := by kernel_rfl
theorem pow_of {W : World} {r : List (String × DataW Unit)} (h : laidMet Tryz.prog (("internal/strconv.uint64pow10", Rows.laid_internal_strconv_uint64pow10) :: r) W) : Lib.TabIs Tryz.prog W "internal/strconv.uint64pow10" .u64 Lib.pow10Tab := by
  rw [powData] at h
  exact Lib.tabIs_of_head gPow gPowType Tryz.underlying179 Tryz.underlying161 cellsU64 cellsPow h

/-! ### A world for the witness -/
def litV {H : Type} : DataW H → List Value
  | .lit (.int k z) => [.int k z]
  | _ => []
def litW {H : Type} : DataW H → List Value
  | .agg l => l.flatMap litV
  | x => litV x
def aggV {H : Type} : DataW H → Array Value
  | .agg l => (l.flatMap litW).toArray
  | _ => #[]
def layAt (g : Nat) (cs : Array Value) (h : Array Obj) : Array Obj := h.modify g fun
  | .cells _ t frozen => .cells cs t frozen
  | o => o
noncomputable def low : Nat := (World.holding Tryz.prog default ⟨#[], #[], []⟩).heap.size
abbrev synS : ByteArray := { data := #[105, 110, 118, 97, 108, 105, 100, 32, 115, 121, 110, 116, 97, 120] }
abbrev rngS : ByteArray := { data := #[118, 97, 108, 117, 101, 32, 111, 117, 116, 32, 111, 102, 32, 114, 97, 110, 103, 101] }
noncomputable def laidWorld (os : Os) : World :=
  let w0 := World.holding Tryz.prog os ⟨#[.cells #[.string synS] 177, .cells #[.string rngS] 177], #[], []⟩
  { w0 with heap := layAt 5 (aggV (Rows.laid_internal_strconv_uint64pow10 : DataW Unit)) (layAt 6 (aggV (Rows.laid_math_bits_deBruijn32tab : DataW Unit)) (layAt 7 (aggV (Rows.laid_math_bits_deBruijn64tab : DataW Unit))
      (layAt 2 (aggV (Rows.laid_unicode_utf8_acceptRanges : DataW Unit)) (layAt 1 (aggV (Rows.laid_unicode_utf8_first : DataW Unit))
        (layAt 3 #[.iface 175 (.pointer (some ⟨low, 0, none⟩))] (layAt 4 #[.iface 175 (.pointer (some ⟨low + 1, 0, none⟩))] w0.heap)))))) }
theorem laid_met7 (os : Os) (args : Array Value) : laidMet Tryz.prog Rows.listsParsesRow.laid ((laidWorld os).forCall (fun _ _ => 0) ⟨#[], args, []⟩).memory :=
  laidMet_of_run' 8 (by kernel_rfl) (by kernel_rfl)

/-! ### The rows' list, as the walks take it -/
theorem star_err : "*" ++ "errors.errorString" = "*errors.errorString" := by decide
theorem row_err (u : TypeId) (h : Tryz.prog.typeName? 3 u = some "*errors.errorString") : u = 175 :=
  typeName_ptr_named (nm := "errors.errorString") (by rw [star_err]; kernel_rfl) (by kernel_rfl) (by decide) u (by rw [star_err]; exact h)
theorem gSyn : Tryz.prog.globalNamed "strconv.ErrSyntax" = some 3 := by kernel_rfl
theorem gRng : Tryz.prog.globalNamed "strconv.ErrRange" = some 4 := by kernel_rfl
theorem gSynType : (Tryz.prog.globals[3]?).map (·.type) = some 142 := by kernel_rfl
theorem gRngType : (Tryz.prog.globals[4]?).map (·.type) = some 142 := by kernel_rfl
theorem cellsErr : Tryz.prog.cellsOf 177 = 1 := by kernel_rfl
theorem cellsStr : Tryz.prog.cellsOf 9 = 1 := by kernel_rfl
theorem env_of {W : World} (h : laidMet Tryz.prog Rows.listsParsesRow.laid W) (hS : W.ShapedOpen Tryz.prog) : Env W.heap.size W := by
  have h1 := h.tail.tail
  have h2 := h1.tail.tail
  obtain ⟨a1, s1, hv1, _⟩ := laid_sentinel h2 gRng gRngType Tryz.underlying142 row_err Tryz.underlying175 Tryz.underlying177 rfl rfl Tryz.underlying9 cellsErr cellsStr
  obtain ⟨a2, s2, hv2, _⟩ := laid_sentinel h2.tail gSyn gSynType Tryz.underlying142 row_err Tryz.underlying175 Tryz.underlying177 rfl rfl Tryz.underlying9 cellsErr cellsStr
  have c1 : W.cell? ⟨4, 0, none⟩ = some (.iface 175 (.pointer (some a1))) := by simpa using World.var?_cell gRng hv1 0
  have c2 : W.cell? ⟨3, 0, none⟩ = some (.iface 175 (.pointer (some a2))) := by simpa using World.var?_cell gSyn hv2 0
  refine ⟨Lib.tabBelow_of_tabIs (pow_of h1), ⟨_, _, c2⟩, ⟨_, _, c1⟩, ?_, Nat.le_refl _, ?_⟩
  · exact Go.Proofs.cell_of_shapedOpen_int (zero := #[.int .i64 0]) (t := 3) hS (of_decide_eq_true (by kernel_rfl)) (by kernel_rfl) rfl (by kernel_rfl) (by kernel_rfl) Tryz.underlying3
  · obtain ⟨cs, hh, _⟩ := hS.1 7 (Array.replicate 64 (.int .u8 0)) 185 (of_decide_eq_true (by kernel_rfl)) (by kernel_rfl)
    exact (Array.getElem?_eq_some_iff.1 hh).1
end Go.Proofs.YtgibhlpocmppjaaGreatDoor
