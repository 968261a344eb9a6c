/-
  Small things that the rows' last steps share. No condition of a claim stands here.
-/
import Derived.WalkKit
import Derived.ProofKit
import Derived.OpenShut
import Derived.ShutString
import Derived.ChangeOld
import Derived.Below
import Derived.SizedLaws
import Derived.ChangeSlices
namespace Go.Proofs.YtiffmdfchibpaaaDoor
open Go.RowKit
theorem byte_of {a : Int} (h : (Lit.int .u8 a).wf = true) : ∃ x : UInt8, a = (x.toNat : Int) := by
  have hmin : IntKind.u8.min = 0 := rfl
  have hmax : IntKind.u8.max = 255 := rfl
  simp only [Lit.wf, Bool.and_eq_true, decide_eq_true_eq, hmin, hmax] at h
  refine ⟨UInt8.ofNat a.toNat, ?_⟩
  rw [show (UInt8.ofNat a.toNat).toNat = a.toNat from by simp; omega]
  omega
end Go.Proofs.YtiffmdfchibpaaaDoor
