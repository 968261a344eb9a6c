/-
  modes.ops: its contract.
-/
import Derived.Test.YtnpaddakkniliaaDoorBytes
import Derived.Test.YtnpaddakkniliaaDoorMaps
namespace Go.Proofs.YtnpaddakkniliaaDoor
open Go.RowKit
def opsL : List (Int × Value) := [(43, .func (.func 41) #[] #[]), (45, .func (.func 42) #[] #[]), (61, .func (.func 43) #[] #[])]
set_option maxHeartbeats 400000 in
theorem ops_any (w : World) :
    Calls Tryd.prog 27 #[] w fun e w' => e = .returned (.map (some w.heap.size)) ∧ MapI w' w.heap.size .u8 opsL ∧ Below w.heap.size w w' := by
  have hmm := @run_makeMap Tryd.prog
  have h0 := MapI.new w .u8
  go_enter Tryd.func27, Tryd.ntmps27
  go_wp2_with (first
    | (refine wpList_insertI rfl (.tmp 1) (.const (.int .u8 43)) (.func 41) 59 rfl h0 5 57 Tryd.underlying59 Tryd.underlying5 43 _ rfl rfl rfl rfl ?_; intro w1 h1 g1 s1)
    | (refine wpList_insertI rfl (.tmp 1) (.const (.int .u8 45)) (.func 42) 59 rfl h1 5 57 Tryd.underlying59 Tryd.underlying5 45 _ rfl rfl rfl rfl ?_; intro w2 h2 g2 s2)
    | (refine wpList_insertI rfl (.tmp 1) (.const (.int .u8 61)) (.func 43) 59 rfl h2 5 57 Tryd.underlying59 Tryd.underlying5 61 _ rfl rfl rfl rfl ?_; intro w3 h3 g3 s3))
  go_ret
  refine ⟨rfl, h3, ?_⟩
  have b0 : Below w.heap.size w (w.alloc (.map #[] 0)) := (Below.refl _ _).alloc (Nat.le_refl _) _
  simp at s1
  exact ((b0.grown g1 (by simp) (fun k e => by cases e; exact Nat.le_refl _)).grown g2 (by omega) (fun k e => by cases e; exact Nat.le_refl _)).grown g3 (by omega) (fun k e => by cases e; exact Nat.le_refl _)
end Go.Proofs.YtnpaddakkniliaaDoor
