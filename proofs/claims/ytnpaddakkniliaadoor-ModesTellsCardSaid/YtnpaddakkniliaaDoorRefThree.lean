/-
  toolchestref10.three: its contract.
-/
import Derived.Test.YtnpaddakkniliaaDoorBytes
import Derived.Test.YtnpaddakkniliaaDoorModePlain
namespace Go.Proofs.YtnpaddakkniliaaDoor
open Go.RowKit

theorem infoThree : (Tryd.prog.info? 48).map (fun i => (i.zero, i.size, i.bytes)) = some (some (.agg #[.int .i64 0, .int .i64 0, .int .i64 0]), 3, 24) := by kernel_rfl
def tri (a b c : Nat) : Value := .agg #[.int .i64 (a : Int), .int .i64 (b : Int), .int .i64 (c : Int)]
set_option maxRecDepth 10000 in
set_option maxHeartbeats 400000 in
theorem three_any (m : Nat) (w : World) (hm : m < 9223372036854775808) :
    Calls Tryd.prog 22 #[.int .i64 (m : Int)] w fun e w' => e = .returned (tri (m / 2 ^ 6 % 8) (m / 2 ^ 3 % 8) (m % 8)) ∧ Below w.heap.size w w' := by
  obtain ⟨i0, hi0, hz0, hz1, hz2⟩ := info_parts infoThree
  have h6 : bits .and .i64 ((m : Int) / 64) 7 = ((m / 2 ^ 6 % 8 : Nat) : Int) := by rw [and7]; simp
  have h3 : bits .and .i64 ((m : Int) / 8) 7 = ((m / 2 ^ 3 % 8 : Nat) : Int) := by rw [and7]; simp
  have h0 : bits .and .i64 (m : Int) 7 = ((m % 8 : Nat) : Int) := by rw [and7]; simp
  go_enter Tryd.func22, Tryd.ntmps22
  go_wp2_with (refine wpList_alloc_any _ rfl 48 rfl i0 _ hi0 hz0 ?_)
  refine bodyPost_ret (v := tri (m / 2 ^ 6 % 8) (m / 2 ^ 3 % 8) (m % 8)) (by
    rw [results_cell_row rfl _ _ w.heap.size 48 _ (0, 0) _ rfl (heap_alloc_new w _) Tryd.underlying48 rfl rfl]
    simp [tri]) rfl ⟨rfl, (Below.refl _ _).alloc (Nat.le_refl _) _⟩
end Go.Proofs.YtnpaddakkniliaaDoor
