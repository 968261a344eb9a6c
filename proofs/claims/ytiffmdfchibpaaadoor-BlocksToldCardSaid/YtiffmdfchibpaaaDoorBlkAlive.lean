/-
  toolchestlaw11.alive: its contract: true.
-/
import Derived.Test.YtiffmdfchibpaaaDoorBlkRun
import Derived.Test.YtiffmdfchibpaaaDoorBlkSize
import Derived.Test.YtiffmdfchibpaaaDoorBlkEqFour
set_option linter.unusedVariables false
set_option linter.unusedSimpArgs false
namespace Go.Proofs.YtiffmdfchibpaaaDoor
open Go.RowKit

def pA1 : PlanV := ⟨2, 2, 0, 1, 1, true, false, false, false, false⟩
def pA2 : PlanV := ⟨4, 4, 0, -1, 0, false, false, true, false, true⟩
def pA3 : PlanV := ⟨4, 4, 0, -1, 0, false, true, false, false, false⟩
def pA4 : PlanV := ⟨0, 1, 0, 0, 0, false, false, false, false, false⟩
theorem rA1 : runRes (runV pA1 [97, 98, 99, 100] [49, 50, 51, 52, 53]) = .tuple #[.string { data := #[49, 50, 97, 98, 53] }, .agg #[.int .i64 1, .int .i64 0, .int .i64 1, .int .i64 0], .int .i64 0] := by kernel_rfl
theorem rA2 : runRes (runV pA2 [97, 98, 99, 100, 101] []) = .tuple #[.string { data := #[65, 66, 67, 68, 69, 0, 0, 0] }, .agg #[.int .i64 1, .int .i64 1, .int .i64 2, .int .i64 0], .int .i64 0] := by kernel_rfl
theorem rA3 : runRes (runV pA3 [97, 98, 99, 100, 101] [120]) = .tuple #[.string { data := #[98, 97, 100, 99, 101] }, .agg #[.int .i64 1, .int .i64 1, .int .i64 1, .int .i64 1], .int .i64 0] := by kernel_rfl
theorem rA4 : runRes (runV pA4 [] []) = .tuple #[.string { data := #[] }, .agg #[.int .i64 0, .int .i64 0, .int .i64 0, .int .i64 0], .int .i64 1] := by kernel_rfl
theorem sA : sizeOk (sizeB [50, 107]).1 (sizeB [50, 107]).2 = true ∧ decV (sizeB [50, 107]).1 * (sizeB [50, 107]).2 = 2048 := by decide +kernel
set_option maxRecDepth 100000 in
set_option maxHeartbeats 4000000 in
theorem balive_any (w : World) :
    Calls Tryd.prog 9 #[] w fun e w' => e = .returned (.bool true) ∧ Below w.heap.size w w' := by
  obtain ⟨i0, hi0, hz0, hz1, hz2⟩ := info_parts infoFour
  go_enter Tryd.func9, Tryd.ntmps9
  go_wp2_with (refine wpList_alloc_any _ rfl 27 rfl i0 _ hi0 hz0 ?_)
  refine (run_any pA1 [97, 98, 99, 100] [49, 50, 51, 52, 53] _ (by decide) (by decide)).mono ?_
  rintro e w1 ⟨he, hB1⟩
  rw [rA1] at he
  subst he
  have b1 : Below w.heap.size w w1 := hB1
  go_wp2_with (refine wpList_alloc_any _ rfl 27 rfl i0 _ hi0 hz0 ?_)
  refine (run_any pA2 [97, 98, 99, 100, 101] [] _ (by decide) (by decide)).mono ?_
  rintro e w2 ⟨he, hB2⟩
  rw [rA2] at he
  subst he
  have s2 : w1.heap.size < w2.heap.size := by have := hB2.size; simp at this; omega
  have k2 : Blk w2 w1.heap.size 27 #[.int .i64 1, .int .i64 0, .int .i64 1, .int .i64 0] := (Blk.new w1 27 _).below hB2 (by simp)
  have b2 : Below w.heap.size w w2 := (b1.alloc b1.size _).trans (hB2.mono (by have := b1.size; simp; omega))
  clear hB1 hB2
  go_wp2_with (refine wpList_alloc_any _ rfl 27 rfl i0 _ hi0 hz0 ?_)
  refine (run_any pA3 [97, 98, 99, 100, 101] [120] _ (by decide) (by decide)).mono ?_
  rintro e w3 ⟨he, hB3⟩
  rw [rA3] at he
  subst he
  have s3 : w2.heap.size < w3.heap.size := by have := hB3.size; simp at this; omega
  have k3 : Blk w3 w1.heap.size 27 #[.int .i64 1, .int .i64 0, .int .i64 1, .int .i64 0] := (k2.alloc _).below hB3 (by simp; omega)
  have m3 : Blk w3 w2.heap.size 27 #[.int .i64 1, .int .i64 1, .int .i64 2, .int .i64 0] := (Blk.new w2 27 _).below hB3 (by simp)
  have b3 : Below w.heap.size w w3 := (b2.alloc b2.size _).trans (hB3.mono (by have := b2.size; simp; omega))
  clear hB3 k2
  go_wp2_with (refine wpList_alloc_any _ rfl 27 rfl i0 _ hi0 hz0 ?_)
  refine (run_any pA4 [] [] _ (by decide) (by decide)).mono ?_
  rintro e w4 ⟨he, hB4⟩
  rw [rA4] at he
  subst he
  have s4 : w3.heap.size < w4.heap.size := by have := hB4.size; simp at this; omega
  have k4 : Blk w4 w1.heap.size 27 #[.int .i64 1, .int .i64 0, .int .i64 1, .int .i64 0] := (k3.alloc _).below hB4 (by simp; omega)
  have m4 : Blk w4 w2.heap.size 27 #[.int .i64 1, .int .i64 1, .int .i64 2, .int .i64 0] := (m3.alloc _).below hB4 (by simp; omega)
  have b4 : Below w.heap.size w w4 := (b3.alloc b3.size _).trans (hB4.mono (by have := b3.size; simp; omega))
  clear hB4 k3 m3
  go_wp2_with (refine wpList_alloc_any _ rfl 27 rfl i0 _ hi0 hz0 ?_)
  refine (size_any [50, 107] _ (by decide)).mono ?_
  rintro e w5 ⟨he, hB5⟩
  unfold SizeIs at he
  rw [if_pos sA.1, sA.2, sA.1] at he
  subst he
  have k5 : Blk w5 w1.heap.size 27 #[.int .i64 1, .int .i64 0, .int .i64 1, .int .i64 0] := (k4.alloc _).below hB5 (by simp; omega)
  have m5 : Blk w5 w2.heap.size 27 #[.int .i64 1, .int .i64 1, .int .i64 2, .int .i64 0] := (m4.alloc _).below hB5 (by simp; omega)
  have b5 : Below w.heap.size w w5 := (b4.alloc b4.size _).trans (hB5.mono (by have := b4.size; simp; omega))
  clear hB5 k4 m4
  have c0 := k5.cell 0
  have c1 := k5.cell 1
  have c2 := k5.cell 2
  have c3 := k5.cell 3
  have d0 := m5.cell 0
  have d1 := m5.cell 1
  have d2 := m5.cell 2
  have d3 := m5.cell 3
  simp at c0 c1 c2 c3 d0 d1 d2 d3
  have q1 : ∀ w, (Op.equalIn 10000 27 (.agg #[.int .i64 1, .int .i64 0, .int .i64 1, .int .i64 0]) (.agg #[.int .i64 1, .int .i64 0, .int .i64 1, .int .i64 0])).run Tryd.prog w = .ok true w := eq_four 9998 _ _ _ _ _ _ _ _
  have q2 : ∀ w, (Op.equalIn 10000 27 (.agg #[.int .i64 1, .int .i64 1, .int .i64 2, .int .i64 0]) (.agg #[.int .i64 1, .int .i64 1, .int .i64 2, .int .i64 0])).run Tryd.prog w = .ok true w := eq_four 9998 _ _ _ _ _ _ _ _
  go_wp2_with fail
  go_ret
  exact ⟨rfl, b5⟩
end Go.Proofs.YtiffmdfchibpaaaDoor
