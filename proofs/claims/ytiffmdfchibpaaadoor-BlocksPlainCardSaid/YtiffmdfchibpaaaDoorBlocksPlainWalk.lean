/-
  BlocksPlain: the law's walk.
-/
import Derived.Test.YtiffmdfchibpaaaDoorBlkAlive
set_option linter.unusedVariables false
set_option linter.unusedSimpArgs false
namespace Go.Proofs.YtiffmdfchibpaaaDoor
open Go.RowKit

theorem str_appB (a b : List UInt8) : str a ++ str b = str (a ++ b) := by
  apply ByteArray.ext
  apply Array.ext'
  rw [ByteArray.data_append]
  simp [str]
/-- A law's own plan: its block, at whatever world it lies in. -/
theorem runRes_eq (r : RunV) : runRes r = .tuple #[.string (str r.text), .agg #[.int .i64 (r.n0 : Int), .int .i64 (r.n1 : Int), .int .i64 (r.n2 : Int), .int .i64 (r.n3 : Int)], .int .i64 (r.err : Int)] := rfl
set_option maxRecDepth 100000 in
set_option maxHeartbeats 8000000 in
theorem blocksPlain_walk (s t : ByteArray) (a b : Nat) (w : World) (hz1 : s.size ≤ 140737488351232) (hz2 : t.size ≤ 140737488351232) (ha : a < 65536) (hb : b < 65536) :
    Calls Tryd.prog 3 #[.string s, .string t, .agg #[.int .u16 (a : Int), .int .u16 (b : Int)]] w fun e w' => e = .returned (.bool true) ∧ Below w.heap.size w w' := by
  obtain ⟨L1, rfl⟩ : ∃ L, s = str L := ⟨_, str_of s⟩
  obtain ⟨L2, rfl⟩ : ∃ L, t = str L := ⟨_, str_of t⟩
  obtain ⟨i0, hi0, hy0, hy1, hy2⟩ := info_parts infoFour
  have hs1 := str_size L1
  have hs2 := str_size L2
  obtain ⟨n1, hn1⟩ : ∃ n, n = L1.length := ⟨_, rfl⟩
  obtain ⟨n2, hn2⟩ : ∃ n, n = L2.length := ⟨_, rfl⟩
  rw [← hn1] at hs1
  rw [← hn2] at hs2
  rw [hs1] at hz1
  rw [hs2] at hz2
  have HN1 := Lib.hid hn1
  have HN2 := Lib.hid hn2
  clear hn1 hn2
  have b0 : Below w.heap.size w (w.alloc (.cells #[.int .u16 (a : Int), .int .u16 (b : Int)] 23)) := (Below.refl _ _).alloc (Nat.le_refl _) _
  have k0 := Blk.new w 23 #[.int .u16 (a : Int), .int .u16 (b : Int)]
  go_enter Tryd.func3, Tryd.ntmps3
  go_wp2_with fail
  refine (balive_any _).mono ?_
  rintro e w1 ⟨rfl, hB1⟩
  have k1 := k0.below hB1 (by simp)
  have b1 := below_then b0 b0.size hB1
  have hs3 : w.heap.size < w1.heap.size := by have := hB1.size; simp at this; omega
  clear b0 k0 hB1
  by_cases hbd : 100000 < n1
  · have hI : (100000 : Int) < (n1 : Int) := by omega
    go_wp2_with fail
    refine (balive_any w1).mono ?_
    rintro e w2 ⟨rfl, hB2⟩
    go_wp2_with fail
    go_ret
    exact ⟨rfl, below_then b1 b1.size hB2⟩
  have hI1 : ¬ (100000 : Int) < (n1 : Int) := by omega
  by_cases hbd2 : 100000 < n2
  · have hI : (100000 : Int) < (n2 : Int) := by omega
    go_wp2_with fail
    refine (balive_any w1).mono ?_
    rintro e w2 ⟨rfl, hB2⟩
    go_wp2_with fail
    go_ret
    exact ⟨rfl, below_then b1 b1.size hB2⟩
  have hI2 : ¬ (100000 : Int) < (n2 : Int) := by omega
  have f0 : w1.cell? ⟨w.heap.size, 0, none⟩ = some (.int .u16 (a : Int)) := k1.cell 0
  have f1 : w1.cell? ⟨w.heap.size, 1, none⟩ = some (.int .u16 (b : Int)) := k1.cell 1
  have hp := planP_run a b false L1 L2 ha hb (by rw [← HN1.out]; omega) (by rw [← HN2.out]; omega)
  have hq := planP_run a b true L1 L2 ha hb (by rw [← HN1.out]; omega) (by rw [← HN2.out]; omega)
  obtain ⟨rp, hrp⟩ : ∃ r, r = runV (planP a b false) L1 L2 := ⟨_, rfl⟩
  obtain ⟨rq, hrq⟩ : ∃ r, r = runV (planP a b true) L1 L2 := ⟨_, rfl⟩
  have HP := Lib.hid (show runRes (runV (planP a b false) L1 L2) = .tuple #[.string (str L1), .agg #[.int .i64 (rp.n0 : Int), .int .i64 (rp.n1 : Int), .int .i64 (rp.n2 : Int), .int .i64 (rp.n3 : Int)], .int .i64 0] from by rw [← hrp, runRes_eq, hrp, hp.1, hp.2]; rfl)
  have HQ := Lib.hid (show runRes (runV (planP a b true) L1 L2) = .tuple #[.string (str (L1 ++ L2.drop L1.length)), .agg #[.int .i64 (rq.n0 : Int), .int .i64 (rq.n1 : Int), .int .i64 (rq.n2 : Int), .int .i64 (rq.n3 : Int)], .int .i64 0] from by rw [← hrq, runRes_eq, hrq, hq.1, hq.2]; rfl)
  clear hp hq hrp hrq
  go_wp2_with (refine wpList_alloc_any _ rfl 27 rfl i0 _ hi0 hy0 ?_)
  refine (run_any (planP a b false) L1 L2 _ (by have := HN1.out; omega) (by have := HN2.out; omega)).mono ?_
  rw [HP.out]
  rintro e w2 ⟨rfl, hB⟩
  have hsz2 : w1.heap.size < w2.heap.size := by have := hB.size; simp at this; omega
  have k2 : Blk w2 w1.heap.size 26 #[.int .i64 ((a : Int) + 1), .int .i64 ((b : Int) + 1), .int .i64 0, .int .i64 (-1), .int .i64 0, .bool false, .bool false, .bool false, .bool false, .bool false] := (Blk.new w1 26 _).below hB (by simp)
  have b2 : Below w.heap.size w w2 := (b1.alloc (by omega) _).trans (hB.mono (by simp; omega))
  clear hB f0 f1
  have q0 := fun o => (k2.alloc o).cell 0
  have q1 := fun o => (k2.alloc o).cell 1
  have q2 := fun o => (k2.alloc o).cell 2
  have q3 := fun o => (k2.alloc o).cell 3
  have q4 := fun o => (k2.alloc o).cell 4
  have q5 := fun o => (k2.alloc o).cell 5
  have q6 := fun o => (k2.alloc o).cell 6
  have q7 := fun o => (k2.alloc o).cell 7
  have q8 := fun o => (k2.alloc o).cell 8
  have q9 := fun o => (k2.alloc o).cell 9
  simp at q0 q1 q2 q3 q4 q5 q6 q7 q8 q9
  have f5 := fun o => (k2.alloc o).frozen 5
  have q00 := fun o => ((k2.set_ 5 (.bool true)).alloc o).cell 0
  have q01 := fun o => ((k2.set_ 5 (.bool true)).alloc o).cell 1
  have q02 := fun o => ((k2.set_ 5 (.bool true)).alloc o).cell 2
  have q03 := fun o => ((k2.set_ 5 (.bool true)).alloc o).cell 3
  have q04 := fun o => ((k2.set_ 5 (.bool true)).alloc o).cell 4
  have q05 := fun o => ((k2.set_ 5 (.bool true)).alloc o).cell 5
  have q06 := fun o => ((k2.set_ 5 (.bool true)).alloc o).cell 6
  have q07 := fun o => ((k2.set_ 5 (.bool true)).alloc o).cell 7
  have q08 := fun o => ((k2.set_ 5 (.bool true)).alloc o).cell 8
  have q09 := fun o => ((k2.set_ 5 (.bool true)).alloc o).cell 9
  simp at q00 q01 q02 q03 q04 q05 q06 q07 q08 q09
  go_wp2_with (refine wpList_alloc_any _ rfl 27 rfl i0 _ hi0 hy0 ?_)
  refine (run_any (planP a b true) L1 L2 _ (by have := HN1.out; omega) (by have := HN2.out; omega)).mono ?_
  rw [HQ.out]
  rintro e w3 ⟨rfl, hB⟩
  have hsz3 : w2.heap.size < w3.heap.size := by have := hB.size; simp [World.setCell] at this; omega
  have b3 : Below w.heap.size w w3 := ((b2.setCell (p := ⟨w1.heap.size, 5, none⟩) (by show w.heap.size ≤ w1.heap.size; omega) _).alloc (by simp [World.setCell]; omega) _).trans (hB.mono (by simp [World.setCell]; omega))
  clear hB q0 q1 q2 q3 q4 q5 q6 q7 q8 q9 f5 q00 q01 q02 q03 q04 q05 q06 q07 q08 q09
  rcases Nat.lt_or_ge n1 n2 with hlt | hge
  · have hI : (n1 : Int) < (n2 : Int) := by omega
    have hE : str L1 ++ (str L2).extract n1 n2 = str (L1 ++ L2.drop L1.length) := by rw [← hs2, Go.Lib.Pa.extract_from (str L2) n1, HN1.out]; exact str_appB _ _
    go_wp2_with (refine wpList_alloc_any _ rfl 27 rfl i0 _ hi0 hy0 ?_)
    all_goals try rw [hE]
    go_ret
    exact ⟨rfl, b3.alloc (by omega) _⟩
  · have hI : ¬ (n1 : Int) < (n2 : Int) := by omega
    have hE : L1 ++ L2.drop L1.length = L1 := by rw [List.drop_eq_nil_of_le (by rw [← HN1.out, ← HN2.out]; exact hge), List.append_nil]
    rw [hE]
    go_wp2_with (refine wpList_alloc_any _ rfl 27 rfl i0 _ hi0 hy0 ?_)
    go_ret
    exact ⟨rfl, b3.alloc (by omega) _⟩
end Go.Proofs.YtiffmdfchibpaaaDoor
