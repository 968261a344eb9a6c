/-
  BlocksTwice: the law's walk. (Printed by gen/blktwice.py.)
-/
import Derived.Test.YtiffmdfchibpaaaDoorBlkAlive
set_option linter.unusedVariables false
set_option linter.unusedSimpArgs false
namespace Go.Proofs.YtiffmdfchibpaaaDoor
open Go.RowKit

theorem runRes_eqT (r : RunV) : runRes r = .tuple #[.string (str r.text), .agg #[.int .i64 (r.n0 : Int), .int .i64 (r.n1 : Int), .int .i64 (r.n2 : Int), .int .i64 (r.n3 : Int)], .int .i64 (r.err : Int)] := rfl
set_option maxRecDepth 100000 in
set_option maxHeartbeats 8000000 in
theorem blocksTwice_walk (s : ByteArray) (k : Nat) (w : World) (hz1 : s.size ≤ 140737488351232) (hk : k < 65536) :
    Calls Tryd.prog 5 #[.string s, .int .u16 (k : Int)] w fun e w' => e = .returned (.bool true) ∧ Below w.heap.size w w' := by
  obtain ⟨L, rfl⟩ : ∃ L, s = str L := ⟨_, str_of s⟩
  obtain ⟨i0, hi0, hy0, hy1, hy2⟩ := info_parts infoFour
  have hs1 := str_size L
  obtain ⟨n1, hn1⟩ : ∃ n, n = L.length := ⟨_, rfl⟩
  rw [← hn1] at hs1
  rw [hs1] at hz1
  have HN1 := Lib.hid hn1
  clear hn1
  go_enter Tryd.func5, Tryd.ntmps5
  go_wp2_with fail
  refine (balive_any _).mono ?_
  rintro e w1 ⟨rfl, b1⟩
  have hs3 := b1.size
  by_cases hbd : 50000 < n1
  · have hI : (50000 : Int) < (n1 : Int) := by omega
    go_wp2_with fail
    refine (balive_any w1).mono ?_
    rintro e w2 ⟨rfl, hB2⟩
    go_wp2_with fail
    go_ret
    exact ⟨rfl, below_then b1 b1.size hB2⟩
  have hI1 : ¬ (50000 : Int) < (n1 : Int) := by omega
  obtain ⟨ea, eb, ec, ed, ex, tb, td, la, lx, lc⟩ := twice_law k hk L (by have := HN1.out; omega)
  obtain ⟨ra, hra⟩ : ∃ r, r = runV (planT k true false false) L [] := ⟨_, rfl⟩
  obtain ⟨rc, hrc⟩ : ∃ r, r = runV (planT k false true false) L [] := ⟨_, rfl⟩
  obtain ⟨rx, hrx⟩ : ∃ r, r = runV (planT k false false true) L [] := ⟨_, rfl⟩
  rw [← hra] at ea eb tb la
  rw [← hrc] at ec ed td lc
  rw [← hrx] at ex td lx
  obtain ⟨rb, hrb⟩ : ∃ r, r = runV (planT k true false false) ra.text [] := ⟨_, rfl⟩
  obtain ⟨rd, hrd⟩ : ∃ r, r = runV (planT k false false true) rc.text [] := ⟨_, rfl⟩
  rw [← hrb] at eb tb
  rw [← hrd] at ed td
  have za := str_size ra.text
  have zx := str_size rx.text
  rw [la, ← HN1.out] at za
  rw [lx, ← HN1.out] at zx
  have HA := Lib.hid (show runRes (runV (planT k true false false) L []) = .tuple #[.string (str ra.text), .agg #[.int .i64 (ra.n0 : Int), .int .i64 (ra.n1 : Int), .int .i64 (ra.n2 : Int), .int .i64 (ra.n3 : Int)], .int .i64 0] from by rw [← hra, runRes_eqT, ea]; rfl)
  have HB := Lib.hid (show runRes (runV (planT k true false false) ra.text []) = .tuple #[.string (str L), .agg #[.int .i64 (rb.n0 : Int), .int .i64 (rb.n1 : Int), .int .i64 (rb.n2 : Int), .int .i64 (rb.n3 : Int)], .int .i64 0] from by rw [← hrb, runRes_eqT, eb, tb]; rfl)
  have HC := Lib.hid (show runRes (runV (planT k false true false) L []) = .tuple #[.string (str rc.text), .agg #[.int .i64 (rc.n0 : Int), .int .i64 (rc.n1 : Int), .int .i64 (rc.n2 : Int), .int .i64 (rc.n3 : Int)], .int .i64 0] from by rw [← hrc, runRes_eqT, ec]; rfl)
  have HD := Lib.hid (show runRes (runV (planT k false false true) rc.text []) = .tuple #[.string (str rx.text), .agg #[.int .i64 (rd.n0 : Int), .int .i64 (rd.n1 : Int), .int .i64 (rd.n2 : Int), .int .i64 (rd.n3 : Int)], .int .i64 0] from by rw [← hrd, runRes_eqT, ed, td]; rfl)
  have HX := Lib.hid (show runRes (runV (planT k false false true) L []) = .tuple #[.string (str rx.text), .agg #[.int .i64 (rx.n0 : Int), .int .i64 (rx.n1 : Int), .int .i64 (rx.n2 : Int), .int .i64 (rx.n3 : Int)], .int .i64 0] from by rw [← hrx, runRes_eqT, ex]; rfl)
  have HLA := Lib.hid la
  have HLC := Lib.hid lc
  clear ea eb ec ed ex tb td la lx lc hra hrb hrc hrd hrx
  go_wp2_with (refine wpList_alloc_any _ rfl 27 rfl i0 _ hi0 hy0 ?_)
  refine (run_any (planT k true false false) L [] _ (by have := HN1.out; have := HLA.out; have := HLC.out; omega) (by simp)).mono ?_
  rw [HA.out]
  rintro e w2 ⟨rfl, hB⟩
  have hsz2 : w1.heap.size < w2.heap.size := by have := hB.size; simp at this; omega
  have k2 : Blk w2 w1.heap.size 26 #[.int .i64 ((k : Int) + 1), .int .i64 7, .int .i64 0, .int .i64 (-1), .int .i64 0, .bool false, .bool true, .bool false, .bool false, .bool false] := (Blk.new w1 26 _).below hB (by simp)
  have b2 : Below w.heap.size w w2 := (b1.alloc (by omega) _).trans (hB.mono (by simp; omega))
  clear hB 
  have q0 := fun o => (k2.alloc o).cell 0
  have q1 := fun o => (k2.alloc o).cell 1
  have q2 := fun o => (k2.alloc o).cell 2
  have q3 := fun o => (k2.alloc o).cell 3
  have q4 := fun o => (k2.alloc o).cell 4
  have q5 := fun o => (k2.alloc o).cell 5
  have q6 := fun o => (k2.alloc o).cell 6
  have q7 := fun o => (k2.alloc o).cell 7
  have q8 := fun o => (k2.alloc o).cell 8
  have q9 := fun o => (k2.alloc o).cell 9
  simp at q0 q1 q2 q3 q4 q5 q6 q7 q8 q9
  have f6 := fun o => (k2.alloc o).frozen 6
  have f7 := fun o => (k2.alloc o).frozen 7
  have f8 := fun o => (k2.alloc o).frozen 8
  go_wp2_with (refine wpList_alloc_any _ rfl 27 rfl i0 _ hi0 hy0 ?_)
  refine (run_any (planT k true false false) ra.text [] _ (by have := HN1.out; have := HLA.out; have := HLC.out; omega) (by simp)).mono ?_
  rw [HB.out]
  rintro e w3 ⟨rfl, hB⟩
  have hsz3 : w1.heap.size < w3.heap.size := by have := hB.size; simp [World.setCell] at this; omega
  have k3 : Blk w3 w1.heap.size 26 #[.int .i64 ((k : Int) + 1), .int .i64 7, .int .i64 0, .int .i64 (-1), .int .i64 0, .bool false, .bool true, .bool false, .bool false, .bool false] := Blk.below ((k2).alloc _) hB (by simp [World.setCell]; omega)
  have b3 : Below w.heap.size w w3 := (b2.alloc (by first | omega | (simp [World.setCell]; omega)) _).trans (hB.mono (by simp [World.setCell]; omega))
  clear hB q0 q1 q2 q3 q4 q5 q6 q7 q8 q9 f6 f7 f8
  have q0 := fun o => (k3.alloc o).cell 0
  have q1 := fun o => (k3.alloc o).cell 1
  have q2 := fun o => (k3.alloc o).cell 2
  have q3 := fun o => (k3.alloc o).cell 3
  have q4 := fun o => (k3.alloc o).cell 4
  have q5 := fun o => (k3.alloc o).cell 5
  have q6 := fun o => (k3.alloc o).cell 6
  have q7 := fun o => (k3.alloc o).cell 7
  have q8 := fun o => (k3.alloc o).cell 8
  have q9 := fun o => (k3.alloc o).cell 9
  simp at q0 q1 q2 q3 q4 q5 q6 q7 q8 q9
  have f6 := fun o => (k3.alloc o).frozen 6
  have f7 := fun o => (k3.alloc o).frozen 7
  have f8 := fun o => (k3.alloc o).frozen 8
  have q00 := fun o => ((k3.set_ 6 (.bool false)).alloc o).cell 0
  have q01 := fun o => ((k3.set_ 6 (.bool false)).alloc o).cell 1
  have q02 := fun o => ((k3.set_ 6 (.bool false)).alloc o).cell 2
  have q03 := fun o => ((k3.set_ 6 (.bool false)).alloc o).cell 3
  have q04 := fun o => ((k3.set_ 6 (.bool false)).alloc o).cell 4
  have q05 := fun o => ((k3.set_ 6 (.bool false)).alloc o).cell 5
  have q06 := fun o => ((k3.set_ 6 (.bool false)).alloc o).cell 6
  have q07 := fun o => ((k3.set_ 6 (.bool false)).alloc o).cell 7
  have q08 := fun o => ((k3.set_ 6 (.bool false)).alloc o).cell 8
  have q09 := fun o => ((k3.set_ 6 (.bool false)).alloc o).cell 9
  simp at q00 q01 q02 q03 q04 q05 q06 q07 q08 q09
  have f06 := fun o => ((k3.set_ 6 (.bool false)).alloc o).frozen 6
  have f07 := fun o => ((k3.set_ 6 (.bool false)).alloc o).frozen 7
  have f08 := fun o => ((k3.set_ 6 (.bool false)).alloc o).frozen 8
  have q10 := fun o => (((k3.set_ 6 (.bool false)).set_ 7 (.bool true)).alloc o).cell 0
  have q11 := fun o => (((k3.set_ 6 (.bool false)).set_ 7 (.bool true)).alloc o).cell 1
  have q12 := fun o => (((k3.set_ 6 (.bool false)).set_ 7 (.bool true)).alloc o).cell 2
  have q13 := fun o => (((k3.set_ 6 (.bool false)).set_ 7 (.bool true)).alloc o).cell 3
  have q14 := fun o => (((k3.set_ 6 (.bool false)).set_ 7 (.bool true)).alloc o).cell 4
  have q15 := fun o => (((k3.set_ 6 (.bool false)).set_ 7 (.bool true)).alloc o).cell 5
  have q16 := fun o => (((k3.set_ 6 (.bool false)).set_ 7 (.bool true)).alloc o).cell 6
  have q17 := fun o => (((k3.set_ 6 (.bool false)).set_ 7 (.bool true)).alloc o).cell 7
  have q18 := fun o => (((k3.set_ 6 (.bool false)).set_ 7 (.bool true)).alloc o).cell 8
  have q19 := fun o => (((k3.set_ 6 (.bool false)).set_ 7 (.bool true)).alloc o).cell 9
  simp at q10 q11 q12 q13 q14 q15 q16 q17 q18 q19
  have f16 := fun o => (((k3.set_ 6 (.bool false)).set_ 7 (.bool true)).alloc o).frozen 6
  have f17 := fun o => (((k3.set_ 6 (.bool false)).set_ 7 (.bool true)).alloc o).frozen 7
  have f18 := fun o => (((k3.set_ 6 (.bool false)).set_ 7 (.bool true)).alloc o).frozen 8
  go_wp2_with (refine wpList_alloc_any _ rfl 27 rfl i0 _ hi0 hy0 ?_)
  refine (run_any (planT k false true false) L [] _ (by have := HN1.out; have := HLA.out; have := HLC.out; omega) (by simp)).mono ?_
  rw [HC.out]
  rintro e w4 ⟨rfl, hB⟩
  have hsz4 : w1.heap.size < w4.heap.size := by have := hB.size; simp [World.setCell] at this; omega
  have k4 : Blk w4 w1.heap.size 26 #[.int .i64 ((k : Int) + 1), .int .i64 7, .int .i64 0, .int .i64 (-1), .int .i64 0, .bool false, .bool false, .bool true, .bool false, .bool false] := Blk.below ((((k3).set_ 6 (.bool false)).set_ 7 (.bool true)).alloc _) hB (by simp [World.setCell]; omega)
  have b4 : Below w.heap.size w w4 := (((b3.setCell (p := ⟨w1.heap.size, 6, none⟩) (by show w.heap.size ≤ w1.heap.size; omega) _).setCell (p := ⟨w1.heap.size, 7, none⟩) (by show w.heap.size ≤ w1.heap.size; omega) _).alloc (by first | omega | (simp [World.setCell]; omega)) _).trans (hB.mono (by simp [World.setCell]; omega))
  clear hB q0 q1 q2 q3 q4 q5 q6 q7 q8 q9 f6 f7 f8
  have q0 := fun o => (k4.alloc o).cell 0
  have q1 := fun o => (k4.alloc o).cell 1
  have q2 := fun o => (k4.alloc o).cell 2
  have q3 := fun o => (k4.alloc o).cell 3
  have q4 := fun o => (k4.alloc o).cell 4
  have q5 := fun o => (k4.alloc o).cell 5
  have q6 := fun o => (k4.alloc o).cell 6
  have q7 := fun o => (k4.alloc o).cell 7
  have q8 := fun o => (k4.alloc o).cell 8
  have q9 := fun o => (k4.alloc o).cell 9
  simp at q0 q1 q2 q3 q4 q5 q6 q7 q8 q9
  have f6 := fun o => (k4.alloc o).frozen 6
  have f7 := fun o => (k4.alloc o).frozen 7
  have f8 := fun o => (k4.alloc o).frozen 8
  have q00 := fun o => ((k4.set_ 7 (.bool false)).alloc o).cell 0
  have q01 := fun o => ((k4.set_ 7 (.bool false)).alloc o).cell 1
  have q02 := fun o => ((k4.set_ 7 (.bool false)).alloc o).cell 2
  have q03 := fun o => ((k4.set_ 7 (.bool false)).alloc o).cell 3
  have q04 := fun o => ((k4.set_ 7 (.bool false)).alloc o).cell 4
  have q05 := fun o => ((k4.set_ 7 (.bool false)).alloc o).cell 5
  have q06 := fun o => ((k4.set_ 7 (.bool false)).alloc o).cell 6
  have q07 := fun o => ((k4.set_ 7 (.bool false)).alloc o).cell 7
  have q08 := fun o => ((k4.set_ 7 (.bool false)).alloc o).cell 8
  have q09 := fun o => ((k4.set_ 7 (.bool false)).alloc o).cell 9
  simp at q00 q01 q02 q03 q04 q05 q06 q07 q08 q09
  have f06 := fun o => ((k4.set_ 7 (.bool false)).alloc o).frozen 6
  have f07 := fun o => ((k4.set_ 7 (.bool false)).alloc o).frozen 7
  have f08 := fun o => ((k4.set_ 7 (.bool false)).alloc o).frozen 8
  have q10 := fun o => (((k4.set_ 7 (.bool false)).set_ 8 (.bool true)).alloc o).cell 0
  have q11 := fun o => (((k4.set_ 7 (.bool false)).set_ 8 (.bool true)).alloc o).cell 1
  have q12 := fun o => (((k4.set_ 7 (.bool false)).set_ 8 (.bool true)).alloc o).cell 2
  have q13 := fun o => (((k4.set_ 7 (.bool false)).set_ 8 (.bool true)).alloc o).cell 3
  have q14 := fun o => (((k4.set_ 7 (.bool false)).set_ 8 (.bool true)).alloc o).cell 4
  have q15 := fun o => (((k4.set_ 7 (.bool false)).set_ 8 (.bool true)).alloc o).cell 5
  have q16 := fun o => (((k4.set_ 7 (.bool false)).set_ 8 (.bool true)).alloc o).cell 6
  have q17 := fun o => (((k4.set_ 7 (.bool false)).set_ 8 (.bool true)).alloc o).cell 7
  have q18 := fun o => (((k4.set_ 7 (.bool false)).set_ 8 (.bool true)).alloc o).cell 8
  have q19 := fun o => (((k4.set_ 7 (.bool false)).set_ 8 (.bool true)).alloc o).cell 9
  simp at q10 q11 q12 q13 q14 q15 q16 q17 q18 q19
  have f16 := fun o => (((k4.set_ 7 (.bool false)).set_ 8 (.bool true)).alloc o).frozen 6
  have f17 := fun o => (((k4.set_ 7 (.bool false)).set_ 8 (.bool true)).alloc o).frozen 7
  have f18 := fun o => (((k4.set_ 7 (.bool false)).set_ 8 (.bool true)).alloc o).frozen 8
  go_wp2_with (refine wpList_alloc_any _ rfl 27 rfl i0 _ hi0 hy0 ?_)
  refine (run_any (planT k false false true) rc.text [] _ (by have := HN1.out; have := HLA.out; have := HLC.out; omega) (by simp)).mono ?_
  rw [HD.out]
  rintro e w5 ⟨rfl, hB⟩
  have hsz5 : w1.heap.size < w5.heap.size := by have := hB.size; simp [World.setCell] at this; omega
  have k5 : Blk w5 w1.heap.size 26 #[.int .i64 ((k : Int) + 1), .int .i64 7, .int .i64 0, .int .i64 (-1), .int .i64 0, .bool false, .bool false, .bool false, .bool true, .bool false] := Blk.below ((((k4).set_ 7 (.bool false)).set_ 8 (.bool true)).alloc _) hB (by simp [World.setCell]; omega)
  have b5 : Below w.heap.size w w5 := (((b4.setCell (p := ⟨w1.heap.size, 7, none⟩) (by show w.heap.size ≤ w1.heap.size; omega) _).setCell (p := ⟨w1.heap.size, 8, none⟩) (by show w.heap.size ≤ w1.heap.size; omega) _).alloc (by first | omega | (simp [World.setCell]; omega)) _).trans (hB.mono (by simp [World.setCell]; omega))
  clear hB q0 q1 q2 q3 q4 q5 q6 q7 q8 q9 f6 f7 f8
  have q0 := fun o => (k5.alloc o).cell 0
  have q1 := fun o => (k5.alloc o).cell 1
  have q2 := fun o => (k5.alloc o).cell 2
  have q3 := fun o => (k5.alloc o).cell 3
  have q4 := fun o => (k5.alloc o).cell 4
  have q5 := fun o => (k5.alloc o).cell 5
  have q6 := fun o => (k5.alloc o).cell 6
  have q7 := fun o => (k5.alloc o).cell 7
  have q8 := fun o => (k5.alloc o).cell 8
  have q9 := fun o => (k5.alloc o).cell 9
  simp at q0 q1 q2 q3 q4 q5 q6 q7 q8 q9
  have f6 := fun o => (k5.alloc o).frozen 6
  have f7 := fun o => (k5.alloc o).frozen 7
  have f8 := fun o => (k5.alloc o).frozen 8
  go_wp2_with (refine wpList_alloc_any _ rfl 27 rfl i0 _ hi0 hy0 ?_)
  refine (run_any (planT k false false true) L [] _ (by have := HN1.out; have := HLA.out; have := HLC.out; omega) (by simp)).mono ?_
  rw [HX.out]
  rintro e w6 ⟨rfl, hB⟩
  have hsz6 : w1.heap.size < w6.heap.size := by have := hB.size; simp [World.setCell] at this; omega
  have k6 : Blk w6 w1.heap.size 26 #[.int .i64 ((k : Int) + 1), .int .i64 7, .int .i64 0, .int .i64 (-1), .int .i64 0, .bool false, .bool false, .bool false, .bool true, .bool false] := Blk.below ((k5).alloc _) hB (by simp [World.setCell]; omega)
  have b6 : Below w.heap.size w w6 := (b5.alloc (by first | omega | (simp [World.setCell]; omega)) _).trans (hB.mono (by simp [World.setCell]; omega))
  clear hB q0 q1 q2 q3 q4 q5 q6 q7 q8 q9 f6 f7 f8
  go_wp2_with (refine wpList_alloc_any _ rfl 27 rfl i0 _ hi0 hy0 ?_)
  go_ret
  exact ⟨rfl, b6.alloc (by omega) _⟩
end Go.Proofs.YtiffmdfchibpaaaDoor
