/-
  BlocksParts: the law's walk. (Printed by gen/blkparts.py.)
-/
import Derived.Test.YtiffmdfchibpaaaDoorBlkAlive
set_option linter.unusedVariables false
set_option linter.unusedSimpArgs false
namespace Go.Proofs.YtiffmdfchibpaaaDoor
open Go.RowKit

theorem runRes_eqP (r : RunV) : runRes r = .tuple #[.string (str r.text), .agg #[.int .i64 (r.n0 : Int), .int .i64 (r.n1 : Int), .int .i64 (r.n2 : Int), .int .i64 (r.n3 : Int)], .int .i64 (r.err : Int)] := rfl
theorem str_appP (a b : List UInt8) : str a ++ str b = str (a ++ b) := by
  apply ByteArray.ext
  apply Array.ext'
  rw [ByteArray.data_append]
  simp [str]
theorem Blk.newSet (w : World) (p : Addr) (u : Value) (t : TypeId) (cs : Array Value) : Blk ((w.setCell p u).alloc (.cells cs t)) w.heap.size t cs := by
  have h := Blk.new (w.setCell p u) t cs
  have e : (w.setCell p u).heap.size = w.heap.size := by simp [World.setCell]
  rw [e] at h
  exact h
theorem Blk.newSet2 (w : World) (p p' : Addr) (u u' : Value) (t : TypeId) (cs : Array Value) : Blk (((w.setCell p u).setCell p' u').alloc (.cells cs t)) w.heap.size t cs := by
  have h := Blk.newSet (w.setCell p u) p' u' t cs
  have e : (w.setCell p u).heap.size = w.heap.size := by simp [World.setCell]
  rw [e] at h
  exact h
theorem n0_le (p : PlanV) (hp : p.ok) (skip count : Int) (h1 : 0 ≤ skip) (h2 : skip ≤ 2147483647) (s : List UInt8) (hs : s.length ≤ 50000) : (runV (planC p skip count) s []).n0 ≤ s.length ∧ (runV (planC p skip count) s []).n1 ≤ 1 := by
  obtain ⟨hk1, hk2, _⟩ := ok_k p hp
  rw [planC_run p hp skip count h1 h2 s hs]
  have h := chunks_count p.k hk1 (takenV (planC p skip count) s)
  refine ⟨?_, ?_⟩
  · show wholes p.k (chunks p.k (takenV (planC p skip count) s)) ≤ _
    rw [h.1]
    exact Nat.le_trans (Nat.div_le_self _ _) (takenV_len _ _)
  · show parts p.k (chunks p.k (takenV (planC p skip count) s)) ≤ _
    rw [h.2.1]
    exact Nat.min_le_right _ _
theorem text_leC (p : PlanV) (hp : p.ok) (skip count : Int) (h1 : 0 ≤ skip) (h2 : skip ≤ 2147483647) (s : List UInt8) (hs : s.length ≤ 50000) : (runV (planC p skip count) s []).text.length ≤ s.length + 65535 := by
  rw [planC_run p hp skip count h1 h2 s hs]
  exact goesV_len _ (planC_ok p hp skip count h1 h2) s
set_option maxRecDepth 100000 in
set_option maxHeartbeats 8000000 in
theorem blocksParts_walk (x : PlanV) (s : ByteArray) (k : Nat) (w : World) (hz1 : s.size ≤ 140737488351232) (hk : k < 65536) :
    Calls Tryd.prog 4 #[x.val, .string s, .int .u16 (k : Int)] w fun e w' => e = .returned (.bool true) ∧ Below w.heap.size w w' := by
  obtain ⟨L, rfl⟩ : ∃ L, s = str L := ⟨_, str_of s⟩
  obtain ⟨i0, hi0, hy0, hy1, hy2⟩ := info_parts infoFour
  have hs1 := str_size L
  obtain ⟨n1, hn1⟩ : ∃ n, n = L.length := ⟨_, rfl⟩
  rw [← hn1] at hs1
  rw [hs1] at hz1
  have HN1 := Lib.hid hn1
  clear hn1
  obtain ⟨inn, out, skip, count, seek, keep, swab, upper, lower, sync⟩ := x
  unfold PlanV.val pcells
  have b0 : Below w.heap.size w (w.alloc (.cells #[.int .i64 inn, .int .i64 out, .int .i64 skip, .int .i64 count, .int .i64 seek, .bool keep, .bool swab, .bool upper, .bool lower, .bool sync] 26)) := (Below.refl _ _).alloc (Nat.le_refl _) _
  have k0 := Blk.new w 26 #[.int .i64 inn, .int .i64 out, .int .i64 skip, .int .i64 count, .int .i64 seek, .bool keep, .bool swab, .bool upper, .bool lower, .bool sync]
  go_enter Tryd.func4, Tryd.ntmps4
  go_wp2_with fail
  refine (balive_any _).mono ?_
  rintro e w1 ⟨rfl, hB1⟩
  have k1 := k0.below hB1 (by simp)
  have b1 := below_then b0 b0.size hB1
  have hs3 : w.heap.size < w1.heap.size := by have := hB1.size; simp at this; omega
  clear b0 k0 hB1
  have q10 := k1.cell 0
  have q11 := k1.cell 1
  have q12 := k1.cell 2
  have q13 := k1.cell 3
  have q14 := k1.cell 4
  have q15 := k1.cell 5
  have q16 := k1.cell 6
  have q17 := k1.cell 7
  have q18 := k1.cell 8
  have q19 := k1.cell 9
  simp at q10 q11 q12 q13 q14 q15 q16 q17 q18 q19
  go_wp2_with fail
  refine (check_any (⟨inn, out, skip, count, seek, keep, swab, upper, lower, sync⟩ : PlanV) w1).mono ?_
  rintro e w2 ⟨rfl, hB2⟩
  have k2 := k1.below hB2 (by omega)
  have b2 := b1.trans (hB2.mono (by omega))
  have hs4 : w.heap.size < w2.heap.size := by have := hB2.size; omega
  clear q10 q11 q12 q13 q14 q15 q16 q17 q18 q19  k1 b1 hB2
  by_cases hok : ((⟨inn, out, skip, count, seek, keep, swab, upper, lower, sync⟩ : PlanV)).ok
  case neg =>
    have hD : decide (((⟨inn, out, skip, count, seek, keep, swab, upper, lower, sync⟩ : PlanV)).ok) = false := decide_eq_false hok
    rw [hD]
    go_wp2_with fail
    refine (balive_any w2).mono ?_
    rintro e w3 ⟨rfl, hB⟩
    go_wp2_with fail
    go_ret
    exact ⟨rfl, b2.trans (hB.mono (by omega))⟩
  have hD : decide (((⟨inn, out, skip, count, seek, keep, swab, upper, lower, sync⟩ : PlanV)).ok) = true := decide_eq_true hok
  rw [hD]
  by_cases hbd : 50000 < n1
  · have hI : (50000 : Int) < (n1 : Int) := by omega
    go_wp2_with fail
    refine (balive_any w2).mono ?_
    rintro e w3 ⟨rfl, hB⟩
    go_wp2_with fail
    go_ret
    exact ⟨rfl, b2.trans (hB.mono (by omega))⟩
  have hI1 : ¬ (50000 : Int) < (n1 : Int) := by omega
  obtain ⟨ea, eb, ec, tt, t0, t1⟩ := parts_law (⟨inn, out, skip, count, seek, keep, swab, upper, lower, sync⟩ : PlanV) hok k hk L (by have := HN1.out; omega)
  have bt := text_leC (⟨inn, out, skip, count, seek, keep, swab, upper, lower, sync⟩ : PlanV) hok 0 (-1) (by decide) (by decide) L (by have := HN1.out; omega)
  have ba := n0_le (⟨inn, out, skip, count, seek, keep, swab, upper, lower, sync⟩ : PlanV) hok 0 (-1) (by decide) (by decide) L (by have := HN1.out; omega)
  obtain ⟨ra, hra⟩ : ∃ r, r = runV (planC (⟨inn, out, skip, count, seek, keep, swab, upper, lower, sync⟩ : PlanV) 0 (-1)) L [] := ⟨_, rfl⟩
  obtain ⟨rb, hrb⟩ : ∃ r, r = runV (planC (⟨inn, out, skip, count, seek, keep, swab, upper, lower, sync⟩ : PlanV) 0 k) L [] := ⟨_, rfl⟩
  obtain ⟨rc, hrc⟩ : ∃ r, r = runV (planC (⟨inn, out, skip, count, seek, keep, swab, upper, lower, sync⟩ : PlanV) k (-1)) L [] := ⟨_, rfl⟩
  rw [← hra] at ea tt t0 t1 ba bt
  rw [← hrb] at eb tt t0 t1
  rw [← hrc] at ec tt t0 t1
  have HA := Lib.hid (show runRes (runV (planC (⟨inn, out, skip, count, seek, keep, swab, upper, lower, sync⟩ : PlanV) 0 (-1)) L []) = .tuple #[.string (str ra.text), .agg #[.int .i64 (ra.n0 : Int), .int .i64 (ra.n1 : Int), .int .i64 (ra.n2 : Int), .int .i64 (ra.n3 : Int)], .int .i64 0] from by rw [← hra, runRes_eqP, ea]; rfl)
  have HB := Lib.hid (show runRes (runV (planC (⟨inn, out, skip, count, seek, keep, swab, upper, lower, sync⟩ : PlanV) 0 k) L []) = .tuple #[.string (str rb.text), .agg #[.int .i64 (rb.n0 : Int), .int .i64 (rb.n1 : Int), .int .i64 (rb.n2 : Int), .int .i64 (rb.n3 : Int)], .int .i64 0] from by rw [← hrb, runRes_eqP, eb]; rfl)
  have HC := Lib.hid (show runRes (runV (planC (⟨inn, out, skip, count, seek, keep, swab, upper, lower, sync⟩ : PlanV) k (-1)) L []) = .tuple #[.string (str rc.text), .agg #[.int .i64 (rc.n0 : Int), .int .i64 (rc.n1 : Int), .int .i64 (rc.n2 : Int), .int .i64 (rc.n3 : Int)], .int .i64 0] from by rw [← hrc, runRes_eqP, ec]; rfl)
  have HS : str rb.text ++ str rc.text = str ra.text := by rw [str_appP, tt]
  have hl : rb.text.length + rc.text.length ≤ 115535 := by rw [← List.length_append, tt]; have := HN1.out; omega
  have zb := str_size rb.text
  have zc := str_size rc.text
  obtain ⟨mb, hmb⟩ : ∃ m, m = rb.text.length := ⟨_, rfl⟩
  obtain ⟨mc, hmc⟩ : ∃ m, m = rc.text.length := ⟨_, rfl⟩
  rw [← hmb] at zb hl
  rw [← hmc] at zc hl
  clear hmb hmc
  have b0I : (ra.n0 : Int) ≤ 50000 := by have := HN1.out; omega
  have b1I : (ra.n1 : Int) ≤ 1 := by omega
  have t0I : (rb.n0 : Int) + (rc.n0 : Int) = (ra.n0 : Int) := by omega
  have t1I : (rb.n1 : Int) + (rc.n1 : Int) = (ra.n1 : Int) := by omega
  clear ea eb ec tt t0 t1 ba bt hra hrb hrc
  have qa0 := k2.cell 0
  have qa1 := k2.cell 1
  have qa2 := k2.cell 2
  have qa3 := k2.cell 3
  have qa4 := k2.cell 4
  have qa5 := k2.cell 5
  have qa6 := k2.cell 6
  have qa7 := k2.cell 7
  have qa8 := k2.cell 8
  have qa9 := k2.cell 9
  simp at qa0 qa1 qa2 qa3 qa4 qa5 qa6 qa7 qa8 qa9
  have fa2 := k2.frozen 2
  have qb0 := (k2.set_ 2 (.int .i64 0)).cell 0
  have qb1 := (k2.set_ 2 (.int .i64 0)).cell 1
  have qb2 := (k2.set_ 2 (.int .i64 0)).cell 2
  have qb3 := (k2.set_ 2 (.int .i64 0)).cell 3
  have qb4 := (k2.set_ 2 (.int .i64 0)).cell 4
  have qb5 := (k2.set_ 2 (.int .i64 0)).cell 5
  have qb6 := (k2.set_ 2 (.int .i64 0)).cell 6
  have qb7 := (k2.set_ 2 (.int .i64 0)).cell 7
  have qb8 := (k2.set_ 2 (.int .i64 0)).cell 8
  have qb9 := (k2.set_ 2 (.int .i64 0)).cell 9
  simp at qb0 qb1 qb2 qb3 qb4 qb5 qb6 qb7 qb8 qb9
  have fb2 := (k2.set_ 2 (.int .i64 0)).frozen 2
  have fb3 := (k2.set_ 2 (.int .i64 0)).frozen 3
  have fb4 := (k2.set_ 2 (.int .i64 0)).frozen 4
  have qc0 := ((k2.set_ 2 (.int .i64 0)).set_ 4 (.int .i64 0)).cell 0
  have qc1 := ((k2.set_ 2 (.int .i64 0)).set_ 4 (.int .i64 0)).cell 1
  have qc2 := ((k2.set_ 2 (.int .i64 0)).set_ 4 (.int .i64 0)).cell 2
  have qc3 := ((k2.set_ 2 (.int .i64 0)).set_ 4 (.int .i64 0)).cell 3
  have qc4 := ((k2.set_ 2 (.int .i64 0)).set_ 4 (.int .i64 0)).cell 4
  have qc5 := ((k2.set_ 2 (.int .i64 0)).set_ 4 (.int .i64 0)).cell 5
  have qc6 := ((k2.set_ 2 (.int .i64 0)).set_ 4 (.int .i64 0)).cell 6
  have qc7 := ((k2.set_ 2 (.int .i64 0)).set_ 4 (.int .i64 0)).cell 7
  have qc8 := ((k2.set_ 2 (.int .i64 0)).set_ 4 (.int .i64 0)).cell 8
  have qc9 := ((k2.set_ 2 (.int .i64 0)).set_ 4 (.int .i64 0)).cell 9
  simp at qc0 qc1 qc2 qc3 qc4 qc5 qc6 qc7 qc8 qc9
  have fc2 := ((k2.set_ 2 (.int .i64 0)).set_ 4 (.int .i64 0)).frozen 2
  have fc3 := ((k2.set_ 2 (.int .i64 0)).set_ 4 (.int .i64 0)).frozen 3
  have fc4 := ((k2.set_ 2 (.int .i64 0)).set_ 4 (.int .i64 0)).frozen 4
  have qd0 := (((k2.set_ 2 (.int .i64 0)).set_ 4 (.int .i64 0)).set_ 3 (.int .i64 (-1))).cell 0
  have qd1 := (((k2.set_ 2 (.int .i64 0)).set_ 4 (.int .i64 0)).set_ 3 (.int .i64 (-1))).cell 1
  have qd2 := (((k2.set_ 2 (.int .i64 0)).set_ 4 (.int .i64 0)).set_ 3 (.int .i64 (-1))).cell 2
  have qd3 := (((k2.set_ 2 (.int .i64 0)).set_ 4 (.int .i64 0)).set_ 3 (.int .i64 (-1))).cell 3
  have qd4 := (((k2.set_ 2 (.int .i64 0)).set_ 4 (.int .i64 0)).set_ 3 (.int .i64 (-1))).cell 4
  have qd5 := (((k2.set_ 2 (.int .i64 0)).set_ 4 (.int .i64 0)).set_ 3 (.int .i64 (-1))).cell 5
  have qd6 := (((k2.set_ 2 (.int .i64 0)).set_ 4 (.int .i64 0)).set_ 3 (.int .i64 (-1))).cell 6
  have qd7 := (((k2.set_ 2 (.int .i64 0)).set_ 4 (.int .i64 0)).set_ 3 (.int .i64 (-1))).cell 7
  have qd8 := (((k2.set_ 2 (.int .i64 0)).set_ 4 (.int .i64 0)).set_ 3 (.int .i64 (-1))).cell 8
  have qd9 := (((k2.set_ 2 (.int .i64 0)).set_ 4 (.int .i64 0)).set_ 3 (.int .i64 (-1))).cell 9
  simp at qd0 qd1 qd2 qd3 qd4 qd5 qd6 qd7 qd8 qd9
  have fd2 := (((k2.set_ 2 (.int .i64 0)).set_ 4 (.int .i64 0)).set_ 3 (.int .i64 (-1))).frozen 2
  have fd3 := (((k2.set_ 2 (.int .i64 0)).set_ 4 (.int .i64 0)).set_ 3 (.int .i64 (-1))).frozen 3
  have fd4 := (((k2.set_ 2 (.int .i64 0)).set_ 4 (.int .i64 0)).set_ 3 (.int .i64 (-1))).frozen 4
  go_wp2_with fail
  refine (run_any (planC (⟨inn, out, skip, count, seek, keep, swab, upper, lower, sync⟩ : PlanV) 0 (-1)) L [] _ (by have := HN1.out; omega) (by simp)).mono ?_
  rw [HA.out]
  rintro e w3 ⟨rfl, hB⟩
  have hs5 : w2.heap.size ≤ w3.heap.size := by have := hB.size; simp [World.setCell] at this; omega
  have hx3 : w.heap.size < w3.heap.size := by omega
  have k3 : Blk w3 w.heap.size 26 #[.int .i64 inn, .int .i64 out, .int .i64 0, .int .i64 (-1), .int .i64 0, .bool keep, .bool swab, .bool upper, .bool lower, .bool sync] := Blk.below (((k2.set_ 2 (.int .i64 0)).set_ 4 (.int .i64 0)).set_ 3 (.int .i64 (-1))) hB (by simp [World.setCell]; omega)
  have b3 : Below w.heap.size w w3 := (((b2.setCell (p := ⟨w.heap.size, 2, none⟩) (Nat.le_refl _) _).setCell (p := ⟨w.heap.size, 4, none⟩) (Nat.le_refl _) _).setCell (p := ⟨w.heap.size, 3, none⟩) (Nat.le_refl _) _).trans (hB.mono (by simp [World.setCell]; omega))
  clear hB qa0 qa1 qa2 qa3 qa4 qa5 qa6 qa7 qa8 qa9 fa2 qb0 qb1 qb2 qb3 qb4 qb5 qb6 qb7 qb8 qb9 fb2 fb3 fb4 qc0 qc1 qc2 qc3 qc4 qc5 qc6 qc7 qc8 qc9 fc2 fc3 fc4 qd0 qd1 qd2 qd3 qd4 qd5 qd6 qd7 qd8 qd9 fd2 fd3 fd4 k2
  have qa0 := fun o => (k3.alloc o).cell 0
  have qa1 := fun o => (k3.alloc o).cell 1
  have qa2 := fun o => (k3.alloc o).cell 2
  have qa3 := fun o => (k3.alloc o).cell 3
  have qa4 := fun o => (k3.alloc o).cell 4
  have qa5 := fun o => (k3.alloc o).cell 5
  have qa6 := fun o => (k3.alloc o).cell 6
  have qa7 := fun o => (k3.alloc o).cell 7
  have qa8 := fun o => (k3.alloc o).cell 8
  have qa9 := fun o => (k3.alloc o).cell 9
  simp at qa0 qa1 qa2 qa3 qa4 qa5 qa6 qa7 qa8 qa9
  have fa3 := fun o => (k3.alloc o).frozen 3
  have qb0 := fun o => ((k3.set_ 3 (.int .i64 (k : Int))).alloc o).cell 0
  have qb1 := fun o => ((k3.set_ 3 (.int .i64 (k : Int))).alloc o).cell 1
  have qb2 := fun o => ((k3.set_ 3 (.int .i64 (k : Int))).alloc o).cell 2
  have qb3 := fun o => ((k3.set_ 3 (.int .i64 (k : Int))).alloc o).cell 3
  have qb4 := fun o => ((k3.set_ 3 (.int .i64 (k : Int))).alloc o).cell 4
  have qb5 := fun o => ((k3.set_ 3 (.int .i64 (k : Int))).alloc o).cell 5
  have qb6 := fun o => ((k3.set_ 3 (.int .i64 (k : Int))).alloc o).cell 6
  have qb7 := fun o => ((k3.set_ 3 (.int .i64 (k : Int))).alloc o).cell 7
  have qb8 := fun o => ((k3.set_ 3 (.int .i64 (k : Int))).alloc o).cell 8
  have qb9 := fun o => ((k3.set_ 3 (.int .i64 (k : Int))).alloc o).cell 9
  simp at qb0 qb1 qb2 qb3 qb4 qb5 qb6 qb7 qb8 qb9
  have fb3 := fun o => ((k3.set_ 3 (.int .i64 (k : Int))).alloc o).frozen 3
  go_wp2_with (refine wpList_alloc_any _ rfl 27 rfl i0 _ hi0 hy0 ?_)
  refine (run_any (planC (⟨inn, out, skip, count, seek, keep, swab, upper, lower, sync⟩ : PlanV) 0 k) L [] _ (by have := HN1.out; omega) (by simp)).mono ?_
  rw [HB.out]
  rintro e w4 ⟨rfl, hB⟩
  have hs6 : w3.heap.size < w4.heap.size := by have := hB.size; simp [World.setCell] at this; omega
  have hx4 : w.heap.size < w4.heap.size := by omega
  have k4 : Blk w4 w.heap.size 26 #[.int .i64 inn, .int .i64 out, .int .i64 0, .int .i64 (k : Int), .int .i64 0, .bool keep, .bool swab, .bool upper, .bool lower, .bool sync] := Blk.below ((k3.set_ 3 (.int .i64 (k : Int))).alloc _) hB (by simp [World.setCell]; omega)
  have m4 : Blk w4 w3.heap.size 27 #[.int .i64 (ra.n0 : Int), .int .i64 (ra.n1 : Int), .int .i64 (ra.n2 : Int), .int .i64 (ra.n3 : Int)] := Blk.below (Blk.newSet _ _ _ _ _) hB (by simp [World.setCell])
  have b4 : Below w.heap.size w w4 := ((b3.setCell (p := ⟨w.heap.size, 3, none⟩) (Nat.le_refl _) _).alloc (by simp [World.setCell]; omega) _).trans (hB.mono (by simp [World.setCell]; omega))
  clear hB qa0 qa1 qa2 qa3 qa4 qa5 qa6 qa7 qa8 qa9 fa3 qb0 qb1 qb2 qb3 qb4 qb5 qb6 qb7 qb8 qb9 fb3 k3
  have qa0 := fun o => (k4.alloc o).cell 0
  have qa1 := fun o => (k4.alloc o).cell 1
  have qa2 := fun o => (k4.alloc o).cell 2
  have qa3 := fun o => (k4.alloc o).cell 3
  have qa4 := fun o => (k4.alloc o).cell 4
  have qa5 := fun o => (k4.alloc o).cell 5
  have qa6 := fun o => (k4.alloc o).cell 6
  have qa7 := fun o => (k4.alloc o).cell 7
  have qa8 := fun o => (k4.alloc o).cell 8
  have qa9 := fun o => (k4.alloc o).cell 9
  simp at qa0 qa1 qa2 qa3 qa4 qa5 qa6 qa7 qa8 qa9
  have fa3 := fun o => (k4.alloc o).frozen 3
  have qb0 := fun o => ((k4.set_ 3 (.int .i64 (-1))).alloc o).cell 0
  have qb1 := fun o => ((k4.set_ 3 (.int .i64 (-1))).alloc o).cell 1
  have qb2 := fun o => ((k4.set_ 3 (.int .i64 (-1))).alloc o).cell 2
  have qb3 := fun o => ((k4.set_ 3 (.int .i64 (-1))).alloc o).cell 3
  have qb4 := fun o => ((k4.set_ 3 (.int .i64 (-1))).alloc o).cell 4
  have qb5 := fun o => ((k4.set_ 3 (.int .i64 (-1))).alloc o).cell 5
  have qb6 := fun o => ((k4.set_ 3 (.int .i64 (-1))).alloc o).cell 6
  have qb7 := fun o => ((k4.set_ 3 (.int .i64 (-1))).alloc o).cell 7
  have qb8 := fun o => ((k4.set_ 3 (.int .i64 (-1))).alloc o).cell 8
  have qb9 := fun o => ((k4.set_ 3 (.int .i64 (-1))).alloc o).cell 9
  simp at qb0 qb1 qb2 qb3 qb4 qb5 qb6 qb7 qb8 qb9
  have fb2 := fun o => ((k4.set_ 3 (.int .i64 (-1))).alloc o).frozen 2
  have fb3 := fun o => ((k4.set_ 3 (.int .i64 (-1))).alloc o).frozen 3
  have qc0 := fun o => (((k4.set_ 3 (.int .i64 (-1))).set_ 2 (.int .i64 (k : Int))).alloc o).cell 0
  have qc1 := fun o => (((k4.set_ 3 (.int .i64 (-1))).set_ 2 (.int .i64 (k : Int))).alloc o).cell 1
  have qc2 := fun o => (((k4.set_ 3 (.int .i64 (-1))).set_ 2 (.int .i64 (k : Int))).alloc o).cell 2
  have qc3 := fun o => (((k4.set_ 3 (.int .i64 (-1))).set_ 2 (.int .i64 (k : Int))).alloc o).cell 3
  have qc4 := fun o => (((k4.set_ 3 (.int .i64 (-1))).set_ 2 (.int .i64 (k : Int))).alloc o).cell 4
  have qc5 := fun o => (((k4.set_ 3 (.int .i64 (-1))).set_ 2 (.int .i64 (k : Int))).alloc o).cell 5
  have qc6 := fun o => (((k4.set_ 3 (.int .i64 (-1))).set_ 2 (.int .i64 (k : Int))).alloc o).cell 6
  have qc7 := fun o => (((k4.set_ 3 (.int .i64 (-1))).set_ 2 (.int .i64 (k : Int))).alloc o).cell 7
  have qc8 := fun o => (((k4.set_ 3 (.int .i64 (-1))).set_ 2 (.int .i64 (k : Int))).alloc o).cell 8
  have qc9 := fun o => (((k4.set_ 3 (.int .i64 (-1))).set_ 2 (.int .i64 (k : Int))).alloc o).cell 9
  simp at qc0 qc1 qc2 qc3 qc4 qc5 qc6 qc7 qc8 qc9
  have fc2 := fun o => (((k4.set_ 3 (.int .i64 (-1))).set_ 2 (.int .i64 (k : Int))).alloc o).frozen 2
  have fc3 := fun o => (((k4.set_ 3 (.int .i64 (-1))).set_ 2 (.int .i64 (k : Int))).alloc o).frozen 3
  go_wp2_with (refine wpList_alloc_any _ rfl 27 rfl i0 _ hi0 hy0 ?_)
  refine (run_any (planC (⟨inn, out, skip, count, seek, keep, swab, upper, lower, sync⟩ : PlanV) k (-1)) L [] _ (by have := HN1.out; omega) (by simp)).mono ?_
  rw [HC.out]
  rintro e w5 ⟨rfl, hB⟩
  have hs7 : w4.heap.size < w5.heap.size := by have := hB.size; simp [World.setCell] at this; omega
  have m5 : Blk w5 w3.heap.size 27 #[.int .i64 (ra.n0 : Int), .int .i64 (ra.n1 : Int), .int .i64 (ra.n2 : Int), .int .i64 (ra.n3 : Int)] := Blk.below (((m4.far (p := ⟨w.heap.size, 3, none⟩) (by show w3.heap.size ≠ w.heap.size; omega) _).far (p := ⟨w.heap.size, 2, none⟩) (by show w3.heap.size ≠ w.heap.size; omega) _).alloc _) hB (by simp [World.setCell]; omega)
  have l5 : Blk w5 w4.heap.size 27 #[.int .i64 (rb.n0 : Int), .int .i64 (rb.n1 : Int), .int .i64 (rb.n2 : Int), .int .i64 (rb.n3 : Int)] := Blk.below (Blk.newSet2 _ _ _ _ _ _ _) hB (by simp [World.setCell])
  have b5 : Below w.heap.size w w5 := (((b4.setCell (p := ⟨w.heap.size, 3, none⟩) (Nat.le_refl _) _).setCell (p := ⟨w.heap.size, 2, none⟩) (Nat.le_refl _) _).alloc (by simp [World.setCell]; omega) _).trans (hB.mono (by simp [World.setCell]; omega))
  clear hB qa0 qa1 qa2 qa3 qa4 qa5 qa6 qa7 qa8 qa9 fa3 qb0 qb1 qb2 qb3 qb4 qb5 qb6 qb7 qb8 qb9 fb2 fb3 qc0 qc1 qc2 qc3 qc4 qc5 qc6 qc7 qc8 qc9 fc2 fc3 k4 m4
  have qa0 := fun o => (m5.alloc o).cell 0
  have qa1 := fun o => (m5.alloc o).cell 1
  simp at qa0 qa1
  have qb0 := fun o => (l5.alloc o).cell 0
  have qb1 := fun o => (l5.alloc o).cell 1
  simp at qb0 qb1
  have m6 := Blk.new w5 27 #[.int .i64 (rc.n0 : Int), .int .i64 (rc.n1 : Int), .int .i64 (rc.n2 : Int), .int .i64 (rc.n3 : Int)]
  have qc0 := m6.cell 0
  have qc1 := m6.cell 1
  simp at qc0 qc1
  go_wp2_with (refine wpList_alloc_any _ rfl 27 rfl i0 _ hi0 hy0 ?_)
  go_ret
  exact ⟨rfl, b5.alloc (by omega) _⟩
end Go.Proofs.YtiffmdfchibpaaaDoor
