/-
  toolchestlaw01's markRange, isRange, Book.keepRange, Book.Ranges: contracts.
-/
import Derived.Test.YtgibhlpocmppjaaGreatDoorBookPlain
import Derived.Deep.RegionLaw
namespace Go.Proofs.YtgibhlpocmppjaaGreatDoor
open Go.RowKit

theorem three_reads (w : World) (u1 u2 u3 : Value) (t : TypeId) : Reads (w.alloc (.cells #[u1, u2, u3] t)) (w.heap.size + 1) 3 (some ⟨w.heap.size, 0, none⟩) 1 [u1, u2, u3] :=
  ⟨rfl, fun _ => ⟨_, rfl, Nat.lt_succ_self _, cells_new w #[u1, u2, u3] t⟩⟩
theorem infoHeld : (Tryz.prog.info? 64).map (fun i => (i.zero, i.size, i.bytes)) = some (some (.agg #[.slice none 0 0, .slice none 0 0, .int .i64 0]), 3, 56) := by kernel_rfl
theorem infoRngSize (cs : Array Value) (h : cs.size = 2) : (Tryz.prog.info? 49).map (·.size) = some cs.size := by rw [h]; kernel_rfl
/-- A Book's cells: its count, and the list of ranges' lists; the other lists are empty. -/
def bkCells (n : Int) (rv : Value) : Array Value :=
  #[.int .i64 n, .slice none 0 0, .slice none 0 0, .slice none 0 0, .slice none 0 0, .slice none 0 0, .slice none 0 0, rv, .slice none 0 0, .slice none 0 0, .slice none 0 0, .slice none 0 0, .slice none 0 0]
def held1 (v l : Value) (n : Int) : List Value := [v, l, .int .i64 n]

set_option maxHeartbeats 400000 in
theorem markRange_any (K : Nat) (hK : K ≤ 1000000) (w : World) :
    Calls Tryz.prog 60 #[.int .i64 (K : Int)] w fun e w' => e = .returned (.agg #[.int .i64 (-1000 - (K : Int)), .int .i64 0]) ∧ w' = w.alloc (.cells #[.int .i64 (-1000 - (K : Int)), .int .i64 0] 49) := by
  go_enter Tryz.func60, Tryz.ntmps60
  go_wp2_with fail
  refine bodyPost_ret (v := .agg #[.int .i64 (-1000 - (K : Int)), .int .i64 0]) (by refine results_cell_row (p := 2) (ty := 49) ?_ _ _ w.heap.size _ _ _ _ ?_ (heap_alloc_new w _) Tryz.underlying49 rfl (infoRngSize _ rfl) <;> rfl) rfl ⟨rfl, rfl⟩

set_option maxHeartbeats 400000 in
theorem isRange_yes (K : Nat) (hK : K ≤ 1000000) (x : Int) (w : World) :
    Calls Tryz.prog 72 #[.agg #[.int .i64 (-1000 - (K : Int)), .int .i64 x], .int .i64 (K : Int)] w fun e w' => e = .returned (.bool true) ∧ w' = w.alloc (.cells #[.int .i64 (-1000 - (K : Int)), .int .i64 x] 49) := by
  go_enter Tryz.func72, Tryz.ntmps72
  go_wp2_with fail
  go_ret
  exact ⟨rfl, rfl⟩

set_option maxHeartbeats 1000000 in
theorem keepRange_any (base g n k : Nat) (rv : Value) (A : Option Addr) (nl cl : Nat) (xs : List Value) (w : World) (hb : Blk w g 41 (bkCells (n : Int) rv)) (hown : w.ownsRow base 64 3 rv k xs)
    (hn : n ≤ 1000) (hk : k ≤ 1000) (hg : g < base) (hbase : base ≤ w.heap.size) :
    Calls Tryz.prog 13 #[.pointer (some ⟨g, 0, none⟩), .slice A nl cl] w fun e w' => e = .returned (.tuple #[]) ∧
      ∃ rv', Blk w' g 41 (bkCells ((n : Int) + 1) rv') ∧ w'.ownsRow base 64 3 rv' (k + 1) (xs ++ held1 (.slice A nl cl) (.slice none 0 0) ((n : Int) + 1)) ∧ KeptX base g w w' := by
  obtain ⟨i0, hi0, hz0, hz1, hz2⟩ := info_parts infoHeld
  obtain ⟨wa, hwa⟩ : ∃ wa, wa = w.setCell ⟨g, 0, none⟩ (.int .i64 ((n : Int) + 1)) := ⟨_, rfl⟩
  have hba : Blk wa g 41 (bkCells ((n : Int) + 1) rv) := by rw [hwa]; exact hb.set_ 0 _
  have hoa : wa.ownsRow base 64 3 rv k xs := by rw [hwa]; exact ownsRow_setCell_below hown hg _
  have hKa : KeptX base g w wa := by rw [hwa]; exact (KeptX.refl base g w).setCell (.inl rfl) _
  have hsa : wa.heap.size = w.heap.size := by rw [hwa]; simp [World.setCell]
  have HWA := Lib.hid hwa
  clear hwa
  have c0 : w.cell? ⟨g, 0, none⟩ = some (.int .i64 (n : Int)) := hb.cell 0
  have f0 := hb.frozen 0
  have a0 : wa.cell? ⟨g, 0, none⟩ = some (.int .i64 ((n : Int) + 1)) := hba.cell 0
  have a7 : wa.cell? ⟨g, 7, none⟩ = some rv := hba.cell 7
  have b7 : (wa.alloc (.cells #[.slice A nl cl, .slice none 0 0, .int .i64 ((n : Int) + 1)] 64)).cell? ⟨g, 7, none⟩ = some rv := (hba.alloc _).cell 7
  have hcn := cells_new wa #[.slice A nl cl, .slice none 0 0, .int .i64 ((n : Int) + 1)] 64
  have HCN := Lib.hid hcn
  have h1 : ∀ u ∈ held1 (.slice A nl cl) (.slice none 0 0) ((n : Int) + 1), u.oneCell' = true := by
    intro u hu
    simp [held1] at hu
    rcases hu with rfl | rfl | rfl
    · rfl
    · rfl
    · rfl
  clear hcn
  go_enter Tryz.func13, Tryz.ntmps13
  go_wp2_with fail
  rw [← HWA.out]
  go_region_law ((refine step_append_any _ rfl (.tmp 15) (.tmp 22) 34 rfl base 64 i0 (.agg #[.slice none 0 0, .slice none 0 0, .int .i64 0]) 3 56 Tryz.underlying34 hi0 hz0 hz1 hz2 rfl (by decide) _ _ _ (by simp [Act.eval]) ((show wa.drew.ownsRow base 64 3 rv k xs from hoa).alloc _) (wa.heap.size + 1) (some ⟨wa.heap.size, 0, none⟩) 1 1 (held1 (.slice A nl cl) (.slice none 0 0) ((n : Int) + 1)) (by simp [Act.eval]) (three_reads wa.drew (.slice A nl cl) (.slice none 0 0) (.int .i64 ((n : Int) + 1)) 64) h1 (by unfold maxLen; omega) (by omega) (by simp; omega) ?_; intro v4 w4 hown4 hg4 _; have hb4 : Blk w4 g 41 (bkCells ((n : Int) + 1) rv) := Blk.grown (Blk.alloc (Blk.drew hba) _) hg4 (fun e => own_blk_ne hoa hba (by decide) e.symm); have d7 : w4.cell? ⟨g, 7, none⟩ = some rv := hb4.cell 7; have f7 := hb4.frozen 7; obtain ⟨A4, c4, rfl⟩ := own_slice hown4))
  all_goals
    go_wp2_with fail
    have hb5 := hb4.set_ 7 (.slice A4 (k + 1) c4)
    have hK4 : KeptX base g w w4 := (hKa.trans (KeptX.of_below ((below_drewN (Below.refl base wa) 1).alloc (by show base ≤ wa.heap.size; omega) _))).trans (KeptX.of_below ((Below.refl base _).grown hg4 (by simp; omega) (own_ge hoa)))
    refine bodyPost_end (results_none rfl _ _ _) rfl ⟨rfl, _, hb5, ownsRow_setCell_below hown4 hg _, hK4.setCell (.inl rfl) _⟩

set_option maxHeartbeats 400000 in
theorem ranges_any (base g n k : Nat) (rv : Value) (A : Option Addr) (nl cl : Nat) (xs : List Value) (w : World) (hb : Blk w g 41 (bkCells (n : Int) rv)) (hown : w.ownsRow base 64 3 rv k xs)
    (hn : n ≤ 1000) (hk : k ≤ 1000) (hg : g < base) (hbase : base ≤ w.heap.size) :
    Calls Tryz.prog 8 #[.pointer (some ⟨g, 0, none⟩), .slice A nl cl] w fun e w' => e = .returned (.tuple #[]) ∧
      ∃ rv', Blk w' g 41 (bkCells ((n : Int) + 1) rv') ∧ w'.ownsRow base 64 3 rv' (k + 1) (xs ++ held1 (.slice A nl cl) (.slice none 0 0) ((n : Int) + 1)) ∧ KeptX base g w w' := by
  go_enter Tryz.func8, Tryz.ntmps8
  go_wp2_with fail
  refine (keepRange_any base g n k rv A nl cl xs w hb hown hn hk hg hbase).mono ?_
  rintro e w1 ⟨rfl, h⟩
  go_wp2_with fail
  exact bodyPost_end (results_none rfl _ _ _) rfl ⟨rfl, h⟩
end Go.Proofs.YtgibhlpocmppjaaGreatDoor
