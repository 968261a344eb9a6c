/-
  modes.Text: its contract (kinds told: a theorem each).
-/
import Derived.Test.YtnpaddakkniliaaDoorFmt8
import Derived.Test.YtnpaddakkniliaaDoorKept
import Derived.Lib.OthersKept
import Derived.Shelf.Strings.FieldsFuncAny
import Derived.Deep.LoopGhost
namespace Go.Proofs.YtnpaddakkniliaaDoor
open Go.RowKit

def rwxL : List UInt8 := [114, 119, 120, 114, 119, 120, 114, 119, 120]
theorem own_not_iter {w : World} {B n size k pos : Nat} {e : TypeId} {v : Value} {xs : List Value} {s : ByteArray} (h : w.ownsRow B e size v n xs) (hk : w.heap[k]? = some (.stringIter s pos)) : some k ≠ v.ownBlock := by
  intro e
  rcases h.2 with ⟨e1, _⟩ | ⟨g, cap, cur, hv, _, hgg, _⟩
  · rw [e1] at e; cases e
  · rw [hv] at e
    have hg : g = k := by simpa [Value.ownBlock] using e.symm
    rw [hg, hk] at hgg
    cases hgg
theorem sz_all (w : World) (o : Obj) : (w.alloc o).heap.size = w.heap.size + 1 := by simp
/-- One sign of a mode. -/
def sgnC (mode : Int) (i : Nat) : UInt8 := if mode / 2 ^ (8 - i) % 2 = 0 then 45 else rwxL.getD i 0
def sgnL (mode : Int) (q : Nat) : List UInt8 := (List.range q).map (sgnC mode)
theorem sgnL_succ (mode : Int) (q : Nat) : sgnL mode (q + 1) = sgnL mode q ++ [sgnC mode q] := by unfold sgnL; rw [List.range_succ, List.map_append]; rfl
theorem own_lit (w : World) (e : TypeId) (v : Value) : (w.alloc (.cells #[v] e)).ownsRow w.heap.size e 1 (.slice (some ⟨w.heap.size, 0, none⟩) 1 1) 1 [v] :=
  ⟨rfl, .inr ⟨w.heap.size, 1, #[v], rfl, Nat.le_refl _, heap_alloc_new w _, Nat.le_refl _, by decide, rfl, rfl⟩⟩

set_option maxRecDepth 100000 in
set_option maxHeartbeats 8000000 in
theorem text_file (mode : Int) (w : World) :
    Calls Tryd.prog 10 #[.int .u8 1, .int .i64 mode] w fun e w' => e = .returned (.string (str (45 :: sgnL mode 9))) ∧ Below w.heap.size w w' := by
  obtain ⟨i0, hi0, hz0, hz1, hz2⟩ := info_parts infoU8
  have hown0 := own_lit w 5 (.int .u8 45)
  have hB0 : Below w.heap.size w ((w.alloc (.cells #[.int .u8 45] 5)).iter { data := #[114, 119, 120, 114, 119, 120, 114, 119, 120] } 0) := ((Below.refl _ _).alloc (Nat.le_refl _) _).alloc (by simp) _
  have hit0 := World.iter_heap (w.alloc (.cells #[.int .u8 45] 5)) { data := #[114, 119, 120, 114, 119, 120, 114, 119, 120] } 0
  have hownI : ((w.alloc (.cells #[.int .u8 45] 5)).iter { data := #[114, 119, 120, 114, 119, 120, 114, 119, 120] } 0).ownsRow w.heap.size 5 1 (.slice (some ⟨w.heap.size, 0, none⟩) 1 1) 1 [.int .u8 45] := hown0.alloc _
  rw [show (w.alloc (.cells #[.int .u8 45] 5)).heap.size = w.heap.size + 1 from by simp] at hit0
  go_enter Tryd.func10, Tryd.ntmps10
  go_wp2_with fail
  go_loopg [5] 9 (fun g v wx => ∃ q : Nat, q + g = 9 ∧ wx.heap[w.heap.size + 1]? = some (.stringIter { data := #[114, 119, 120, 114, 119, 120, 114, 119, 120] } q) ∧ wx.ownsRow w.heap.size 5 1 v (q + 1) (bv (45 :: sgnL mode q)) ∧ Below w.heap.size w wx ∧ w.heap.size + 2 ≤ wx.heap.size)
  case atStart => exact ⟨0, rfl, hit0, hownI, hB0, by show w.heap.size + 2 ≤ (World.alloc _ _).heap.size; simp⟩
  case round =>
    obtain ⟨q, hqg, hit, hown, hB, hsz⟩ := hrel
    rcases (show q = 0 ∨ q = 1 ∨ q = 2 ∨ q = 3 ∨ q = 4 ∨ q = 5 ∨ q = 6 ∨ q = 7 ∨ q = 8 ∨ q = 9 by omega) with rfl | rfl | rfl | rfl | rfl | rfl | rfl | rfl | rfl | rfl
    · have hnx : ∀ ty, (Instr.next (.pointer (some ⟨w.heap.size + 1, 0, none⟩)) true ty).run Tryd.prog wr = .ok (.tuple #[.bool true, .int .i64 0, .int .i32 114]) (wr.iterAt (w.heap.size + 1) { data := #[114, 119, 120, 114, 119, 120, 114, 119, 120] } 1) := fun ty => Lib.run_next_ascii_at wr (w.heap.size + 1) { data := #[114, 119, 120, 114, 119, 120, 114, 119, 120] } 0 ty hit (by decide) (by decide)
      have hit2 := Lib.iterAt_heap wr (w.heap.size + 1) { data := #[114, 119, 120, 114, 119, 120, 114, 119, 120] } 0 1 hit
      have hown2 := Go.Proofs.own_iterAt hown hit 1
      have hB2 := Lib.below_iterAt hB (Nat.le_succ _) { data := #[114, 119, 120, 114, 119, 120, 114, 119, 120] } 1
      have hs2 := Lib.iterAt_size wr (w.heap.size + 1) { data := #[114, 119, 120, 114, 119, 120, 114, 119, 120] } 1
      obtain ⟨W, hW⟩ : ∃ W, W = wr.iterAt (w.heap.size + 1) { data := #[114, 119, 120, 114, 119, 120, 114, 119, 120] } 1 := ⟨_, rfl⟩
      rw [← hW] at hnx hit2 hown2 hB2 hs2
      obtain ⟨m, hm⟩ : ∃ m, m = mode / 256 := ⟨_, rfl⟩
      have ha := and1 m
      have hsg : sgnC mode 0 = if m % 2 = 0 then 45 else 114 := by rw [hm]; rfl
      have hg' : gk = 8 + 1 := by omega
      subst hg'
      clear hW hit hown hB
      by_cases hb : m % 2 = 0
      · rw [if_pos hb] at hsg
        have hHS := Lib.hid hsg
        have ha2 : bits .and .i64 m 1 = 0 := by rw [ha]; omega
        rw [hm] at ha2
        clear hsg ha hb
        go_wp2_with (at_builtin; refine wpList_append_own _ rfl (.tmp 33) (.tmp 36) 33 rfl w.heap.size 5 i0 (.int .u8 0) 1 1 Tryd.underlying33 hi0 hz0 hz1 hz2 rfl (by decide) _ _ _ rfl (hown2.alloc _) ⟨wr.heap.size, 0, none⟩ 1 1 [.int .u8 45] rfl rfl (by have h := cells_new W #[.int .u8 45] 5; rw [hs2] at h; exact h) (fun u hu => by rw [List.mem_singleton.1 hu]; rfl) (by unfold maxLen; omega) (by omega) (by simp; omega) ?_; intro v4 w4 hown4 hg4 _)
        have hB4 : Below w.heap.size w w4 := (hB2.alloc (by omega) _).grown hg4 (by simp; omega) (own_ge hown2)
        have hit4 : w4.heap[w.heap.size + 1]? = some (.stringIter { data := #[114, 119, 120, 114, 119, 120, 114, 119, 120] } 1) := by
          rw [hg4.block (w.heap.size + 1) (by simp; omega) (own_not_iter hown2 hit2)]
          exact (Below.heap_alloc W _ (w.heap.size + 1) (by omega)).trans hit2
        have hown5 : w4.ownsRow w.heap.size 5 1 v4 (1 + 1) (bv (45 :: sgnL mode 1)) := by
          rw [sgnL_succ, hHS.out, show bv (45 :: (sgnL mode 0 ++ [45])) = bv (45 :: sgnL mode 0) ++ [.int .u8 45] from by simp [bv]]
          exact hown4
        have hs4 := hB4.size
        have hs5 := hg4.size
        simp only [sz_all] at hs5
        go_wp2_with fail
        go_roundg 8
        case measure => omega
        case rel => exact ⟨1, by omega, hit4, hown5, hB4, by omega⟩
      · rw [if_neg hb] at hsg
        have hHS := Lib.hid hsg
        have ha2 : bits .and .i64 m 1 = 1 := by rw [ha]; omega
        rw [hm] at ha2
        clear hsg ha hb
        go_wp2_with (at_builtin; refine wpList_append_own _ rfl (.tmp 33) (.tmp 36) 33 rfl w.heap.size 5 i0 (.int .u8 0) 1 1 Tryd.underlying33 hi0 hz0 hz1 hz2 rfl (by decide) _ _ _ rfl (hown2.alloc _) ⟨wr.heap.size, 0, none⟩ 1 1 [.int .u8 114] rfl rfl (by have h := cells_new W #[.int .u8 114] 5; rw [hs2] at h; exact h) (fun u hu => by rw [List.mem_singleton.1 hu]; rfl) (by unfold maxLen; omega) (by omega) (by simp; omega) ?_; intro v4 w4 hown4 hg4 _)
        have hB4 : Below w.heap.size w w4 := (hB2.alloc (by omega) _).grown hg4 (by simp; omega) (own_ge hown2)
        have hit4 : w4.heap[w.heap.size + 1]? = some (.stringIter { data := #[114, 119, 120, 114, 119, 120, 114, 119, 120] } 1) := by
          rw [hg4.block (w.heap.size + 1) (by simp; omega) (own_not_iter hown2 hit2)]
          exact (Below.heap_alloc W _ (w.heap.size + 1) (by omega)).trans hit2
        have hown5 : w4.ownsRow w.heap.size 5 1 v4 (1 + 1) (bv (45 :: sgnL mode 1)) := by
          rw [sgnL_succ, hHS.out, show bv (45 :: (sgnL mode 0 ++ [114])) = bv (45 :: sgnL mode 0) ++ [.int .u8 114] from by simp [bv]]
          exact hown4
        have hs4 := hB4.size
        have hs5 := hg4.size
        simp only [sz_all] at hs5
        go_wp2_with fail
        go_roundg 8
        case measure => omega
        case rel => exact ⟨1, by omega, hit4, hown5, hB4, by omega⟩
    · have hnx : ∀ ty, (Instr.next (.pointer (some ⟨w.heap.size + 1, 0, none⟩)) true ty).run Tryd.prog wr = .ok (.tuple #[.bool true, .int .i64 1, .int .i32 119]) (wr.iterAt (w.heap.size + 1) { data := #[114, 119, 120, 114, 119, 120, 114, 119, 120] } 2) := fun ty => Lib.run_next_ascii_at wr (w.heap.size + 1) { data := #[114, 119, 120, 114, 119, 120, 114, 119, 120] } 1 ty hit (by decide) (by decide)
      have hit2 := Lib.iterAt_heap wr (w.heap.size + 1) { data := #[114, 119, 120, 114, 119, 120, 114, 119, 120] } 1 2 hit
      have hown2 := Go.Proofs.own_iterAt hown hit 2
      have hB2 := Lib.below_iterAt hB (Nat.le_succ _) { data := #[114, 119, 120, 114, 119, 120, 114, 119, 120] } 2
      have hs2 := Lib.iterAt_size wr (w.heap.size + 1) { data := #[114, 119, 120, 114, 119, 120, 114, 119, 120] } 2
      obtain ⟨W, hW⟩ : ∃ W, W = wr.iterAt (w.heap.size + 1) { data := #[114, 119, 120, 114, 119, 120, 114, 119, 120] } 2 := ⟨_, rfl⟩
      rw [← hW] at hnx hit2 hown2 hB2 hs2
      obtain ⟨m, hm⟩ : ∃ m, m = mode / 128 := ⟨_, rfl⟩
      have ha := and1 m
      have hsg : sgnC mode 1 = if m % 2 = 0 then 45 else 119 := by rw [hm]; rfl
      have hg' : gk = 7 + 1 := by omega
      subst hg'
      clear hW hit hown hB
      by_cases hb : m % 2 = 0
      · rw [if_pos hb] at hsg
        have hHS := Lib.hid hsg
        have ha2 : bits .and .i64 m 1 = 0 := by rw [ha]; omega
        rw [hm] at ha2
        clear hsg ha hb
        go_wp2_with (at_builtin; refine wpList_append_own _ rfl (.tmp 33) (.tmp 36) 33 rfl w.heap.size 5 i0 (.int .u8 0) 1 1 Tryd.underlying33 hi0 hz0 hz1 hz2 rfl (by decide) _ _ _ rfl (hown2.alloc _) ⟨wr.heap.size, 0, none⟩ 1 1 [.int .u8 45] rfl rfl (by have h := cells_new W #[.int .u8 45] 5; rw [hs2] at h; exact h) (fun u hu => by rw [List.mem_singleton.1 hu]; rfl) (by unfold maxLen; omega) (by omega) (by simp; omega) ?_; intro v4 w4 hown4 hg4 _)
        have hB4 : Below w.heap.size w w4 := (hB2.alloc (by omega) _).grown hg4 (by simp; omega) (own_ge hown2)
        have hit4 : w4.heap[w.heap.size + 1]? = some (.stringIter { data := #[114, 119, 120, 114, 119, 120, 114, 119, 120] } 2) := by
          rw [hg4.block (w.heap.size + 1) (by simp; omega) (own_not_iter hown2 hit2)]
          exact (Below.heap_alloc W _ (w.heap.size + 1) (by omega)).trans hit2
        have hown5 : w4.ownsRow w.heap.size 5 1 v4 (2 + 1) (bv (45 :: sgnL mode 2)) := by
          rw [sgnL_succ, hHS.out, show bv (45 :: (sgnL mode 1 ++ [45])) = bv (45 :: sgnL mode 1) ++ [.int .u8 45] from by simp [bv]]
          exact hown4
        have hs4 := hB4.size
        have hs5 := hg4.size
        simp only [sz_all] at hs5
        go_wp2_with fail
        go_roundg 7
        case measure => omega
        case rel => exact ⟨2, by omega, hit4, hown5, hB4, by omega⟩
      · rw [if_neg hb] at hsg
        have hHS := Lib.hid hsg
        have ha2 : bits .and .i64 m 1 = 1 := by rw [ha]; omega
        rw [hm] at ha2
        clear hsg ha hb
        go_wp2_with (at_builtin; refine wpList_append_own _ rfl (.tmp 33) (.tmp 36) 33 rfl w.heap.size 5 i0 (.int .u8 0) 1 1 Tryd.underlying33 hi0 hz0 hz1 hz2 rfl (by decide) _ _ _ rfl (hown2.alloc _) ⟨wr.heap.size, 0, none⟩ 1 1 [.int .u8 119] rfl rfl (by have h := cells_new W #[.int .u8 119] 5; rw [hs2] at h; exact h) (fun u hu => by rw [List.mem_singleton.1 hu]; rfl) (by unfold maxLen; omega) (by omega) (by simp; omega) ?_; intro v4 w4 hown4 hg4 _)
        have hB4 : Below w.heap.size w w4 := (hB2.alloc (by omega) _).grown hg4 (by simp; omega) (own_ge hown2)
        have hit4 : w4.heap[w.heap.size + 1]? = some (.stringIter { data := #[114, 119, 120, 114, 119, 120, 114, 119, 120] } 2) := by
          rw [hg4.block (w.heap.size + 1) (by simp; omega) (own_not_iter hown2 hit2)]
          exact (Below.heap_alloc W _ (w.heap.size + 1) (by omega)).trans hit2
        have hown5 : w4.ownsRow w.heap.size 5 1 v4 (2 + 1) (bv (45 :: sgnL mode 2)) := by
          rw [sgnL_succ, hHS.out, show bv (45 :: (sgnL mode 1 ++ [119])) = bv (45 :: sgnL mode 1) ++ [.int .u8 119] from by simp [bv]]
          exact hown4
        have hs4 := hB4.size
        have hs5 := hg4.size
        simp only [sz_all] at hs5
        go_wp2_with fail
        go_roundg 7
        case measure => omega
        case rel => exact ⟨2, by omega, hit4, hown5, hB4, by omega⟩
    · have hnx : ∀ ty, (Instr.next (.pointer (some ⟨w.heap.size + 1, 0, none⟩)) true ty).run Tryd.prog wr = .ok (.tuple #[.bool true, .int .i64 2, .int .i32 120]) (wr.iterAt (w.heap.size + 1) { data := #[114, 119, 120, 114, 119, 120, 114, 119, 120] } 3) := fun ty => Lib.run_next_ascii_at wr (w.heap.size + 1) { data := #[114, 119, 120, 114, 119, 120, 114, 119, 120] } 2 ty hit (by decide) (by decide)
      have hit2 := Lib.iterAt_heap wr (w.heap.size + 1) { data := #[114, 119, 120, 114, 119, 120, 114, 119, 120] } 2 3 hit
      have hown2 := Go.Proofs.own_iterAt hown hit 3
      have hB2 := Lib.below_iterAt hB (Nat.le_succ _) { data := #[114, 119, 120, 114, 119, 120, 114, 119, 120] } 3
      have hs2 := Lib.iterAt_size wr (w.heap.size + 1) { data := #[114, 119, 120, 114, 119, 120, 114, 119, 120] } 3
      obtain ⟨W, hW⟩ : ∃ W, W = wr.iterAt (w.heap.size + 1) { data := #[114, 119, 120, 114, 119, 120, 114, 119, 120] } 3 := ⟨_, rfl⟩
      rw [← hW] at hnx hit2 hown2 hB2 hs2
      obtain ⟨m, hm⟩ : ∃ m, m = mode / 64 := ⟨_, rfl⟩
      have ha := and1 m
      have hsg : sgnC mode 2 = if m % 2 = 0 then 45 else 120 := by rw [hm]; rfl
      have hg' : gk = 6 + 1 := by omega
      subst hg'
      clear hW hit hown hB
      by_cases hb : m % 2 = 0
      · rw [if_pos hb] at hsg
        have hHS := Lib.hid hsg
        have ha2 : bits .and .i64 m 1 = 0 := by rw [ha]; omega
        rw [hm] at ha2
        clear hsg ha hb
        go_wp2_with (at_builtin; refine wpList_append_own _ rfl (.tmp 33) (.tmp 36) 33 rfl w.heap.size 5 i0 (.int .u8 0) 1 1 Tryd.underlying33 hi0 hz0 hz1 hz2 rfl (by decide) _ _ _ rfl (hown2.alloc _) ⟨wr.heap.size, 0, none⟩ 1 1 [.int .u8 45] rfl rfl (by have h := cells_new W #[.int .u8 45] 5; rw [hs2] at h; exact h) (fun u hu => by rw [List.mem_singleton.1 hu]; rfl) (by unfold maxLen; omega) (by omega) (by simp; omega) ?_; intro v4 w4 hown4 hg4 _)
        have hB4 : Below w.heap.size w w4 := (hB2.alloc (by omega) _).grown hg4 (by simp; omega) (own_ge hown2)
        have hit4 : w4.heap[w.heap.size + 1]? = some (.stringIter { data := #[114, 119, 120, 114, 119, 120, 114, 119, 120] } 3) := by
          rw [hg4.block (w.heap.size + 1) (by simp; omega) (own_not_iter hown2 hit2)]
          exact (Below.heap_alloc W _ (w.heap.size + 1) (by omega)).trans hit2
        have hown5 : w4.ownsRow w.heap.size 5 1 v4 (3 + 1) (bv (45 :: sgnL mode 3)) := by
          rw [sgnL_succ, hHS.out, show bv (45 :: (sgnL mode 2 ++ [45])) = bv (45 :: sgnL mode 2) ++ [.int .u8 45] from by simp [bv]]
          exact hown4
        have hs4 := hB4.size
        have hs5 := hg4.size
        simp only [sz_all] at hs5
        go_wp2_with fail
        go_roundg 6
        case measure => omega
        case rel => exact ⟨3, by omega, hit4, hown5, hB4, by omega⟩
      · rw [if_neg hb] at hsg
        have hHS := Lib.hid hsg
        have ha2 : bits .and .i64 m 1 = 1 := by rw [ha]; omega
        rw [hm] at ha2
        clear hsg ha hb
        go_wp2_with (at_builtin; refine wpList_append_own _ rfl (.tmp 33) (.tmp 36) 33 rfl w.heap.size 5 i0 (.int .u8 0) 1 1 Tryd.underlying33 hi0 hz0 hz1 hz2 rfl (by decide) _ _ _ rfl (hown2.alloc _) ⟨wr.heap.size, 0, none⟩ 1 1 [.int .u8 120] rfl rfl (by have h := cells_new W #[.int .u8 120] 5; rw [hs2] at h; exact h) (fun u hu => by rw [List.mem_singleton.1 hu]; rfl) (by unfold maxLen; omega) (by omega) (by simp; omega) ?_; intro v4 w4 hown4 hg4 _)
        have hB4 : Below w.heap.size w w4 := (hB2.alloc (by omega) _).grown hg4 (by simp; omega) (own_ge hown2)
        have hit4 : w4.heap[w.heap.size + 1]? = some (.stringIter { data := #[114, 119, 120, 114, 119, 120, 114, 119, 120] } 3) := by
          rw [hg4.block (w.heap.size + 1) (by simp; omega) (own_not_iter hown2 hit2)]
          exact (Below.heap_alloc W _ (w.heap.size + 1) (by omega)).trans hit2
        have hown5 : w4.ownsRow w.heap.size 5 1 v4 (3 + 1) (bv (45 :: sgnL mode 3)) := by
          rw [sgnL_succ, hHS.out, show bv (45 :: (sgnL mode 2 ++ [120])) = bv (45 :: sgnL mode 2) ++ [.int .u8 120] from by simp [bv]]
          exact hown4
        have hs4 := hB4.size
        have hs5 := hg4.size
        simp only [sz_all] at hs5
        go_wp2_with fail
        go_roundg 6
        case measure => omega
        case rel => exact ⟨3, by omega, hit4, hown5, hB4, by omega⟩
    · have hnx : ∀ ty, (Instr.next (.pointer (some ⟨w.heap.size + 1, 0, none⟩)) true ty).run Tryd.prog wr = .ok (.tuple #[.bool true, .int .i64 3, .int .i32 114]) (wr.iterAt (w.heap.size + 1) { data := #[114, 119, 120, 114, 119, 120, 114, 119, 120] } 4) := fun ty => Lib.run_next_ascii_at wr (w.heap.size + 1) { data := #[114, 119, 120, 114, 119, 120, 114, 119, 120] } 3 ty hit (by decide) (by decide)
      have hit2 := Lib.iterAt_heap wr (w.heap.size + 1) { data := #[114, 119, 120, 114, 119, 120, 114, 119, 120] } 3 4 hit
      have hown2 := Go.Proofs.own_iterAt hown hit 4
      have hB2 := Lib.below_iterAt hB (Nat.le_succ _) { data := #[114, 119, 120, 114, 119, 120, 114, 119, 120] } 4
      have hs2 := Lib.iterAt_size wr (w.heap.size + 1) { data := #[114, 119, 120, 114, 119, 120, 114, 119, 120] } 4
      obtain ⟨W, hW⟩ : ∃ W, W = wr.iterAt (w.heap.size + 1) { data := #[114, 119, 120, 114, 119, 120, 114, 119, 120] } 4 := ⟨_, rfl⟩
      rw [← hW] at hnx hit2 hown2 hB2 hs2
      obtain ⟨m, hm⟩ : ∃ m, m = mode / 32 := ⟨_, rfl⟩
      have ha := and1 m
      have hsg : sgnC mode 3 = if m % 2 = 0 then 45 else 114 := by rw [hm]; rfl
      have hg' : gk = 5 + 1 := by omega
      subst hg'
      clear hW hit hown hB
      by_cases hb : m % 2 = 0
      · rw [if_pos hb] at hsg
        have hHS := Lib.hid hsg
        have ha2 : bits .and .i64 m 1 = 0 := by rw [ha]; omega
        rw [hm] at ha2
        clear hsg ha hb
        go_wp2_with (at_builtin; refine wpList_append_own _ rfl (.tmp 33) (.tmp 36) 33 rfl w.heap.size 5 i0 (.int .u8 0) 1 1 Tryd.underlying33 hi0 hz0 hz1 hz2 rfl (by decide) _ _ _ rfl (hown2.alloc _) ⟨wr.heap.size, 0, none⟩ 1 1 [.int .u8 45] rfl rfl (by have h := cells_new W #[.int .u8 45] 5; rw [hs2] at h; exact h) (fun u hu => by rw [List.mem_singleton.1 hu]; rfl) (by unfold maxLen; omega) (by omega) (by simp; omega) ?_; intro v4 w4 hown4 hg4 _)
        have hB4 : Below w.heap.size w w4 := (hB2.alloc (by omega) _).grown hg4 (by simp; omega) (own_ge hown2)
        have hit4 : w4.heap[w.heap.size + 1]? = some (.stringIter { data := #[114, 119, 120, 114, 119, 120, 114, 119, 120] } 4) := by
          rw [hg4.block (w.heap.size + 1) (by simp; omega) (own_not_iter hown2 hit2)]
          exact (Below.heap_alloc W _ (w.heap.size + 1) (by omega)).trans hit2
        have hown5 : w4.ownsRow w.heap.size 5 1 v4 (4 + 1) (bv (45 :: sgnL mode 4)) := by
          rw [sgnL_succ, hHS.out, show bv (45 :: (sgnL mode 3 ++ [45])) = bv (45 :: sgnL mode 3) ++ [.int .u8 45] from by simp [bv]]
          exact hown4
        have hs4 := hB4.size
        have hs5 := hg4.size
        simp only [sz_all] at hs5
        go_wp2_with fail
        go_roundg 5
        case measure => omega
        case rel => exact ⟨4, by omega, hit4, hown5, hB4, by omega⟩
      · rw [if_neg hb] at hsg
        have hHS := Lib.hid hsg
        have ha2 : bits .and .i64 m 1 = 1 := by rw [ha]; omega
        rw [hm] at ha2
        clear hsg ha hb
        go_wp2_with (at_builtin; refine wpList_append_own _ rfl (.tmp 33) (.tmp 36) 33 rfl w.heap.size 5 i0 (.int .u8 0) 1 1 Tryd.underlying33 hi0 hz0 hz1 hz2 rfl (by decide) _ _ _ rfl (hown2.alloc _) ⟨wr.heap.size, 0, none⟩ 1 1 [.int .u8 114] rfl rfl (by have h := cells_new W #[.int .u8 114] 5; rw [hs2] at h; exact h) (fun u hu => by rw [List.mem_singleton.1 hu]; rfl) (by unfold maxLen; omega) (by omega) (by simp; omega) ?_; intro v4 w4 hown4 hg4 _)
        have hB4 : Below w.heap.size w w4 := (hB2.alloc (by omega) _).grown hg4 (by simp; omega) (own_ge hown2)
        have hit4 : w4.heap[w.heap.size + 1]? = some (.stringIter { data := #[114, 119, 120, 114, 119, 120, 114, 119, 120] } 4) := by
          rw [hg4.block (w.heap.size + 1) (by simp; omega) (own_not_iter hown2 hit2)]
          exact (Below.heap_alloc W _ (w.heap.size + 1) (by omega)).trans hit2
        have hown5 : w4.ownsRow w.heap.size 5 1 v4 (4 + 1) (bv (45 :: sgnL mode 4)) := by
          rw [sgnL_succ, hHS.out, show bv (45 :: (sgnL mode 3 ++ [114])) = bv (45 :: sgnL mode 3) ++ [.int .u8 114] from by simp [bv]]
          exact hown4
        have hs4 := hB4.size
        have hs5 := hg4.size
        simp only [sz_all] at hs5
        go_wp2_with fail
        go_roundg 5
        case measure => omega
        case rel => exact ⟨4, by omega, hit4, hown5, hB4, by omega⟩
    · have hnx : ∀ ty, (Instr.next (.pointer (some ⟨w.heap.size + 1, 0, none⟩)) true ty).run Tryd.prog wr = .ok (.tuple #[.bool true, .int .i64 4, .int .i32 119]) (wr.iterAt (w.heap.size + 1) { data := #[114, 119, 120, 114, 119, 120, 114, 119, 120] } 5) := fun ty => Lib.run_next_ascii_at wr (w.heap.size + 1) { data := #[114, 119, 120, 114, 119, 120, 114, 119, 120] } 4 ty hit (by decide) (by decide)
      have hit2 := Lib.iterAt_heap wr (w.heap.size + 1) { data := #[114, 119, 120, 114, 119, 120, 114, 119, 120] } 4 5 hit
      have hown2 := Go.Proofs.own_iterAt hown hit 5
      have hB2 := Lib.below_iterAt hB (Nat.le_succ _) { data := #[114, 119, 120, 114, 119, 120, 114, 119, 120] } 5
      have hs2 := Lib.iterAt_size wr (w.heap.size + 1) { data := #[114, 119, 120, 114, 119, 120, 114, 119, 120] } 5
      obtain ⟨W, hW⟩ : ∃ W, W = wr.iterAt (w.heap.size + 1) { data := #[114, 119, 120, 114, 119, 120, 114, 119, 120] } 5 := ⟨_, rfl⟩
      rw [← hW] at hnx hit2 hown2 hB2 hs2
      obtain ⟨m, hm⟩ : ∃ m, m = mode / 16 := ⟨_, rfl⟩
      have ha := and1 m
      have hsg : sgnC mode 4 = if m % 2 = 0 then 45 else 119 := by rw [hm]; rfl
      have hg' : gk = 4 + 1 := by omega
      subst hg'
      clear hW hit hown hB
      by_cases hb : m % 2 = 0
      · rw [if_pos hb] at hsg
        have hHS := Lib.hid hsg
        have ha2 : bits .and .i64 m 1 = 0 := by rw [ha]; omega
        rw [hm] at ha2
        clear hsg ha hb
        go_wp2_with (at_builtin; refine wpList_append_own _ rfl (.tmp 33) (.tmp 36) 33 rfl w.heap.size 5 i0 (.int .u8 0) 1 1 Tryd.underlying33 hi0 hz0 hz1 hz2 rfl (by decide) _ _ _ rfl (hown2.alloc _) ⟨wr.heap.size, 0, none⟩ 1 1 [.int .u8 45] rfl rfl (by have h := cells_new W #[.int .u8 45] 5; rw [hs2] at h; exact h) (fun u hu => by rw [List.mem_singleton.1 hu]; rfl) (by unfold maxLen; omega) (by omega) (by simp; omega) ?_; intro v4 w4 hown4 hg4 _)
        have hB4 : Below w.heap.size w w4 := (hB2.alloc (by omega) _).grown hg4 (by simp; omega) (own_ge hown2)
        have hit4 : w4.heap[w.heap.size + 1]? = some (.stringIter { data := #[114, 119, 120, 114, 119, 120, 114, 119, 120] } 5) := by
          rw [hg4.block (w.heap.size + 1) (by simp; omega) (own_not_iter hown2 hit2)]
          exact (Below.heap_alloc W _ (w.heap.size + 1) (by omega)).trans hit2
        have hown5 : w4.ownsRow w.heap.size 5 1 v4 (5 + 1) (bv (45 :: sgnL mode 5)) := by
          rw [sgnL_succ, hHS.out, show bv (45 :: (sgnL mode 4 ++ [45])) = bv (45 :: sgnL mode 4) ++ [.int .u8 45] from by simp [bv]]
          exact hown4
        have hs4 := hB4.size
        have hs5 := hg4.size
        simp only [sz_all] at hs5
        go_wp2_with fail
        go_roundg 4
        case measure => omega
        case rel => exact ⟨5, by omega, hit4, hown5, hB4, by omega⟩
      · rw [if_neg hb] at hsg
        have hHS := Lib.hid hsg
        have ha2 : bits .and .i64 m 1 = 1 := by rw [ha]; omega
        rw [hm] at ha2
        clear hsg ha hb
        go_wp2_with (at_builtin; refine wpList_append_own _ rfl (.tmp 33) (.tmp 36) 33 rfl w.heap.size 5 i0 (.int .u8 0) 1 1 Tryd.underlying33 hi0 hz0 hz1 hz2 rfl (by decide) _ _ _ rfl (hown2.alloc _) ⟨wr.heap.size, 0, none⟩ 1 1 [.int .u8 119] rfl rfl (by have h := cells_new W #[.int .u8 119] 5; rw [hs2] at h; exact h) (fun u hu => by rw [List.mem_singleton.1 hu]; rfl) (by unfold maxLen; omega) (by omega) (by simp; omega) ?_; intro v4 w4 hown4 hg4 _)
        have hB4 : Below w.heap.size w w4 := (hB2.alloc (by omega) _).grown hg4 (by simp; omega) (own_ge hown2)
        have hit4 : w4.heap[w.heap.size + 1]? = some (.stringIter { data := #[114, 119, 120, 114, 119, 120, 114, 119, 120] } 5) := by
          rw [hg4.block (w.heap.size + 1) (by simp; omega) (own_not_iter hown2 hit2)]
          exact (Below.heap_alloc W _ (w.heap.size + 1) (by omega)).trans hit2
        have hown5 : w4.ownsRow w.heap.size 5 1 v4 (5 + 1) (bv (45 :: sgnL mode 5)) := by
          rw [sgnL_succ, hHS.out, show bv (45 :: (sgnL mode 4 ++ [119])) = bv (45 :: sgnL mode 4) ++ [.int .u8 119] from by simp [bv]]
          exact hown4
        have hs4 := hB4.size
        have hs5 := hg4.size
        simp only [sz_all] at hs5
        go_wp2_with fail
        go_roundg 4
        case measure => omega
        case rel => exact ⟨5, by omega, hit4, hown5, hB4, by omega⟩
    · have hnx : ∀ ty, (Instr.next (.pointer (some ⟨w.heap.size + 1, 0, none⟩)) true ty).run Tryd.prog wr = .ok (.tuple #[.bool true, .int .i64 5, .int .i32 120]) (wr.iterAt (w.heap.size + 1) { data := #[114, 119, 120, 114, 119, 120, 114, 119, 120] } 6) := fun ty => Lib.run_next_ascii_at wr (w.heap.size + 1) { data := #[114, 119, 120, 114, 119, 120, 114, 119, 120] } 5 ty hit (by decide) (by decide)
      have hit2 := Lib.iterAt_heap wr (w.heap.size + 1) { data := #[114, 119, 120, 114, 119, 120, 114, 119, 120] } 5 6 hit
      have hown2 := Go.Proofs.own_iterAt hown hit 6
      have hB2 := Lib.below_iterAt hB (Nat.le_succ _) { data := #[114, 119, 120, 114, 119, 120, 114, 119, 120] } 6
      have hs2 := Lib.iterAt_size wr (w.heap.size + 1) { data := #[114, 119, 120, 114, 119, 120, 114, 119, 120] } 6
      obtain ⟨W, hW⟩ : ∃ W, W = wr.iterAt (w.heap.size + 1) { data := #[114, 119, 120, 114, 119, 120, 114, 119, 120] } 6 := ⟨_, rfl⟩
      rw [← hW] at hnx hit2 hown2 hB2 hs2
      obtain ⟨m, hm⟩ : ∃ m, m = mode / 8 := ⟨_, rfl⟩
      have ha := and1 m
      have hsg : sgnC mode 5 = if m % 2 = 0 then 45 else 120 := by rw [hm]; rfl
      have hg' : gk = 3 + 1 := by omega
      subst hg'
      clear hW hit hown hB
      by_cases hb : m % 2 = 0
      · rw [if_pos hb] at hsg
        have hHS := Lib.hid hsg
        have ha2 : bits .and .i64 m 1 = 0 := by rw [ha]; omega
        rw [hm] at ha2
        clear hsg ha hb
        go_wp2_with (at_builtin; refine wpList_append_own _ rfl (.tmp 33) (.tmp 36) 33 rfl w.heap.size 5 i0 (.int .u8 0) 1 1 Tryd.underlying33 hi0 hz0 hz1 hz2 rfl (by decide) _ _ _ rfl (hown2.alloc _) ⟨wr.heap.size, 0, none⟩ 1 1 [.int .u8 45] rfl rfl (by have h := cells_new W #[.int .u8 45] 5; rw [hs2] at h; exact h) (fun u hu => by rw [List.mem_singleton.1 hu]; rfl) (by unfold maxLen; omega) (by omega) (by simp; omega) ?_; intro v4 w4 hown4 hg4 _)
        have hB4 : Below w.heap.size w w4 := (hB2.alloc (by omega) _).grown hg4 (by simp; omega) (own_ge hown2)
        have hit4 : w4.heap[w.heap.size + 1]? = some (.stringIter { data := #[114, 119, 120, 114, 119, 120, 114, 119, 120] } 6) := by
          rw [hg4.block (w.heap.size + 1) (by simp; omega) (own_not_iter hown2 hit2)]
          exact (Below.heap_alloc W _ (w.heap.size + 1) (by omega)).trans hit2
        have hown5 : w4.ownsRow w.heap.size 5 1 v4 (6 + 1) (bv (45 :: sgnL mode 6)) := by
          rw [sgnL_succ, hHS.out, show bv (45 :: (sgnL mode 5 ++ [45])) = bv (45 :: sgnL mode 5) ++ [.int .u8 45] from by simp [bv]]
          exact hown4
        have hs4 := hB4.size
        have hs5 := hg4.size
        simp only [sz_all] at hs5
        go_wp2_with fail
        go_roundg 3
        case measure => omega
        case rel => exact ⟨6, by omega, hit4, hown5, hB4, by omega⟩
      · rw [if_neg hb] at hsg
        have hHS := Lib.hid hsg
        have ha2 : bits .and .i64 m 1 = 1 := by rw [ha]; omega
        rw [hm] at ha2
        clear hsg ha hb
        go_wp2_with (at_builtin; refine wpList_append_own _ rfl (.tmp 33) (.tmp 36) 33 rfl w.heap.size 5 i0 (.int .u8 0) 1 1 Tryd.underlying33 hi0 hz0 hz1 hz2 rfl (by decide) _ _ _ rfl (hown2.alloc _) ⟨wr.heap.size, 0, none⟩ 1 1 [.int .u8 120] rfl rfl (by have h := cells_new W #[.int .u8 120] 5; rw [hs2] at h; exact h) (fun u hu => by rw [List.mem_singleton.1 hu]; rfl) (by unfold maxLen; omega) (by omega) (by simp; omega) ?_; intro v4 w4 hown4 hg4 _)
        have hB4 : Below w.heap.size w w4 := (hB2.alloc (by omega) _).grown hg4 (by simp; omega) (own_ge hown2)
        have hit4 : w4.heap[w.heap.size + 1]? = some (.stringIter { data := #[114, 119, 120, 114, 119, 120, 114, 119, 120] } 6) := by
          rw [hg4.block (w.heap.size + 1) (by simp; omega) (own_not_iter hown2 hit2)]
          exact (Below.heap_alloc W _ (w.heap.size + 1) (by omega)).trans hit2
        have hown5 : w4.ownsRow w.heap.size 5 1 v4 (6 + 1) (bv (45 :: sgnL mode 6)) := by
          rw [sgnL_succ, hHS.out, show bv (45 :: (sgnL mode 5 ++ [120])) = bv (45 :: sgnL mode 5) ++ [.int .u8 120] from by simp [bv]]
          exact hown4
        have hs4 := hB4.size
        have hs5 := hg4.size
        simp only [sz_all] at hs5
        go_wp2_with fail
        go_roundg 3
        case measure => omega
        case rel => exact ⟨6, by omega, hit4, hown5, hB4, by omega⟩
    · have hnx : ∀ ty, (Instr.next (.pointer (some ⟨w.heap.size + 1, 0, none⟩)) true ty).run Tryd.prog wr = .ok (.tuple #[.bool true, .int .i64 6, .int .i32 114]) (wr.iterAt (w.heap.size + 1) { data := #[114, 119, 120, 114, 119, 120, 114, 119, 120] } 7) := fun ty => Lib.run_next_ascii_at wr (w.heap.size + 1) { data := #[114, 119, 120, 114, 119, 120, 114, 119, 120] } 6 ty hit (by decide) (by decide)
      have hit2 := Lib.iterAt_heap wr (w.heap.size + 1) { data := #[114, 119, 120, 114, 119, 120, 114, 119, 120] } 6 7 hit
      have hown2 := Go.Proofs.own_iterAt hown hit 7
      have hB2 := Lib.below_iterAt hB (Nat.le_succ _) { data := #[114, 119, 120, 114, 119, 120, 114, 119, 120] } 7
      have hs2 := Lib.iterAt_size wr (w.heap.size + 1) { data := #[114, 119, 120, 114, 119, 120, 114, 119, 120] } 7
      obtain ⟨W, hW⟩ : ∃ W, W = wr.iterAt (w.heap.size + 1) { data := #[114, 119, 120, 114, 119, 120, 114, 119, 120] } 7 := ⟨_, rfl⟩
      rw [← hW] at hnx hit2 hown2 hB2 hs2
      obtain ⟨m, hm⟩ : ∃ m, m = mode / 4 := ⟨_, rfl⟩
      have ha := and1 m
      have hsg : sgnC mode 6 = if m % 2 = 0 then 45 else 114 := by rw [hm]; rfl
      have hg' : gk = 2 + 1 := by omega
      subst hg'
      clear hW hit hown hB
      by_cases hb : m % 2 = 0
      · rw [if_pos hb] at hsg
        have hHS := Lib.hid hsg
        have ha2 : bits .and .i64 m 1 = 0 := by rw [ha]; omega
        rw [hm] at ha2
        clear hsg ha hb
        go_wp2_with (at_builtin; refine wpList_append_own _ rfl (.tmp 33) (.tmp 36) 33 rfl w.heap.size 5 i0 (.int .u8 0) 1 1 Tryd.underlying33 hi0 hz0 hz1 hz2 rfl (by decide) _ _ _ rfl (hown2.alloc _) ⟨wr.heap.size, 0, none⟩ 1 1 [.int .u8 45] rfl rfl (by have h := cells_new W #[.int .u8 45] 5; rw [hs2] at h; exact h) (fun u hu => by rw [List.mem_singleton.1 hu]; rfl) (by unfold maxLen; omega) (by omega) (by simp; omega) ?_; intro v4 w4 hown4 hg4 _)
        have hB4 : Below w.heap.size w w4 := (hB2.alloc (by omega) _).grown hg4 (by simp; omega) (own_ge hown2)
        have hit4 : w4.heap[w.heap.size + 1]? = some (.stringIter { data := #[114, 119, 120, 114, 119, 120, 114, 119, 120] } 7) := by
          rw [hg4.block (w.heap.size + 1) (by simp; omega) (own_not_iter hown2 hit2)]
          exact (Below.heap_alloc W _ (w.heap.size + 1) (by omega)).trans hit2
        have hown5 : w4.ownsRow w.heap.size 5 1 v4 (7 + 1) (bv (45 :: sgnL mode 7)) := by
          rw [sgnL_succ, hHS.out, show bv (45 :: (sgnL mode 6 ++ [45])) = bv (45 :: sgnL mode 6) ++ [.int .u8 45] from by simp [bv]]
          exact hown4
        have hs4 := hB4.size
        have hs5 := hg4.size
        simp only [sz_all] at hs5
        go_wp2_with fail
        go_roundg 2
        case measure => omega
        case rel => exact ⟨7, by omega, hit4, hown5, hB4, by omega⟩
      · rw [if_neg hb] at hsg
        have hHS := Lib.hid hsg
        have ha2 : bits .and .i64 m 1 = 1 := by rw [ha]; omega
        rw [hm] at ha2
        clear hsg ha hb
        go_wp2_with (at_builtin; refine wpList_append_own _ rfl (.tmp 33) (.tmp 36) 33 rfl w.heap.size 5 i0 (.int .u8 0) 1 1 Tryd.underlying33 hi0 hz0 hz1 hz2 rfl (by decide) _ _ _ rfl (hown2.alloc _) ⟨wr.heap.size, 0, none⟩ 1 1 [.int .u8 114] rfl rfl (by have h := cells_new W #[.int .u8 114] 5; rw [hs2] at h; exact h) (fun u hu => by rw [List.mem_singleton.1 hu]; rfl) (by unfold maxLen; omega) (by omega) (by simp; omega) ?_; intro v4 w4 hown4 hg4 _)
        have hB4 : Below w.heap.size w w4 := (hB2.alloc (by omega) _).grown hg4 (by simp; omega) (own_ge hown2)
        have hit4 : w4.heap[w.heap.size + 1]? = some (.stringIter { data := #[114, 119, 120, 114, 119, 120, 114, 119, 120] } 7) := by
          rw [hg4.block (w.heap.size + 1) (by simp; omega) (own_not_iter hown2 hit2)]
          exact (Below.heap_alloc W _ (w.heap.size + 1) (by omega)).trans hit2
        have hown5 : w4.ownsRow w.heap.size 5 1 v4 (7 + 1) (bv (45 :: sgnL mode 7)) := by
          rw [sgnL_succ, hHS.out, show bv (45 :: (sgnL mode 6 ++ [114])) = bv (45 :: sgnL mode 6) ++ [.int .u8 114] from by simp [bv]]
          exact hown4
        have hs4 := hB4.size
        have hs5 := hg4.size
        simp only [sz_all] at hs5
        go_wp2_with fail
        go_roundg 2
        case measure => omega
        case rel => exact ⟨7, by omega, hit4, hown5, hB4, by omega⟩
    · have hnx : ∀ ty, (Instr.next (.pointer (some ⟨w.heap.size + 1, 0, none⟩)) true ty).run Tryd.prog wr = .ok (.tuple #[.bool true, .int .i64 7, .int .i32 119]) (wr.iterAt (w.heap.size + 1) { data := #[114, 119, 120, 114, 119, 120, 114, 119, 120] } 8) := fun ty => Lib.run_next_ascii_at wr (w.heap.size + 1) { data := #[114, 119, 120, 114, 119, 120, 114, 119, 120] } 7 ty hit (by decide) (by decide)
      have hit2 := Lib.iterAt_heap wr (w.heap.size + 1) { data := #[114, 119, 120, 114, 119, 120, 114, 119, 120] } 7 8 hit
      have hown2 := Go.Proofs.own_iterAt hown hit 8
      have hB2 := Lib.below_iterAt hB (Nat.le_succ _) { data := #[114, 119, 120, 114, 119, 120, 114, 119, 120] } 8
      have hs2 := Lib.iterAt_size wr (w.heap.size + 1) { data := #[114, 119, 120, 114, 119, 120, 114, 119, 120] } 8
      obtain ⟨W, hW⟩ : ∃ W, W = wr.iterAt (w.heap.size + 1) { data := #[114, 119, 120, 114, 119, 120, 114, 119, 120] } 8 := ⟨_, rfl⟩
      rw [← hW] at hnx hit2 hown2 hB2 hs2
      obtain ⟨m, hm⟩ : ∃ m, m = mode / 2 := ⟨_, rfl⟩
      have ha := and1 m
      have hsg : sgnC mode 7 = if m % 2 = 0 then 45 else 119 := by rw [hm]; rfl
      have hg' : gk = 1 + 1 := by omega
      subst hg'
      clear hW hit hown hB
      by_cases hb : m % 2 = 0
      · rw [if_pos hb] at hsg
        have hHS := Lib.hid hsg
        have ha2 : bits .and .i64 m 1 = 0 := by rw [ha]; omega
        rw [hm] at ha2
        clear hsg ha hb
        go_wp2_with (at_builtin; refine wpList_append_own _ rfl (.tmp 33) (.tmp 36) 33 rfl w.heap.size 5 i0 (.int .u8 0) 1 1 Tryd.underlying33 hi0 hz0 hz1 hz2 rfl (by decide) _ _ _ rfl (hown2.alloc _) ⟨wr.heap.size, 0, none⟩ 1 1 [.int .u8 45] rfl rfl (by have h := cells_new W #[.int .u8 45] 5; rw [hs2] at h; exact h) (fun u hu => by rw [List.mem_singleton.1 hu]; rfl) (by unfold maxLen; omega) (by omega) (by simp; omega) ?_; intro v4 w4 hown4 hg4 _)
        have hB4 : Below w.heap.size w w4 := (hB2.alloc (by omega) _).grown hg4 (by simp; omega) (own_ge hown2)
        have hit4 : w4.heap[w.heap.size + 1]? = some (.stringIter { data := #[114, 119, 120, 114, 119, 120, 114, 119, 120] } 8) := by
          rw [hg4.block (w.heap.size + 1) (by simp; omega) (own_not_iter hown2 hit2)]
          exact (Below.heap_alloc W _ (w.heap.size + 1) (by omega)).trans hit2
        have hown5 : w4.ownsRow w.heap.size 5 1 v4 (8 + 1) (bv (45 :: sgnL mode 8)) := by
          rw [sgnL_succ, hHS.out, show bv (45 :: (sgnL mode 7 ++ [45])) = bv (45 :: sgnL mode 7) ++ [.int .u8 45] from by simp [bv]]
          exact hown4
        have hs4 := hB4.size
        have hs5 := hg4.size
        simp only [sz_all] at hs5
        go_wp2_with fail
        go_roundg 1
        case measure => omega
        case rel => exact ⟨8, by omega, hit4, hown5, hB4, by omega⟩
      · rw [if_neg hb] at hsg
        have hHS := Lib.hid hsg
        have ha2 : bits .and .i64 m 1 = 1 := by rw [ha]; omega
        rw [hm] at ha2
        clear hsg ha hb
        go_wp2_with (at_builtin; refine wpList_append_own _ rfl (.tmp 33) (.tmp 36) 33 rfl w.heap.size 5 i0 (.int .u8 0) 1 1 Tryd.underlying33 hi0 hz0 hz1 hz2 rfl (by decide) _ _ _ rfl (hown2.alloc _) ⟨wr.heap.size, 0, none⟩ 1 1 [.int .u8 119] rfl rfl (by have h := cells_new W #[.int .u8 119] 5; rw [hs2] at h; exact h) (fun u hu => by rw [List.mem_singleton.1 hu]; rfl) (by unfold maxLen; omega) (by omega) (by simp; omega) ?_; intro v4 w4 hown4 hg4 _)
        have hB4 : Below w.heap.size w w4 := (hB2.alloc (by omega) _).grown hg4 (by simp; omega) (own_ge hown2)
        have hit4 : w4.heap[w.heap.size + 1]? = some (.stringIter { data := #[114, 119, 120, 114, 119, 120, 114, 119, 120] } 8) := by
          rw [hg4.block (w.heap.size + 1) (by simp; omega) (own_not_iter hown2 hit2)]
          exact (Below.heap_alloc W _ (w.heap.size + 1) (by omega)).trans hit2
        have hown5 : w4.ownsRow w.heap.size 5 1 v4 (8 + 1) (bv (45 :: sgnL mode 8)) := by
          rw [sgnL_succ, hHS.out, show bv (45 :: (sgnL mode 7 ++ [119])) = bv (45 :: sgnL mode 7) ++ [.int .u8 119] from by simp [bv]]
          exact hown4
        have hs4 := hB4.size
        have hs5 := hg4.size
        simp only [sz_all] at hs5
        go_wp2_with fail
        go_roundg 1
        case measure => omega
        case rel => exact ⟨8, by omega, hit4, hown5, hB4, by omega⟩
    · have hnx : ∀ ty, (Instr.next (.pointer (some ⟨w.heap.size + 1, 0, none⟩)) true ty).run Tryd.prog wr = .ok (.tuple #[.bool true, .int .i64 8, .int .i32 120]) (wr.iterAt (w.heap.size + 1) { data := #[114, 119, 120, 114, 119, 120, 114, 119, 120] } 9) := fun ty => Lib.run_next_ascii_at wr (w.heap.size + 1) { data := #[114, 119, 120, 114, 119, 120, 114, 119, 120] } 8 ty hit (by decide) (by decide)
      have hit2 := Lib.iterAt_heap wr (w.heap.size + 1) { data := #[114, 119, 120, 114, 119, 120, 114, 119, 120] } 8 9 hit
      have hown2 := Go.Proofs.own_iterAt hown hit 9
      have hB2 := Lib.below_iterAt hB (Nat.le_succ _) { data := #[114, 119, 120, 114, 119, 120, 114, 119, 120] } 9
      have hs2 := Lib.iterAt_size wr (w.heap.size + 1) { data := #[114, 119, 120, 114, 119, 120, 114, 119, 120] } 9
      obtain ⟨W, hW⟩ : ∃ W, W = wr.iterAt (w.heap.size + 1) { data := #[114, 119, 120, 114, 119, 120, 114, 119, 120] } 9 := ⟨_, rfl⟩
      rw [← hW] at hnx hit2 hown2 hB2 hs2
      obtain ⟨m, hm⟩ : ∃ m, m = mode := ⟨_, rfl⟩
      have ha := and1 m
      have hsg : sgnC mode 8 = if m % 2 = 0 then 45 else 120 := by rw [hm]; unfold sgnC; simp [rwxL]
      have hg' : gk = 0 + 1 := by omega
      subst hg'
      clear hW hit hown hB
      by_cases hb : m % 2 = 0
      · rw [if_pos hb] at hsg
        have hHS := Lib.hid hsg
        have ha2 : bits .and .i64 m 1 = 0 := by rw [ha]; omega
        rw [hm] at ha2
        clear hsg ha hb
        go_wp2_with (at_builtin; refine wpList_append_own _ rfl (.tmp 33) (.tmp 36) 33 rfl w.heap.size 5 i0 (.int .u8 0) 1 1 Tryd.underlying33 hi0 hz0 hz1 hz2 rfl (by decide) _ _ _ rfl (hown2.alloc _) ⟨wr.heap.size, 0, none⟩ 1 1 [.int .u8 45] rfl rfl (by have h := cells_new W #[.int .u8 45] 5; rw [hs2] at h; exact h) (fun u hu => by rw [List.mem_singleton.1 hu]; rfl) (by unfold maxLen; omega) (by omega) (by simp; omega) ?_; intro v4 w4 hown4 hg4 _)
        have hB4 : Below w.heap.size w w4 := (hB2.alloc (by omega) _).grown hg4 (by simp; omega) (own_ge hown2)
        have hit4 : w4.heap[w.heap.size + 1]? = some (.stringIter { data := #[114, 119, 120, 114, 119, 120, 114, 119, 120] } 9) := by
          rw [hg4.block (w.heap.size + 1) (by simp; omega) (own_not_iter hown2 hit2)]
          exact (Below.heap_alloc W _ (w.heap.size + 1) (by omega)).trans hit2
        have hown5 : w4.ownsRow w.heap.size 5 1 v4 (9 + 1) (bv (45 :: sgnL mode 9)) := by
          rw [sgnL_succ, hHS.out, show bv (45 :: (sgnL mode 8 ++ [45])) = bv (45 :: sgnL mode 8) ++ [.int .u8 45] from by simp [bv]]
          exact hown4
        have hs4 := hB4.size
        have hs5 := hg4.size
        simp only [sz_all] at hs5
        go_wp2_with fail
        go_roundg 0
        case measure => omega
        case rel => exact ⟨9, by omega, hit4, hown5, hB4, by omega⟩
      · rw [if_neg hb] at hsg
        have hHS := Lib.hid hsg
        have ha2 : bits .and .i64 m 1 = 1 := by rw [ha]; omega
        rw [hm] at ha2
        clear hsg ha hb
        go_wp2_with (at_builtin; refine wpList_append_own _ rfl (.tmp 33) (.tmp 36) 33 rfl w.heap.size 5 i0 (.int .u8 0) 1 1 Tryd.underlying33 hi0 hz0 hz1 hz2 rfl (by decide) _ _ _ rfl (hown2.alloc _) ⟨wr.heap.size, 0, none⟩ 1 1 [.int .u8 120] rfl rfl (by have h := cells_new W #[.int .u8 120] 5; rw [hs2] at h; exact h) (fun u hu => by rw [List.mem_singleton.1 hu]; rfl) (by unfold maxLen; omega) (by omega) (by simp; omega) ?_; intro v4 w4 hown4 hg4 _)
        have hB4 : Below w.heap.size w w4 := (hB2.alloc (by omega) _).grown hg4 (by simp; omega) (own_ge hown2)
        have hit4 : w4.heap[w.heap.size + 1]? = some (.stringIter { data := #[114, 119, 120, 114, 119, 120, 114, 119, 120] } 9) := by
          rw [hg4.block (w.heap.size + 1) (by simp; omega) (own_not_iter hown2 hit2)]
          exact (Below.heap_alloc W _ (w.heap.size + 1) (by omega)).trans hit2
        have hown5 : w4.ownsRow w.heap.size 5 1 v4 (9 + 1) (bv (45 :: sgnL mode 9)) := by
          rw [sgnL_succ, hHS.out, show bv (45 :: (sgnL mode 8 ++ [120])) = bv (45 :: sgnL mode 8) ++ [.int .u8 120] from by simp [bv]]
          exact hown4
        have hs4 := hB4.size
        have hs5 := hg4.size
        simp only [sz_all] at hs5
        go_wp2_with fail
        go_roundg 0
        case measure => omega
        case rel => exact ⟨9, by omega, hit4, hown5, hB4, by omega⟩
    · have hnx : ∀ ty, (Instr.next (.pointer (some ⟨w.heap.size + 1, 0, none⟩)) true ty).run Tryd.prog wr = .ok (.tuple #[.bool false]) wr := fun ty => Lib.run_next_end_at wr (w.heap.size + 1) { data := #[114, 119, 120, 114, 119, 120, 114, 119, 120] } 9 ty hit (by decide)
      have hg' : gk = 0 := by omega
      subst hg'
      obtain ⟨A, c, rfl⟩ := own_slice hown
      have hrd := Reads.of_own hown
      go_wp2_with (refine wpList_string_of_bytes _ rfl (.tmp 38) 33 9 5 rfl Tryd.underlying33 Tryd.underlying5 Tryd.underlying9 A (9 + 1) c wr.heap.size (45 :: sgnL mode 9) rfl hrd ?_)
      go_ret
      exact ⟨rfl, hB⟩

set_option maxRecDepth 100000 in
set_option maxHeartbeats 8000000 in
theorem text_dir (mode : Int) (w : World) :
    Calls Tryd.prog 10 #[.int .u8 2, .int .i64 mode] w fun e w' => e = .returned (.string (str (100 :: sgnL mode 9))) ∧ Below w.heap.size w w' := by
  obtain ⟨i0, hi0, hz0, hz1, hz2⟩ := info_parts infoU8
  have hown0 := own_lit w 5 (.int .u8 100)
  have hB0 : Below w.heap.size w ((w.alloc (.cells #[.int .u8 100] 5)).iter { data := #[114, 119, 120, 114, 119, 120, 114, 119, 120] } 0) := ((Below.refl _ _).alloc (Nat.le_refl _) _).alloc (by simp) _
  have hit0 := World.iter_heap (w.alloc (.cells #[.int .u8 100] 5)) { data := #[114, 119, 120, 114, 119, 120, 114, 119, 120] } 0
  have hownI : ((w.alloc (.cells #[.int .u8 100] 5)).iter { data := #[114, 119, 120, 114, 119, 120, 114, 119, 120] } 0).ownsRow w.heap.size 5 1 (.slice (some ⟨w.heap.size, 0, none⟩) 1 1) 1 [.int .u8 100] := hown0.alloc _
  rw [show (w.alloc (.cells #[.int .u8 100] 5)).heap.size = w.heap.size + 1 from by simp] at hit0
  go_enter Tryd.func10, Tryd.ntmps10
  go_wp2_with fail
  go_loopg [5] 9 (fun g v wx => ∃ q : Nat, q + g = 9 ∧ wx.heap[w.heap.size + 1]? = some (.stringIter { data := #[114, 119, 120, 114, 119, 120, 114, 119, 120] } q) ∧ wx.ownsRow w.heap.size 5 1 v (q + 1) (bv (100 :: sgnL mode q)) ∧ Below w.heap.size w wx ∧ w.heap.size + 2 ≤ wx.heap.size)
  case atStart => exact ⟨0, rfl, hit0, hownI, hB0, by show w.heap.size + 2 ≤ (World.alloc _ _).heap.size; simp⟩
  case round =>
    obtain ⟨q, hqg, hit, hown, hB, hsz⟩ := hrel
    rcases (show q = 0 ∨ q = 1 ∨ q = 2 ∨ q = 3 ∨ q = 4 ∨ q = 5 ∨ q = 6 ∨ q = 7 ∨ q = 8 ∨ q = 9 by omega) with rfl | rfl | rfl | rfl | rfl | rfl | rfl | rfl | rfl | rfl
    · have hnx : ∀ ty, (Instr.next (.pointer (some ⟨w.heap.size + 1, 0, none⟩)) true ty).run Tryd.prog wr = .ok (.tuple #[.bool true, .int .i64 0, .int .i32 114]) (wr.iterAt (w.heap.size + 1) { data := #[114, 119, 120, 114, 119, 120, 114, 119, 120] } 1) := fun ty => Lib.run_next_ascii_at wr (w.heap.size + 1) { data := #[114, 119, 120, 114, 119, 120, 114, 119, 120] } 0 ty hit (by decide) (by decide)
      have hit2 := Lib.iterAt_heap wr (w.heap.size + 1) { data := #[114, 119, 120, 114, 119, 120, 114, 119, 120] } 0 1 hit
      have hown2 := Go.Proofs.own_iterAt hown hit 1
      have hB2 := Lib.below_iterAt hB (Nat.le_succ _) { data := #[114, 119, 120, 114, 119, 120, 114, 119, 120] } 1
      have hs2 := Lib.iterAt_size wr (w.heap.size + 1) { data := #[114, 119, 120, 114, 119, 120, 114, 119, 120] } 1
      obtain ⟨W, hW⟩ : ∃ W, W = wr.iterAt (w.heap.size + 1) { data := #[114, 119, 120, 114, 119, 120, 114, 119, 120] } 1 := ⟨_, rfl⟩
      rw [← hW] at hnx hit2 hown2 hB2 hs2
      obtain ⟨m, hm⟩ : ∃ m, m = mode / 256 := ⟨_, rfl⟩
      have ha := and1 m
      have hsg : sgnC mode 0 = if m % 2 = 0 then 45 else 114 := by rw [hm]; rfl
      have hg' : gk = 8 + 1 := by omega
      subst hg'
      clear hW hit hown hB
      by_cases hb : m % 2 = 0
      · rw [if_pos hb] at hsg
        have hHS := Lib.hid hsg
        have ha2 : bits .and .i64 m 1 = 0 := by rw [ha]; omega
        rw [hm] at ha2
        clear hsg ha hb
        go_wp2_with (at_builtin; refine wpList_append_own _ rfl (.tmp 33) (.tmp 36) 33 rfl w.heap.size 5 i0 (.int .u8 0) 1 1 Tryd.underlying33 hi0 hz0 hz1 hz2 rfl (by decide) _ _ _ rfl (hown2.alloc _) ⟨wr.heap.size, 0, none⟩ 1 1 [.int .u8 45] rfl rfl (by have h := cells_new W #[.int .u8 45] 5; rw [hs2] at h; exact h) (fun u hu => by rw [List.mem_singleton.1 hu]; rfl) (by unfold maxLen; omega) (by omega) (by simp; omega) ?_; intro v4 w4 hown4 hg4 _)
        have hB4 : Below w.heap.size w w4 := (hB2.alloc (by omega) _).grown hg4 (by simp; omega) (own_ge hown2)
        have hit4 : w4.heap[w.heap.size + 1]? = some (.stringIter { data := #[114, 119, 120, 114, 119, 120, 114, 119, 120] } 1) := by
          rw [hg4.block (w.heap.size + 1) (by simp; omega) (own_not_iter hown2 hit2)]
          exact (Below.heap_alloc W _ (w.heap.size + 1) (by omega)).trans hit2
        have hown5 : w4.ownsRow w.heap.size 5 1 v4 (1 + 1) (bv (100 :: sgnL mode 1)) := by
          rw [sgnL_succ, hHS.out, show bv (100 :: (sgnL mode 0 ++ [45])) = bv (100 :: sgnL mode 0) ++ [.int .u8 45] from by simp [bv]]
          exact hown4
        have hs4 := hB4.size
        have hs5 := hg4.size
        simp only [sz_all] at hs5
        go_wp2_with fail
        go_roundg 8
        case measure => omega
        case rel => exact ⟨1, by omega, hit4, hown5, hB4, by omega⟩
      · rw [if_neg hb] at hsg
        have hHS := Lib.hid hsg
        have ha2 : bits .and .i64 m 1 = 1 := by rw [ha]; omega
        rw [hm] at ha2
        clear hsg ha hb
        go_wp2_with (at_builtin; refine wpList_append_own _ rfl (.tmp 33) (.tmp 36) 33 rfl w.heap.size 5 i0 (.int .u8 0) 1 1 Tryd.underlying33 hi0 hz0 hz1 hz2 rfl (by decide) _ _ _ rfl (hown2.alloc _) ⟨wr.heap.size, 0, none⟩ 1 1 [.int .u8 114] rfl rfl (by have h := cells_new W #[.int .u8 114] 5; rw [hs2] at h; exact h) (fun u hu => by rw [List.mem_singleton.1 hu]; rfl) (by unfold maxLen; omega) (by omega) (by simp; omega) ?_; intro v4 w4 hown4 hg4 _)
        have hB4 : Below w.heap.size w w4 := (hB2.alloc (by omega) _).grown hg4 (by simp; omega) (own_ge hown2)
        have hit4 : w4.heap[w.heap.size + 1]? = some (.stringIter { data := #[114, 119, 120, 114, 119, 120, 114, 119, 120] } 1) := by
          rw [hg4.block (w.heap.size + 1) (by simp; omega) (own_not_iter hown2 hit2)]
          exact (Below.heap_alloc W _ (w.heap.size + 1) (by omega)).trans hit2
        have hown5 : w4.ownsRow w.heap.size 5 1 v4 (1 + 1) (bv (100 :: sgnL mode 1)) := by
          rw [sgnL_succ, hHS.out, show bv (100 :: (sgnL mode 0 ++ [114])) = bv (100 :: sgnL mode 0) ++ [.int .u8 114] from by simp [bv]]
          exact hown4
        have hs4 := hB4.size
        have hs5 := hg4.size
        simp only [sz_all] at hs5
        go_wp2_with fail
        go_roundg 8
        case measure => omega
        case rel => exact ⟨1, by omega, hit4, hown5, hB4, by omega⟩
    · have hnx : ∀ ty, (Instr.next (.pointer (some ⟨w.heap.size + 1, 0, none⟩)) true ty).run Tryd.prog wr = .ok (.tuple #[.bool true, .int .i64 1, .int .i32 119]) (wr.iterAt (w.heap.size + 1) { data := #[114, 119, 120, 114, 119, 120, 114, 119, 120] } 2) := fun ty => Lib.run_next_ascii_at wr (w.heap.size + 1) { data := #[114, 119, 120, 114, 119, 120, 114, 119, 120] } 1 ty hit (by decide) (by decide)
      have hit2 := Lib.iterAt_heap wr (w.heap.size + 1) { data := #[114, 119, 120, 114, 119, 120, 114, 119, 120] } 1 2 hit
      have hown2 := Go.Proofs.own_iterAt hown hit 2
      have hB2 := Lib.below_iterAt hB (Nat.le_succ _) { data := #[114, 119, 120, 114, 119, 120, 114, 119, 120] } 2
      have hs2 := Lib.iterAt_size wr (w.heap.size + 1) { data := #[114, 119, 120, 114, 119, 120, 114, 119, 120] } 2
      obtain ⟨W, hW⟩ : ∃ W, W = wr.iterAt (w.heap.size + 1) { data := #[114, 119, 120, 114, 119, 120, 114, 119, 120] } 2 := ⟨_, rfl⟩
      rw [← hW] at hnx hit2 hown2 hB2 hs2
      obtain ⟨m, hm⟩ : ∃ m, m = mode / 128 := ⟨_, rfl⟩
      have ha := and1 m
      have hsg : sgnC mode 1 = if m % 2 = 0 then 45 else 119 := by rw [hm]; rfl
      have hg' : gk = 7 + 1 := by omega
      subst hg'
      clear hW hit hown hB
      by_cases hb : m % 2 = 0
      · rw [if_pos hb] at hsg
        have hHS := Lib.hid hsg
        have ha2 : bits .and .i64 m 1 = 0 := by rw [ha]; omega
        rw [hm] at ha2
        clear hsg ha hb
        go_wp2_with (at_builtin; refine wpList_append_own _ rfl (.tmp 33) (.tmp 36) 33 rfl w.heap.size 5 i0 (.int .u8 0) 1 1 Tryd.underlying33 hi0 hz0 hz1 hz2 rfl (by decide) _ _ _ rfl (hown2.alloc _) ⟨wr.heap.size, 0, none⟩ 1 1 [.int .u8 45] rfl rfl (by have h := cells_new W #[.int .u8 45] 5; rw [hs2] at h; exact h) (fun u hu => by rw [List.mem_singleton.1 hu]; rfl) (by unfold maxLen; omega) (by omega) (by simp; omega) ?_; intro v4 w4 hown4 hg4 _)
        have hB4 : Below w.heap.size w w4 := (hB2.alloc (by omega) _).grown hg4 (by simp; omega) (own_ge hown2)
        have hit4 : w4.heap[w.heap.size + 1]? = some (.stringIter { data := #[114, 119, 120, 114, 119, 120, 114, 119, 120] } 2) := by
          rw [hg4.block (w.heap.size + 1) (by simp; omega) (own_not_iter hown2 hit2)]
          exact (Below.heap_alloc W _ (w.heap.size + 1) (by omega)).trans hit2
        have hown5 : w4.ownsRow w.heap.size 5 1 v4 (2 + 1) (bv (100 :: sgnL mode 2)) := by
          rw [sgnL_succ, hHS.out, show bv (100 :: (sgnL mode 1 ++ [45])) = bv (100 :: sgnL mode 1) ++ [.int .u8 45] from by simp [bv]]
          exact hown4
        have hs4 := hB4.size
        have hs5 := hg4.size
        simp only [sz_all] at hs5
        go_wp2_with fail
        go_roundg 7
        case measure => omega
        case rel => exact ⟨2, by omega, hit4, hown5, hB4, by omega⟩
      · rw [if_neg hb] at hsg
        have hHS := Lib.hid hsg
        have ha2 : bits .and .i64 m 1 = 1 := by rw [ha]; omega
        rw [hm] at ha2
        clear hsg ha hb
        go_wp2_with (at_builtin; refine wpList_append_own _ rfl (.tmp 33) (.tmp 36) 33 rfl w.heap.size 5 i0 (.int .u8 0) 1 1 Tryd.underlying33 hi0 hz0 hz1 hz2 rfl (by decide) _ _ _ rfl (hown2.alloc _) ⟨wr.heap.size, 0, none⟩ 1 1 [.int .u8 119] rfl rfl (by have h := cells_new W #[.int .u8 119] 5; rw [hs2] at h; exact h) (fun u hu => by rw [List.mem_singleton.1 hu]; rfl) (by unfold maxLen; omega) (by omega) (by simp; omega) ?_; intro v4 w4 hown4 hg4 _)
        have hB4 : Below w.heap.size w w4 := (hB2.alloc (by omega) _).grown hg4 (by simp; omega) (own_ge hown2)
        have hit4 : w4.heap[w.heap.size + 1]? = some (.stringIter { data := #[114, 119, 120, 114, 119, 120, 114, 119, 120] } 2) := by
          rw [hg4.block (w.heap.size + 1) (by simp; omega) (own_not_iter hown2 hit2)]
          exact (Below.heap_alloc W _ (w.heap.size + 1) (by omega)).trans hit2
        have hown5 : w4.ownsRow w.heap.size 5 1 v4 (2 + 1) (bv (100 :: sgnL mode 2)) := by
          rw [sgnL_succ, hHS.out, show bv (100 :: (sgnL mode 1 ++ [119])) = bv (100 :: sgnL mode 1) ++ [.int .u8 119] from by simp [bv]]
          exact hown4
        have hs4 := hB4.size
        have hs5 := hg4.size
        simp only [sz_all] at hs5
        go_wp2_with fail
        go_roundg 7
        case measure => omega
        case rel => exact ⟨2, by omega, hit4, hown5, hB4, by omega⟩
    · have hnx : ∀ ty, (Instr.next (.pointer (some ⟨w.heap.size + 1, 0, none⟩)) true ty).run Tryd.prog wr = .ok (.tuple #[.bool true, .int .i64 2, .int .i32 120]) (wr.iterAt (w.heap.size + 1) { data := #[114, 119, 120, 114, 119, 120, 114, 119, 120] } 3) := fun ty => Lib.run_next_ascii_at wr (w.heap.size + 1) { data := #[114, 119, 120, 114, 119, 120, 114, 119, 120] } 2 ty hit (by decide) (by decide)
      have hit2 := Lib.iterAt_heap wr (w.heap.size + 1) { data := #[114, 119, 120, 114, 119, 120, 114, 119, 120] } 2 3 hit
      have hown2 := Go.Proofs.own_iterAt hown hit 3
      have hB2 := Lib.below_iterAt hB (Nat.le_succ _) { data := #[114, 119, 120, 114, 119, 120, 114, 119, 120] } 3
      have hs2 := Lib.iterAt_size wr (w.heap.size + 1) { data := #[114, 119, 120, 114, 119, 120, 114, 119, 120] } 3
      obtain ⟨W, hW⟩ : ∃ W, W = wr.iterAt (w.heap.size + 1) { data := #[114, 119, 120, 114, 119, 120, 114, 119, 120] } 3 := ⟨_, rfl⟩
      rw [← hW] at hnx hit2 hown2 hB2 hs2
      obtain ⟨m, hm⟩ : ∃ m, m = mode / 64 := ⟨_, rfl⟩
      have ha := and1 m
      have hsg : sgnC mode 2 = if m % 2 = 0 then 45 else 120 := by rw [hm]; rfl
      have hg' : gk = 6 + 1 := by omega
      subst hg'
      clear hW hit hown hB
      by_cases hb : m % 2 = 0
      · rw [if_pos hb] at hsg
        have hHS := Lib.hid hsg
        have ha2 : bits .and .i64 m 1 = 0 := by rw [ha]; omega
        rw [hm] at ha2
        clear hsg ha hb
        go_wp2_with (at_builtin; refine wpList_append_own _ rfl (.tmp 33) (.tmp 36) 33 rfl w.heap.size 5 i0 (.int .u8 0) 1 1 Tryd.underlying33 hi0 hz0 hz1 hz2 rfl (by decide) _ _ _ rfl (hown2.alloc _) ⟨wr.heap.size, 0, none⟩ 1 1 [.int .u8 45] rfl rfl (by have h := cells_new W #[.int .u8 45] 5; rw [hs2] at h; exact h) (fun u hu => by rw [List.mem_singleton.1 hu]; rfl) (by unfold maxLen; omega) (by omega) (by simp; omega) ?_; intro v4 w4 hown4 hg4 _)
        have hB4 : Below w.heap.size w w4 := (hB2.alloc (by omega) _).grown hg4 (by simp; omega) (own_ge hown2)
        have hit4 : w4.heap[w.heap.size + 1]? = some (.stringIter { data := #[114, 119, 120, 114, 119, 120, 114, 119, 120] } 3) := by
          rw [hg4.block (w.heap.size + 1) (by simp; omega) (own_not_iter hown2 hit2)]
          exact (Below.heap_alloc W _ (w.heap.size + 1) (by omega)).trans hit2
        have hown5 : w4.ownsRow w.heap.size 5 1 v4 (3 + 1) (bv (100 :: sgnL mode 3)) := by
          rw [sgnL_succ, hHS.out, show bv (100 :: (sgnL mode 2 ++ [45])) = bv (100 :: sgnL mode 2) ++ [.int .u8 45] from by simp [bv]]
          exact hown4
        have hs4 := hB4.size
        have hs5 := hg4.size
        simp only [sz_all] at hs5
        go_wp2_with fail
        go_roundg 6
        case measure => omega
        case rel => exact ⟨3, by omega, hit4, hown5, hB4, by omega⟩
      · rw [if_neg hb] at hsg
        have hHS := Lib.hid hsg
        have ha2 : bits .and .i64 m 1 = 1 := by rw [ha]; omega
        rw [hm] at ha2
        clear hsg ha hb
        go_wp2_with (at_builtin; refine wpList_append_own _ rfl (.tmp 33) (.tmp 36) 33 rfl w.heap.size 5 i0 (.int .u8 0) 1 1 Tryd.underlying33 hi0 hz0 hz1 hz2 rfl (by decide) _ _ _ rfl (hown2.alloc _) ⟨wr.heap.size, 0, none⟩ 1 1 [.int .u8 120] rfl rfl (by have h := cells_new W #[.int .u8 120] 5; rw [hs2] at h; exact h) (fun u hu => by rw [List.mem_singleton.1 hu]; rfl) (by unfold maxLen; omega) (by omega) (by simp; omega) ?_; intro v4 w4 hown4 hg4 _)
        have hB4 : Below w.heap.size w w4 := (hB2.alloc (by omega) _).grown hg4 (by simp; omega) (own_ge hown2)
        have hit4 : w4.heap[w.heap.size + 1]? = some (.stringIter { data := #[114, 119, 120, 114, 119, 120, 114, 119, 120] } 3) := by
          rw [hg4.block (w.heap.size + 1) (by simp; omega) (own_not_iter hown2 hit2)]
          exact (Below.heap_alloc W _ (w.heap.size + 1) (by omega)).trans hit2
        have hown5 : w4.ownsRow w.heap.size 5 1 v4 (3 + 1) (bv (100 :: sgnL mode 3)) := by
          rw [sgnL_succ, hHS.out, show bv (100 :: (sgnL mode 2 ++ [120])) = bv (100 :: sgnL mode 2) ++ [.int .u8 120] from by simp [bv]]
          exact hown4
        have hs4 := hB4.size
        have hs5 := hg4.size
        simp only [sz_all] at hs5
        go_wp2_with fail
        go_roundg 6
        case measure => omega
        case rel => exact ⟨3, by omega, hit4, hown5, hB4, by omega⟩
    · have hnx : ∀ ty, (Instr.next (.pointer (some ⟨w.heap.size + 1, 0, none⟩)) true ty).run Tryd.prog wr = .ok (.tuple #[.bool true, .int .i64 3, .int .i32 114]) (wr.iterAt (w.heap.size + 1) { data := #[114, 119, 120, 114, 119, 120, 114, 119, 120] } 4) := fun ty => Lib.run_next_ascii_at wr (w.heap.size + 1) { data := #[114, 119, 120, 114, 119, 120, 114, 119, 120] } 3 ty hit (by decide) (by decide)
      have hit2 := Lib.iterAt_heap wr (w.heap.size + 1) { data := #[114, 119, 120, 114, 119, 120, 114, 119, 120] } 3 4 hit
      have hown2 := Go.Proofs.own_iterAt hown hit 4
      have hB2 := Lib.below_iterAt hB (Nat.le_succ _) { data := #[114, 119, 120, 114, 119, 120, 114, 119, 120] } 4
      have hs2 := Lib.iterAt_size wr (w.heap.size + 1) { data := #[114, 119, 120, 114, 119, 120, 114, 119, 120] } 4
      obtain ⟨W, hW⟩ : ∃ W, W = wr.iterAt (w.heap.size + 1) { data := #[114, 119, 120, 114, 119, 120, 114, 119, 120] } 4 := ⟨_, rfl⟩
      rw [← hW] at hnx hit2 hown2 hB2 hs2
      obtain ⟨m, hm⟩ : ∃ m, m = mode / 32 := ⟨_, rfl⟩
      have ha := and1 m
      have hsg : sgnC mode 3 = if m % 2 = 0 then 45 else 114 := by rw [hm]; rfl
      have hg' : gk = 5 + 1 := by omega
      subst hg'
      clear hW hit hown hB
      by_cases hb : m % 2 = 0
      · rw [if_pos hb] at hsg
        have hHS := Lib.hid hsg
        have ha2 : bits .and .i64 m 1 = 0 := by rw [ha]; omega
        rw [hm] at ha2
        clear hsg ha hb
        go_wp2_with (at_builtin; refine wpList_append_own _ rfl (.tmp 33) (.tmp 36) 33 rfl w.heap.size 5 i0 (.int .u8 0) 1 1 Tryd.underlying33 hi0 hz0 hz1 hz2 rfl (by decide) _ _ _ rfl (hown2.alloc _) ⟨wr.heap.size, 0, none⟩ 1 1 [.int .u8 45] rfl rfl (by have h := cells_new W #[.int .u8 45] 5; rw [hs2] at h; exact h) (fun u hu => by rw [List.mem_singleton.1 hu]; rfl) (by unfold maxLen; omega) (by omega) (by simp; omega) ?_; intro v4 w4 hown4 hg4 _)
        have hB4 : Below w.heap.size w w4 := (hB2.alloc (by omega) _).grown hg4 (by simp; omega) (own_ge hown2)
        have hit4 : w4.heap[w.heap.size + 1]? = some (.stringIter { data := #[114, 119, 120, 114, 119, 120, 114, 119, 120] } 4) := by
          rw [hg4.block (w.heap.size + 1) (by simp; omega) (own_not_iter hown2 hit2)]
          exact (Below.heap_alloc W _ (w.heap.size + 1) (by omega)).trans hit2
        have hown5 : w4.ownsRow w.heap.size 5 1 v4 (4 + 1) (bv (100 :: sgnL mode 4)) := by
          rw [sgnL_succ, hHS.out, show bv (100 :: (sgnL mode 3 ++ [45])) = bv (100 :: sgnL mode 3) ++ [.int .u8 45] from by simp [bv]]
          exact hown4
        have hs4 := hB4.size
        have hs5 := hg4.size
        simp only [sz_all] at hs5
        go_wp2_with fail
        go_roundg 5
        case measure => omega
        case rel => exact ⟨4, by omega, hit4, hown5, hB4, by omega⟩
      · rw [if_neg hb] at hsg
        have hHS := Lib.hid hsg
        have ha2 : bits .and .i64 m 1 = 1 := by rw [ha]; omega
        rw [hm] at ha2
        clear hsg ha hb
        go_wp2_with (at_builtin; refine wpList_append_own _ rfl (.tmp 33) (.tmp 36) 33 rfl w.heap.size 5 i0 (.int .u8 0) 1 1 Tryd.underlying33 hi0 hz0 hz1 hz2 rfl (by decide) _ _ _ rfl (hown2.alloc _) ⟨wr.heap.size, 0, none⟩ 1 1 [.int .u8 114] rfl rfl (by have h := cells_new W #[.int .u8 114] 5; rw [hs2] at h; exact h) (fun u hu => by rw [List.mem_singleton.1 hu]; rfl) (by unfold maxLen; omega) (by omega) (by simp; omega) ?_; intro v4 w4 hown4 hg4 _)
        have hB4 : Below w.heap.size w w4 := (hB2.alloc (by omega) _).grown hg4 (by simp; omega) (own_ge hown2)
        have hit4 : w4.heap[w.heap.size + 1]? = some (.stringIter { data := #[114, 119, 120, 114, 119, 120, 114, 119, 120] } 4) := by
          rw [hg4.block (w.heap.size + 1) (by simp; omega) (own_not_iter hown2 hit2)]
          exact (Below.heap_alloc W _ (w.heap.size + 1) (by omega)).trans hit2
        have hown5 : w4.ownsRow w.heap.size 5 1 v4 (4 + 1) (bv (100 :: sgnL mode 4)) := by
          rw [sgnL_succ, hHS.out, show bv (100 :: (sgnL mode 3 ++ [114])) = bv (100 :: sgnL mode 3) ++ [.int .u8 114] from by simp [bv]]
          exact hown4
        have hs4 := hB4.size
        have hs5 := hg4.size
        simp only [sz_all] at hs5
        go_wp2_with fail
        go_roundg 5
        case measure => omega
        case rel => exact ⟨4, by omega, hit4, hown5, hB4, by omega⟩
    · have hnx : ∀ ty, (Instr.next (.pointer (some ⟨w.heap.size + 1, 0, none⟩)) true ty).run Tryd.prog wr = .ok (.tuple #[.bool true, .int .i64 4, .int .i32 119]) (wr.iterAt (w.heap.size + 1) { data := #[114, 119, 120, 114, 119, 120, 114, 119, 120] } 5) := fun ty => Lib.run_next_ascii_at wr (w.heap.size + 1) { data := #[114, 119, 120, 114, 119, 120, 114, 119, 120] } 4 ty hit (by decide) (by decide)
      have hit2 := Lib.iterAt_heap wr (w.heap.size + 1) { data := #[114, 119, 120, 114, 119, 120, 114, 119, 120] } 4 5 hit
      have hown2 := Go.Proofs.own_iterAt hown hit 5
      have hB2 := Lib.below_iterAt hB (Nat.le_succ _) { data := #[114, 119, 120, 114, 119, 120, 114, 119, 120] } 5
      have hs2 := Lib.iterAt_size wr (w.heap.size + 1) { data := #[114, 119, 120, 114, 119, 120, 114, 119, 120] } 5
      obtain ⟨W, hW⟩ : ∃ W, W = wr.iterAt (w.heap.size + 1) { data := #[114, 119, 120, 114, 119, 120, 114, 119, 120] } 5 := ⟨_, rfl⟩
      rw [← hW] at hnx hit2 hown2 hB2 hs2
      obtain ⟨m, hm⟩ : ∃ m, m = mode / 16 := ⟨_, rfl⟩
      have ha := and1 m
      have hsg : sgnC mode 4 = if m % 2 = 0 then 45 else 119 := by rw [hm]; rfl
      have hg' : gk = 4 + 1 := by omega
      subst hg'
      clear hW hit hown hB
      by_cases hb : m % 2 = 0
      · rw [if_pos hb] at hsg
        have hHS := Lib.hid hsg
        have ha2 : bits .and .i64 m 1 = 0 := by rw [ha]; omega
        rw [hm] at ha2
        clear hsg ha hb
        go_wp2_with (at_builtin; refine wpList_append_own _ rfl (.tmp 33) (.tmp 36) 33 rfl w.heap.size 5 i0 (.int .u8 0) 1 1 Tryd.underlying33 hi0 hz0 hz1 hz2 rfl (by decide) _ _ _ rfl (hown2.alloc _) ⟨wr.heap.size, 0, none⟩ 1 1 [.int .u8 45] rfl rfl (by have h := cells_new W #[.int .u8 45] 5; rw [hs2] at h; exact h) (fun u hu => by rw [List.mem_singleton.1 hu]; rfl) (by unfold maxLen; omega) (by omega) (by simp; omega) ?_; intro v4 w4 hown4 hg4 _)
        have hB4 : Below w.heap.size w w4 := (hB2.alloc (by omega) _).grown hg4 (by simp; omega) (own_ge hown2)
        have hit4 : w4.heap[w.heap.size + 1]? = some (.stringIter { data := #[114, 119, 120, 114, 119, 120, 114, 119, 120] } 5) := by
          rw [hg4.block (w.heap.size + 1) (by simp; omega) (own_not_iter hown2 hit2)]
          exact (Below.heap_alloc W _ (w.heap.size + 1) (by omega)).trans hit2
        have hown5 : w4.ownsRow w.heap.size 5 1 v4 (5 + 1) (bv (100 :: sgnL mode 5)) := by
          rw [sgnL_succ, hHS.out, show bv (100 :: (sgnL mode 4 ++ [45])) = bv (100 :: sgnL mode 4) ++ [.int .u8 45] from by simp [bv]]
          exact hown4
        have hs4 := hB4.size
        have hs5 := hg4.size
        simp only [sz_all] at hs5
        go_wp2_with fail
        go_roundg 4
        case measure => omega
        case rel => exact ⟨5, by omega, hit4, hown5, hB4, by omega⟩
      · rw [if_neg hb] at hsg
        have hHS := Lib.hid hsg
        have ha2 : bits .and .i64 m 1 = 1 := by rw [ha]; omega
        rw [hm] at ha2
        clear hsg ha hb
        go_wp2_with (at_builtin; refine wpList_append_own _ rfl (.tmp 33) (.tmp 36) 33 rfl w.heap.size 5 i0 (.int .u8 0) 1 1 Tryd.underlying33 hi0 hz0 hz1 hz2 rfl (by decide) _ _ _ rfl (hown2.alloc _) ⟨wr.heap.size, 0, none⟩ 1 1 [.int .u8 119] rfl rfl (by have h := cells_new W #[.int .u8 119] 5; rw [hs2] at h; exact h) (fun u hu => by rw [List.mem_singleton.1 hu]; rfl) (by unfold maxLen; omega) (by omega) (by simp; omega) ?_; intro v4 w4 hown4 hg4 _)
        have hB4 : Below w.heap.size w w4 := (hB2.alloc (by omega) _).grown hg4 (by simp; omega) (own_ge hown2)
        have hit4 : w4.heap[w.heap.size + 1]? = some (.stringIter { data := #[114, 119, 120, 114, 119, 120, 114, 119, 120] } 5) := by
          rw [hg4.block (w.heap.size + 1) (by simp; omega) (own_not_iter hown2 hit2)]
          exact (Below.heap_alloc W _ (w.heap.size + 1) (by omega)).trans hit2
        have hown5 : w4.ownsRow w.heap.size 5 1 v4 (5 + 1) (bv (100 :: sgnL mode 5)) := by
          rw [sgnL_succ, hHS.out, show bv (100 :: (sgnL mode 4 ++ [119])) = bv (100 :: sgnL mode 4) ++ [.int .u8 119] from by simp [bv]]
          exact hown4
        have hs4 := hB4.size
        have hs5 := hg4.size
        simp only [sz_all] at hs5
        go_wp2_with fail
        go_roundg 4
        case measure => omega
        case rel => exact ⟨5, by omega, hit4, hown5, hB4, by omega⟩
    · have hnx : ∀ ty, (Instr.next (.pointer (some ⟨w.heap.size + 1, 0, none⟩)) true ty).run Tryd.prog wr = .ok (.tuple #[.bool true, .int .i64 5, .int .i32 120]) (wr.iterAt (w.heap.size + 1) { data := #[114, 119, 120, 114, 119, 120, 114, 119, 120] } 6) := fun ty => Lib.run_next_ascii_at wr (w.heap.size + 1) { data := #[114, 119, 120, 114, 119, 120, 114, 119, 120] } 5 ty hit (by decide) (by decide)
      have hit2 := Lib.iterAt_heap wr (w.heap.size + 1) { data := #[114, 119, 120, 114, 119, 120, 114, 119, 120] } 5 6 hit
      have hown2 := Go.Proofs.own_iterAt hown hit 6
      have hB2 := Lib.below_iterAt hB (Nat.le_succ _) { data := #[114, 119, 120, 114, 119, 120, 114, 119, 120] } 6
      have hs2 := Lib.iterAt_size wr (w.heap.size + 1) { data := #[114, 119, 120, 114, 119, 120, 114, 119, 120] } 6
      obtain ⟨W, hW⟩ : ∃ W, W = wr.iterAt (w.heap.size + 1) { data := #[114, 119, 120, 114, 119, 120, 114, 119, 120] } 6 := ⟨_, rfl⟩
      rw [← hW] at hnx hit2 hown2 hB2 hs2
      obtain ⟨m, hm⟩ : ∃ m, m = mode / 8 := ⟨_, rfl⟩
      have ha := and1 m
      have hsg : sgnC mode 5 = if m % 2 = 0 then 45 else 120 := by rw [hm]; rfl
      have hg' : gk = 3 + 1 := by omega
      subst hg'
      clear hW hit hown hB
      by_cases hb : m % 2 = 0
      · rw [if_pos hb] at hsg
        have hHS := Lib.hid hsg
        have ha2 : bits .and .i64 m 1 = 0 := by rw [ha]; omega
        rw [hm] at ha2
        clear hsg ha hb
        go_wp2_with (at_builtin; refine wpList_append_own _ rfl (.tmp 33) (.tmp 36) 33 rfl w.heap.size 5 i0 (.int .u8 0) 1 1 Tryd.underlying33 hi0 hz0 hz1 hz2 rfl (by decide) _ _ _ rfl (hown2.alloc _) ⟨wr.heap.size, 0, none⟩ 1 1 [.int .u8 45] rfl rfl (by have h := cells_new W #[.int .u8 45] 5; rw [hs2] at h; exact h) (fun u hu => by rw [List.mem_singleton.1 hu]; rfl) (by unfold maxLen; omega) (by omega) (by simp; omega) ?_; intro v4 w4 hown4 hg4 _)
        have hB4 : Below w.heap.size w w4 := (hB2.alloc (by omega) _).grown hg4 (by simp; omega) (own_ge hown2)
        have hit4 : w4.heap[w.heap.size + 1]? = some (.stringIter { data := #[114, 119, 120, 114, 119, 120, 114, 119, 120] } 6) := by
          rw [hg4.block (w.heap.size + 1) (by simp; omega) (own_not_iter hown2 hit2)]
          exact (Below.heap_alloc W _ (w.heap.size + 1) (by omega)).trans hit2
        have hown5 : w4.ownsRow w.heap.size 5 1 v4 (6 + 1) (bv (100 :: sgnL mode 6)) := by
          rw [sgnL_succ, hHS.out, show bv (100 :: (sgnL mode 5 ++ [45])) = bv (100 :: sgnL mode 5) ++ [.int .u8 45] from by simp [bv]]
          exact hown4
        have hs4 := hB4.size
        have hs5 := hg4.size
        simp only [sz_all] at hs5
        go_wp2_with fail
        go_roundg 3
        case measure => omega
        case rel => exact ⟨6, by omega, hit4, hown5, hB4, by omega⟩
      · rw [if_neg hb] at hsg
        have hHS := Lib.hid hsg
        have ha2 : bits .and .i64 m 1 = 1 := by rw [ha]; omega
        rw [hm] at ha2
        clear hsg ha hb
        go_wp2_with (at_builtin; refine wpList_append_own _ rfl (.tmp 33) (.tmp 36) 33 rfl w.heap.size 5 i0 (.int .u8 0) 1 1 Tryd.underlying33 hi0 hz0 hz1 hz2 rfl (by decide) _ _ _ rfl (hown2.alloc _) ⟨wr.heap.size, 0, none⟩ 1 1 [.int .u8 120] rfl rfl (by have h := cells_new W #[.int .u8 120] 5; rw [hs2] at h; exact h) (fun u hu => by rw [List.mem_singleton.1 hu]; rfl) (by unfold maxLen; omega) (by omega) (by simp; omega) ?_; intro v4 w4 hown4 hg4 _)
        have hB4 : Below w.heap.size w w4 := (hB2.alloc (by omega) _).grown hg4 (by simp; omega) (own_ge hown2)
        have hit4 : w4.heap[w.heap.size + 1]? = some (.stringIter { data := #[114, 119, 120, 114, 119, 120, 114, 119, 120] } 6) := by
          rw [hg4.block (w.heap.size + 1) (by simp; omega) (own_not_iter hown2 hit2)]
          exact (Below.heap_alloc W _ (w.heap.size + 1) (by omega)).trans hit2
        have hown5 : w4.ownsRow w.heap.size 5 1 v4 (6 + 1) (bv (100 :: sgnL mode 6)) := by
          rw [sgnL_succ, hHS.out, show bv (100 :: (sgnL mode 5 ++ [120])) = bv (100 :: sgnL mode 5) ++ [.int .u8 120] from by simp [bv]]
          exact hown4
        have hs4 := hB4.size
        have hs5 := hg4.size
        simp only [sz_all] at hs5
        go_wp2_with fail
        go_roundg 3
        case measure => omega
        case rel => exact ⟨6, by omega, hit4, hown5, hB4, by omega⟩
    · have hnx : ∀ ty, (Instr.next (.pointer (some ⟨w.heap.size + 1, 0, none⟩)) true ty).run Tryd.prog wr = .ok (.tuple #[.bool true, .int .i64 6, .int .i32 114]) (wr.iterAt (w.heap.size + 1) { data := #[114, 119, 120, 114, 119, 120, 114, 119, 120] } 7) := fun ty => Lib.run_next_ascii_at wr (w.heap.size + 1) { data := #[114, 119, 120, 114, 119, 120, 114, 119, 120] } 6 ty hit (by decide) (by decide)
      have hit2 := Lib.iterAt_heap wr (w.heap.size + 1) { data := #[114, 119, 120, 114, 119, 120, 114, 119, 120] } 6 7 hit
      have hown2 := Go.Proofs.own_iterAt hown hit 7
      have hB2 := Lib.below_iterAt hB (Nat.le_succ _) { data := #[114, 119, 120, 114, 119, 120, 114, 119, 120] } 7
      have hs2 := Lib.iterAt_size wr (w.heap.size + 1) { data := #[114, 119, 120, 114, 119, 120, 114, 119, 120] } 7
      obtain ⟨W, hW⟩ : ∃ W, W = wr.iterAt (w.heap.size + 1) { data := #[114, 119, 120, 114, 119, 120, 114, 119, 120] } 7 := ⟨_, rfl⟩
      rw [← hW] at hnx hit2 hown2 hB2 hs2
      obtain ⟨m, hm⟩ : ∃ m, m = mode / 4 := ⟨_, rfl⟩
      have ha := and1 m
      have hsg : sgnC mode 6 = if m % 2 = 0 then 45 else 114 := by rw [hm]; rfl
      have hg' : gk = 2 + 1 := by omega
      subst hg'
      clear hW hit hown hB
      by_cases hb : m % 2 = 0
      · rw [if_pos hb] at hsg
        have hHS := Lib.hid hsg
        have ha2 : bits .and .i64 m 1 = 0 := by rw [ha]; omega
        rw [hm] at ha2
        clear hsg ha hb
        go_wp2_with (at_builtin; refine wpList_append_own _ rfl (.tmp 33) (.tmp 36) 33 rfl w.heap.size 5 i0 (.int .u8 0) 1 1 Tryd.underlying33 hi0 hz0 hz1 hz2 rfl (by decide) _ _ _ rfl (hown2.alloc _) ⟨wr.heap.size, 0, none⟩ 1 1 [.int .u8 45] rfl rfl (by have h := cells_new W #[.int .u8 45] 5; rw [hs2] at h; exact h) (fun u hu => by rw [List.mem_singleton.1 hu]; rfl) (by unfold maxLen; omega) (by omega) (by simp; omega) ?_; intro v4 w4 hown4 hg4 _)
        have hB4 : Below w.heap.size w w4 := (hB2.alloc (by omega) _).grown hg4 (by simp; omega) (own_ge hown2)
        have hit4 : w4.heap[w.heap.size + 1]? = some (.stringIter { data := #[114, 119, 120, 114, 119, 120, 114, 119, 120] } 7) := by
          rw [hg4.block (w.heap.size + 1) (by simp; omega) (own_not_iter hown2 hit2)]
          exact (Below.heap_alloc W _ (w.heap.size + 1) (by omega)).trans hit2
        have hown5 : w4.ownsRow w.heap.size 5 1 v4 (7 + 1) (bv (100 :: sgnL mode 7)) := by
          rw [sgnL_succ, hHS.out, show bv (100 :: (sgnL mode 6 ++ [45])) = bv (100 :: sgnL mode 6) ++ [.int .u8 45] from by simp [bv]]
          exact hown4
        have hs4 := hB4.size
        have hs5 := hg4.size
        simp only [sz_all] at hs5
        go_wp2_with fail
        go_roundg 2
        case measure => omega
        case rel => exact ⟨7, by omega, hit4, hown5, hB4, by omega⟩
      · rw [if_neg hb] at hsg
        have hHS := Lib.hid hsg
        have ha2 : bits .and .i64 m 1 = 1 := by rw [ha]; omega
        rw [hm] at ha2
        clear hsg ha hb
        go_wp2_with (at_builtin; refine wpList_append_own _ rfl (.tmp 33) (.tmp 36) 33 rfl w.heap.size 5 i0 (.int .u8 0) 1 1 Tryd.underlying33 hi0 hz0 hz1 hz2 rfl (by decide) _ _ _ rfl (hown2.alloc _) ⟨wr.heap.size, 0, none⟩ 1 1 [.int .u8 114] rfl rfl (by have h := cells_new W #[.int .u8 114] 5; rw [hs2] at h; exact h) (fun u hu => by rw [List.mem_singleton.1 hu]; rfl) (by unfold maxLen; omega) (by omega) (by simp; omega) ?_; intro v4 w4 hown4 hg4 _)
        have hB4 : Below w.heap.size w w4 := (hB2.alloc (by omega) _).grown hg4 (by simp; omega) (own_ge hown2)
        have hit4 : w4.heap[w.heap.size + 1]? = some (.stringIter { data := #[114, 119, 120, 114, 119, 120, 114, 119, 120] } 7) := by
          rw [hg4.block (w.heap.size + 1) (by simp; omega) (own_not_iter hown2 hit2)]
          exact (Below.heap_alloc W _ (w.heap.size + 1) (by omega)).trans hit2
        have hown5 : w4.ownsRow w.heap.size 5 1 v4 (7 + 1) (bv (100 :: sgnL mode 7)) := by
          rw [sgnL_succ, hHS.out, show bv (100 :: (sgnL mode 6 ++ [114])) = bv (100 :: sgnL mode 6) ++ [.int .u8 114] from by simp [bv]]
          exact hown4
        have hs4 := hB4.size
        have hs5 := hg4.size
        simp only [sz_all] at hs5
        go_wp2_with fail
        go_roundg 2
        case measure => omega
        case rel => exact ⟨7, by omega, hit4, hown5, hB4, by omega⟩
    · have hnx : ∀ ty, (Instr.next (.pointer (some ⟨w.heap.size + 1, 0, none⟩)) true ty).run Tryd.prog wr = .ok (.tuple #[.bool true, .int .i64 7, .int .i32 119]) (wr.iterAt (w.heap.size + 1) { data := #[114, 119, 120, 114, 119, 120, 114, 119, 120] } 8) := fun ty => Lib.run_next_ascii_at wr (w.heap.size + 1) { data := #[114, 119, 120, 114, 119, 120, 114, 119, 120] } 7 ty hit (by decide) (by decide)
      have hit2 := Lib.iterAt_heap wr (w.heap.size + 1) { data := #[114, 119, 120, 114, 119, 120, 114, 119, 120] } 7 8 hit
      have hown2 := Go.Proofs.own_iterAt hown hit 8
      have hB2 := Lib.below_iterAt hB (Nat.le_succ _) { data := #[114, 119, 120, 114, 119, 120, 114, 119, 120] } 8
      have hs2 := Lib.iterAt_size wr (w.heap.size + 1) { data := #[114, 119, 120, 114, 119, 120, 114, 119, 120] } 8
      obtain ⟨W, hW⟩ : ∃ W, W = wr.iterAt (w.heap.size + 1) { data := #[114, 119, 120, 114, 119, 120, 114, 119, 120] } 8 := ⟨_, rfl⟩
      rw [← hW] at hnx hit2 hown2 hB2 hs2
      obtain ⟨m, hm⟩ : ∃ m, m = mode / 2 := ⟨_, rfl⟩
      have ha := and1 m
      have hsg : sgnC mode 7 = if m % 2 = 0 then 45 else 119 := by rw [hm]; rfl
      have hg' : gk = 1 + 1 := by omega
      subst hg'
      clear hW hit hown hB
      by_cases hb : m % 2 = 0
      · rw [if_pos hb] at hsg
        have hHS := Lib.hid hsg
        have ha2 : bits .and .i64 m 1 = 0 := by rw [ha]; omega
        rw [hm] at ha2
        clear hsg ha hb
        go_wp2_with (at_builtin; refine wpList_append_own _ rfl (.tmp 33) (.tmp 36) 33 rfl w.heap.size 5 i0 (.int .u8 0) 1 1 Tryd.underlying33 hi0 hz0 hz1 hz2 rfl (by decide) _ _ _ rfl (hown2.alloc _) ⟨wr.heap.size, 0, none⟩ 1 1 [.int .u8 45] rfl rfl (by have h := cells_new W #[.int .u8 45] 5; rw [hs2] at h; exact h) (fun u hu => by rw [List.mem_singleton.1 hu]; rfl) (by unfold maxLen; omega) (by omega) (by simp; omega) ?_; intro v4 w4 hown4 hg4 _)
        have hB4 : Below w.heap.size w w4 := (hB2.alloc (by omega) _).grown hg4 (by simp; omega) (own_ge hown2)
        have hit4 : w4.heap[w.heap.size + 1]? = some (.stringIter { data := #[114, 119, 120, 114, 119, 120, 114, 119, 120] } 8) := by
          rw [hg4.block (w.heap.size + 1) (by simp; omega) (own_not_iter hown2 hit2)]
          exact (Below.heap_alloc W _ (w.heap.size + 1) (by omega)).trans hit2
        have hown5 : w4.ownsRow w.heap.size 5 1 v4 (8 + 1) (bv (100 :: sgnL mode 8)) := by
          rw [sgnL_succ, hHS.out, show bv (100 :: (sgnL mode 7 ++ [45])) = bv (100 :: sgnL mode 7) ++ [.int .u8 45] from by simp [bv]]
          exact hown4
        have hs4 := hB4.size
        have hs5 := hg4.size
        simp only [sz_all] at hs5
        go_wp2_with fail
        go_roundg 1
        case measure => omega
        case rel => exact ⟨8, by omega, hit4, hown5, hB4, by omega⟩
      · rw [if_neg hb] at hsg
        have hHS := Lib.hid hsg
        have ha2 : bits .and .i64 m 1 = 1 := by rw [ha]; omega
        rw [hm] at ha2
        clear hsg ha hb
        go_wp2_with (at_builtin; refine wpList_append_own _ rfl (.tmp 33) (.tmp 36) 33 rfl w.heap.size 5 i0 (.int .u8 0) 1 1 Tryd.underlying33 hi0 hz0 hz1 hz2 rfl (by decide) _ _ _ rfl (hown2.alloc _) ⟨wr.heap.size, 0, none⟩ 1 1 [.int .u8 119] rfl rfl (by have h := cells_new W #[.int .u8 119] 5; rw [hs2] at h; exact h) (fun u hu => by rw [List.mem_singleton.1 hu]; rfl) (by unfold maxLen; omega) (by omega) (by simp; omega) ?_; intro v4 w4 hown4 hg4 _)
        have hB4 : Below w.heap.size w w4 := (hB2.alloc (by omega) _).grown hg4 (by simp; omega) (own_ge hown2)
        have hit4 : w4.heap[w.heap.size + 1]? = some (.stringIter { data := #[114, 119, 120, 114, 119, 120, 114, 119, 120] } 8) := by
          rw [hg4.block (w.heap.size + 1) (by simp; omega) (own_not_iter hown2 hit2)]
          exact (Below.heap_alloc W _ (w.heap.size + 1) (by omega)).trans hit2
        have hown5 : w4.ownsRow w.heap.size 5 1 v4 (8 + 1) (bv (100 :: sgnL mode 8)) := by
          rw [sgnL_succ, hHS.out, show bv (100 :: (sgnL mode 7 ++ [119])) = bv (100 :: sgnL mode 7) ++ [.int .u8 119] from by simp [bv]]
          exact hown4
        have hs4 := hB4.size
        have hs5 := hg4.size
        simp only [sz_all] at hs5
        go_wp2_with fail
        go_roundg 1
        case measure => omega
        case rel => exact ⟨8, by omega, hit4, hown5, hB4, by omega⟩
    · have hnx : ∀ ty, (Instr.next (.pointer (some ⟨w.heap.size + 1, 0, none⟩)) true ty).run Tryd.prog wr = .ok (.tuple #[.bool true, .int .i64 8, .int .i32 120]) (wr.iterAt (w.heap.size + 1) { data := #[114, 119, 120, 114, 119, 120, 114, 119, 120] } 9) := fun ty => Lib.run_next_ascii_at wr (w.heap.size + 1) { data := #[114, 119, 120, 114, 119, 120, 114, 119, 120] } 8 ty hit (by decide) (by decide)
      have hit2 := Lib.iterAt_heap wr (w.heap.size + 1) { data := #[114, 119, 120, 114, 119, 120, 114, 119, 120] } 8 9 hit
      have hown2 := Go.Proofs.own_iterAt hown hit 9
      have hB2 := Lib.below_iterAt hB (Nat.le_succ _) { data := #[114, 119, 120, 114, 119, 120, 114, 119, 120] } 9
      have hs2 := Lib.iterAt_size wr (w.heap.size + 1) { data := #[114, 119, 120, 114, 119, 120, 114, 119, 120] } 9
      obtain ⟨W, hW⟩ : ∃ W, W = wr.iterAt (w.heap.size + 1) { data := #[114, 119, 120, 114, 119, 120, 114, 119, 120] } 9 := ⟨_, rfl⟩
      rw [← hW] at hnx hit2 hown2 hB2 hs2
      obtain ⟨m, hm⟩ : ∃ m, m = mode := ⟨_, rfl⟩
      have ha := and1 m
      have hsg : sgnC mode 8 = if m % 2 = 0 then 45 else 120 := by rw [hm]; unfold sgnC; simp [rwxL]
      have hg' : gk = 0 + 1 := by omega
      subst hg'
      clear hW hit hown hB
      by_cases hb : m % 2 = 0
      · rw [if_pos hb] at hsg
        have hHS := Lib.hid hsg
        have ha2 : bits .and .i64 m 1 = 0 := by rw [ha]; omega
        rw [hm] at ha2
        clear hsg ha hb
        go_wp2_with (at_builtin; refine wpList_append_own _ rfl (.tmp 33) (.tmp 36) 33 rfl w.heap.size 5 i0 (.int .u8 0) 1 1 Tryd.underlying33 hi0 hz0 hz1 hz2 rfl (by decide) _ _ _ rfl (hown2.alloc _) ⟨wr.heap.size, 0, none⟩ 1 1 [.int .u8 45] rfl rfl (by have h := cells_new W #[.int .u8 45] 5; rw [hs2] at h; exact h) (fun u hu => by rw [List.mem_singleton.1 hu]; rfl) (by unfold maxLen; omega) (by omega) (by simp; omega) ?_; intro v4 w4 hown4 hg4 _)
        have hB4 : Below w.heap.size w w4 := (hB2.alloc (by omega) _).grown hg4 (by simp; omega) (own_ge hown2)
        have hit4 : w4.heap[w.heap.size + 1]? = some (.stringIter { data := #[114, 119, 120, 114, 119, 120, 114, 119, 120] } 9) := by
          rw [hg4.block (w.heap.size + 1) (by simp; omega) (own_not_iter hown2 hit2)]
          exact (Below.heap_alloc W _ (w.heap.size + 1) (by omega)).trans hit2
        have hown5 : w4.ownsRow w.heap.size 5 1 v4 (9 + 1) (bv (100 :: sgnL mode 9)) := by
          rw [sgnL_succ, hHS.out, show bv (100 :: (sgnL mode 8 ++ [45])) = bv (100 :: sgnL mode 8) ++ [.int .u8 45] from by simp [bv]]
          exact hown4
        have hs4 := hB4.size
        have hs5 := hg4.size
        simp only [sz_all] at hs5
        go_wp2_with fail
        go_roundg 0
        case measure => omega
        case rel => exact ⟨9, by omega, hit4, hown5, hB4, by omega⟩
      · rw [if_neg hb] at hsg
        have hHS := Lib.hid hsg
        have ha2 : bits .and .i64 m 1 = 1 := by rw [ha]; omega
        rw [hm] at ha2
        clear hsg ha hb
        go_wp2_with (at_builtin; refine wpList_append_own _ rfl (.tmp 33) (.tmp 36) 33 rfl w.heap.size 5 i0 (.int .u8 0) 1 1 Tryd.underlying33 hi0 hz0 hz1 hz2 rfl (by decide) _ _ _ rfl (hown2.alloc _) ⟨wr.heap.size, 0, none⟩ 1 1 [.int .u8 120] rfl rfl (by have h := cells_new W #[.int .u8 120] 5; rw [hs2] at h; exact h) (fun u hu => by rw [List.mem_singleton.1 hu]; rfl) (by unfold maxLen; omega) (by omega) (by simp; omega) ?_; intro v4 w4 hown4 hg4 _)
        have hB4 : Below w.heap.size w w4 := (hB2.alloc (by omega) _).grown hg4 (by simp; omega) (own_ge hown2)
        have hit4 : w4.heap[w.heap.size + 1]? = some (.stringIter { data := #[114, 119, 120, 114, 119, 120, 114, 119, 120] } 9) := by
          rw [hg4.block (w.heap.size + 1) (by simp; omega) (own_not_iter hown2 hit2)]
          exact (Below.heap_alloc W _ (w.heap.size + 1) (by omega)).trans hit2
        have hown5 : w4.ownsRow w.heap.size 5 1 v4 (9 + 1) (bv (100 :: sgnL mode 9)) := by
          rw [sgnL_succ, hHS.out, show bv (100 :: (sgnL mode 8 ++ [120])) = bv (100 :: sgnL mode 8) ++ [.int .u8 120] from by simp [bv]]
          exact hown4
        have hs4 := hB4.size
        have hs5 := hg4.size
        simp only [sz_all] at hs5
        go_wp2_with fail
        go_roundg 0
        case measure => omega
        case rel => exact ⟨9, by omega, hit4, hown5, hB4, by omega⟩
    · have hnx : ∀ ty, (Instr.next (.pointer (some ⟨w.heap.size + 1, 0, none⟩)) true ty).run Tryd.prog wr = .ok (.tuple #[.bool false]) wr := fun ty => Lib.run_next_end_at wr (w.heap.size + 1) { data := #[114, 119, 120, 114, 119, 120, 114, 119, 120] } 9 ty hit (by decide)
      have hg' : gk = 0 := by omega
      subst hg'
      obtain ⟨A, c, rfl⟩ := own_slice hown
      have hrd := Reads.of_own hown
      go_wp2_with (refine wpList_string_of_bytes _ rfl (.tmp 38) 33 9 5 rfl Tryd.underlying33 Tryd.underlying5 Tryd.underlying9 A (9 + 1) c wr.heap.size (100 :: sgnL mode 9) rfl hrd ?_)
      go_ret
      exact ⟨rfl, hB⟩
end Go.Proofs.YtnpaddakkniliaaDoor
