/-
  ModesOne: the law's walk.
-/
import Derived.Test.YtnpaddakkniliaaDoorModeAlive
import Derived.Test.YtnpaddakkniliaaDoorModeLaws
import Derived.Test.YtnpaddakkniliaaDoorBeyond
namespace Go.Proofs.YtnpaddakkniliaaDoor
open Go.RowKit

theorem reads_rowM (w : World) (t : TypeId) (size n : Nat) (cs : Array Value) (xs : List Value) (hx : cs.toList = xs) (hl : xs.length = n * size) :
    Reads (w.alloc (.cells cs t)) (w.heap.size + 1) size (some ⟨w.heap.size, 0, none⟩) n xs := by
  refine ⟨hl, fun _ => ⟨_, rfl, Nat.lt_succ_self _, fun j u hu => ?_⟩⟩
  rw [Addr.add_lit, Nat.zero_add, (Blk.new w t cs).cell j, ← Array.getElem?_toList, hx]
  exact hu
theorem beyond_twoM (y z : Nat) (c : Nat) (w : World) (hy : y ≤ 1125899906842624) (hz : z ≤ 1125899906842624) :
    Calls Tryd.prog 18 #[.slice (some ⟨w.heap.size, 0, none⟩) 2 c] (w.alloc (.cells #[.int .i64 (y : Int), .int .i64 (z : Int)] 3)) fun e w' => e = .returned (.bool (decide (1048576 < y + z))) ∧ w.alloc (.cells #[.int .i64 (y : Int), .int .i64 (z : Int)] 3) = w' := by
  have hr := reads_rowM w 3 1 2 #[.int .i64 (y : Int), .int .i64 (z : Int)] (iv [y, z]) rfl rfl
  refine (beyond_any (some ⟨w.heap.size, 0, none⟩) 2 c (w.heap.size + 1) [y, z] _ hr (fun k h => ?_) (by omega)).mono fun e w' h => ⟨?_, h.2⟩
  · match k, h with
    | 0, _ => exact hy
    | 1, _ => exact hz
  · rw [h.1]
    unfold bydB
    rw [show [y, z].sum = y + z by simp]

set_option maxRecDepth 100000 in
set_option maxHeartbeats 8000000 in
theorem modesOne_walk (B : Nat) (A : Option Addr) (n c : Nat) (l : List Chg) (A' : Option Addr) (n' c' : Nat) (m : List Chg) (mode mask : Int) (dir : Bool) (w : World)
    (hr : Reads w w.heap.size 5 A n (chgv l)) (hn : n ≤ 140737488351232) (hnil : A = none → c = 0) (hr' : Reads w w.heap.size 5 A' n' (chgv m)) (hn' : n' ≤ 140737488351232) (hnil' : A' = none → c' = 0) (hE : EnvM B w) :
    Calls Tryd.prog 7 #[.slice A n c, .slice A' n' c', .agg #[.int .i64 mode, .int .i64 mask, .bool dir]] w fun e w' => e = .returned (.bool true) ∧ Below w.heap.size w w' := by
  obtain ⟨i0, hi0, hz0, hz1', hz2⟩ := info_parts infoChg
  have HN := Lib.hid hnil
  have HN' := Lib.hid hnil'
  clear hnil hnil'
  have b0 : Below w.heap.size w (w.alloc (.cells #[.int .i64 mode, .int .i64 mask, .bool dir] 27)) := (Below.refl _ _).alloc (Nat.le_refl _) _
  have k0 := Blk.new w 27 #[.int .i64 mode, .int .i64 mask, .bool dir]
  have E0 := hE.up b0
  have hz00 : (w.alloc (.cells #[.int .i64 mode, .int .i64 mask, .bool dir] 27)).heap.size = w.heap.size + 1 := by simp
  go_enter Tryd.func7, Tryd.ntmps7
  go_wp2_with fail
  refine (malive_any B _ E0).mono ?_
  rintro e w1 ⟨rfl, hB1⟩
  have k1 := k0.below hB1 (by simp)
  have b1 := below_then b0 b0.size hB1
  have E1 := E0.up hB1
  have HR := Lib.hid ((hr.below b1).more b1.size)
  have HR' := Lib.hid ((hr'.below b1).more b1.size)
  have hs1 : w.heap.size < w1.heap.size := by have := hB1.size; omega
  clear hr hr' k0 E0 hE b0 hz00
  have hb2 : Below w1.heap.size w1 (w1.alloc (.cells #[.int .i64 (n : Int), .int .i64 (n' : Int)] 3)) := (Below.refl _ _).alloc (Nat.le_refl _) _
  by_cases hbd : 1048576 < n + n'
  · have hby := fun c => beyond_twoM n n' c w1 (by omega) (by omega)
    rw [decide_eq_true hbd] at hby
    go_wp2_with fail
    refine (hby _).mono ?_
    rintro e w3 ⟨rfl, hw3⟩
    rw [hw3] at hb2
    have E3 := E1.up hb2
    have b3 := below_then b1 b1.size hb2
    clear hby hw3
    go_wp2_with fail
    refine (malive_any B w3 E3).mono ?_
    rintro e w4 ⟨rfl, hB4⟩
    go_wp2_with fail
    go_ret
    exact ⟨rfl, below_then b3 b3.size hB4⟩
  have hby := fun c => beyond_twoM n n' c w1 (by omega) (by omega)
  rw [decide_eq_false hbd] at hby
  go_wp2_with fail
  refine (hby _).mono ?_
  rintro e w4 ⟨rfl, hw3⟩
  rw [hw3] at hb2
  have b4 := below_then b1 b1.size hb2
  have k4 := k1.below hb2 hs1
  have HR4 := Lib.hid ((HR.out.below hb2).more hb2.size)
  have HR4' := Lib.hid ((HR'.out.below hb2).more hb2.size)
  have hs4 : w.heap.size < w4.heap.size := by have := hb2.size; omega
  clear hby hw3 HR HR' hb2 k1 E1
  have f0 : w4.cell? ⟨w.heap.size, 0, none⟩ = some (.int .i64 mode) := k4.cell 0
  go_wp2_with (first
    | (at_builtin; refine wpList_append_reads rfl (.tmp 21) (.tmp 22) 34 rfl w4.heap.size 36 i0 (.agg #[.int .i64 0, .int .u8 0, .int .i64 0, .int .u8 0, .bool false]) 5 32 Tryd.underlying34 hi0 hz0 hz1' hz2 rfl (by decide) _ 0 [] rfl (World.ownsRow_nil _ _ _ _) A n c w4.heap.size (chgv l) rfl HR4.out HN.out (chgv_one l) (by unfold maxLen; omega) (by omega) (Nat.le_refl _) ?_; intro v5 w5 hown5 hg5; have hB5 : Below w4.heap.size w4 w5 := (Below.refl _ _).grown hg5 (Nat.le_refl _) (fun g hg => by cases hg); have hs5 := hB5.size; rw [Nat.zero_add, List.nil_append] at hown5)
    | (at_builtin; refine wpList_append_reads rfl (.tmp 24) (.tmp 25) 34 rfl w4.heap.size 36 i0 (.agg #[.int .i64 0, .int .u8 0, .int .i64 0, .int .u8 0, .bool false]) 5 32 Tryd.underlying34 hi0 hz0 hz1' hz2 rfl (by decide) _ _ _ rfl hown5 A' n' c' w4.heap.size (chgv m) rfl (HR4'.out.below hB5) HN'.out (chgv_one m) (by unfold maxLen; omega) (by omega) (by omega) ?_; intro v6 w6 hown6 hg6; have hB6 : Below w4.heap.size w4 w6 := hB5.grown hg6 hs5 (own_ge hown5); have k6 := k4.below hB6 hs4; have g0 : w6.cell? ⟨w.heap.size, 0, none⟩ = some (.int .i64 mode) := k6.cell 0; have g1 : w6.cell? ⟨w.heap.size, 1, none⟩ = some (.int .i64 mask) := k6.cell 1; have g2 : w6.cell? ⟨w.heap.size, 2, none⟩ = some (.bool dir) := k6.cell 2))
  have hown7 : w6.ownsRow w4.heap.size 36 5 v6 (n + n') (chgv (l ++ m)) := by
    rw [show chgv (l ++ m) = chgv l ++ chgv m from by simp [sv_append]]
    exact hown6
  obtain ⟨A6, c6, rfl⟩ := own_slice hown7
  have b6 := below_then b4 b4.size hB6
  have ra6 := Reads.of_own hown7
  have rl6 := (HR4.out.below hB6).more hB6.size
  have rm6 := (HR4'.out.below hB6).more hB6.size
  have hs6 : w.heap.size < w6.heap.size := by have := hB6.size; omega
  obtain ⟨x, hx⟩ : ∃ x, x = chgAll l mask dir (mode % 512).toNat := ⟨_, rfl⟩
  obtain ⟨y, hy⟩ : ∃ y, y = chgAll m mask dir x := ⟨_, rfl⟩
  have hx5 : x < 512 := by rw [hx]; exact chgAll_lt mask dir l _ (by omega)
  have hy5 : y < 512 := by rw [hy]; exact chgAll_lt mask dir m _ hx5
  have hy2 : chgAll m mask dir (((x : Nat) : Int) % 512).toNat = y := by rw [hy]; congr 1; omega
  have hy3 : chgAll (l ++ m) mask dir (mode % 512).toNat = y := by rw [chgAll_append, ← hx, hy]
  have HY2 := Lib.hid hy2
  have HY3 := Lib.hid hy3
  have HX := Lib.hid hx.symm
  clear hown5 hown6 hown7 hg5 hg6 hB5 hB6 HR4 HR4' b4 k4 f0 hx hy hy2 hy3 hs5
  go_wp2_with fail
  refine (apply_any A n c l mode mask dir w6 rl6 (by omega)).mono ?_
  rintro e w7 ⟨rfl, hB7⟩
  rw [HX.out]
  have k7 := k6.below hB7 hs6
  have ra7 := (ra6.below hB7).more hB7.size
  have rm7 := (rm6.below hB7).more hB7.size
  have b7 := below_then b6 b6.size hB7
  have hs7 : w.heap.size < w7.heap.size := by have := hB7.size; omega
  clear ra6 rl6 rm6 b6 hB7 g0 g1 g2 k6 hs6
  have g0 : w7.cell? ⟨w.heap.size, 0, none⟩ = some (.int .i64 mode) := k7.cell 0
  have g1 : w7.cell? ⟨w.heap.size, 1, none⟩ = some (.int .i64 mask) := k7.cell 1
  have g2 : w7.cell? ⟨w.heap.size, 2, none⟩ = some (.bool dir) := k7.cell 2
  go_wp2_with fail
  refine (apply_any A' n' c' m (x : Nat) mask dir w7 rm7 (by omega)).mono ?_
  rintro e w8 ⟨rfl, hB8⟩
  rw [HY2.out]
  have k8 := k7.below hB8 hs7
  have ra8 := (ra7.below hB8).more hB8.size
  have b8 := below_then b7 b7.size hB8
  clear ra7 rm7 b7 hB8 g0 g1 g2 k7 hs7
  have g0 : w8.cell? ⟨w.heap.size, 0, none⟩ = some (.int .i64 mode) := k8.cell 0
  have g1 : w8.cell? ⟨w.heap.size, 1, none⟩ = some (.int .i64 mask) := k8.cell 1
  have g2 : w8.cell? ⟨w.heap.size, 2, none⟩ = some (.bool dir) := k8.cell 2
  go_wp2_with fail
  refine (apply_any A6 (n + n') c6 (l ++ m) mode mask dir w8 ra8 (by omega)).mono ?_
  rintro e w9 ⟨rfl, hB9⟩
  rw [HY3.out]
  have b9 := below_then b8 b8.size hB9
  have g5 : decide ((0 : Int) ≤ (y : Int)) = true := decide_eq_true (by omega)
  have g6 : decide ((y : Int) ≤ 511) = true := decide_eq_true (by omega)
  clear ra8 b8 hB9 g0 g1 g2 k8
  go_wp2_with fail
  go_ret
  exact ⟨rfl, b9⟩
end Go.Proofs.YtnpaddakkniliaaDoor
