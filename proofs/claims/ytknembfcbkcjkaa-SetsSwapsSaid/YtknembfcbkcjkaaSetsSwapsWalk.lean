/-
  SetsSwaps: the law's walk.
-/
import Derived.Test.YtknembfcbkcjkaaRefSwap
import Derived.Test.YtknembfcbkcjkaaBeyond
namespace Go.Proofs.Ytknembfcbkcjkaa
open Go.RowKit

set_option maxRecDepth 100000 in
set_option maxHeartbeats 1000000 in
theorem setsSwaps_walk (s : ByteArray) (A : Option Addr) (n c : Nat) (fr : List UInt8) (A' : Option Addr) (m c' : Nat) (to : List UInt8) (w : World) (hs : s.size ≤ 140737488351232)
    (hr : Reads w w.heap.size 1 A n (bv fr)) (hn : n ≤ 140737488351232) (hr' : Reads w w.heap.size 1 A' m (bv to)) (hm : m ≤ 140737488351232) :
    Calls Try.prog 3 #[.string s, .slice A n c, .slice A' m c'] w fun e w' => e = .returned (.bool true) ∧ Below w.heap.size w w' := by
  have hl : fr.length = n := by have := hr.1; rw [bv_length] at this; omega
  have hl' : to.length = m := by have := hr'.1; rw [bv_length] at this; omega
  have HL := Lib.hid hl
  have HL' := Lib.hid hl'
  clear hl hl'
  obtain ⟨w0, hw0⟩ : ∃ w0, w0 = w.alloc (.cells #[.int .i64 (s.size : Int), .int .i64 (n : Int), .int .i64 (m : Int)] 3) := ⟨_, rfl⟩
  have hbuf : Buf w0 w.heap.size 3 (fun j => (iv [s.size, n, m]).getD j undef) := by
    rw [hw0]
    refine Buf.new w _ _ _ 3 (by simp) fun i hi => ?_
    match i, hi with
    | 0, _ => rfl
    | 1, _ => rfl
    | 2, _ => rfl
  have hrd : Reads w0 w0.heap.size 1 (some ⟨w.heap.size, 0, none⟩) 3 (iv [s.size, n, m]) := hbuf.reads rfl (Nat.le_refl _) (fun j hj => by
    match j, hj with
    | 0, _ => rfl
    | 1, _ => rfl
    | 2, _ => rfl) hbuf.lt
  have hB0 : Below w.heap.size w w0 := by rw [hw0]; exact (Below.refl _ _).alloc (Nat.le_refl _) _
  have hby := fun c => beyond_any (some ⟨w.heap.size, 0, none⟩) 3 c w0.heap.size [s.size, n, m] w0 hrd (by
    intro k h
    match k, h with
    | 0, _ => show s.size ≤ _; omega
    | 1, _ => show n ≤ _; omega
    | 2, _ => show m ≤ _; omega) (by omega)
  clear hbuf hrd
  by_cases hbd : 1048576 < s.size + n + m
  · have hbb : bydB [s.size, n, m] = true := decide_eq_true (by show 1048576 < s.size + (n + (m + 0)); omega)
    rw [hbb] at hby
    rw [hw0] at hby hB0
    clear hw0 hbb
    go_enter Try.func3, Try.ntmps3
    go_wp2_with (go_at_call 4; refine (hby _).mono ?_; rintro e w' ⟨rfl, rfl⟩)
    go_ret
    exact ⟨rfl, hB0⟩
  · have hbb : bydB [s.size, n, m] = false := decide_eq_false (by show ¬ 1048576 < s.size + (n + (m + 0)); omega)
    rw [hbb] at hby
    go_enter Try.func3, Try.ntmps3
    go_wp2_with fail
    rw [← hw0]
    refine (hby _).mono ?_
    rintro e w' ⟨rfl, rfl⟩
    clear hby hw0 hbb
    go_wp2_with fail
    have hr1 := (hr.below hB0).more hB0.size
    have hr1' := (hr'.below hB0).more hB0.size
    refine (twinBytes_any A n c fr w0 hr1 (by omega)).mono ?_
    rintro e w1 ⟨rfl, hown1, hB1⟩
    go_wp2_with fail
    have hr2' := (hr1'.below hB1).more hB1.size
    refine (twinBytes_any A' m c' to w1 hr2' (by omega)).mono ?_
    rintro e w2 ⟨rfl, hown2, hB2⟩
    have hown1b := own_below hown1 hB2
    have hlt1 := hown1.lt w0.heap.size rfl
    have hlt2 := hown2.lt w1.heap.size rfl
    go_wp2_with fail
    have ht1 := twin_reads (B := w2.heap.size) hown1b HL.out (by have := hB2.size; omega)
    have ht2 := twin_reads (B := w2.heap.size) hown2 HL'.out (by omega)
    refine (swap_all s _ _ n (n + 1) m (m + 1) fr to w2 ht1 ht2 (by omega) (by omega) (by omega)).mono ?_
    rintro e w3 ⟨rfl, hB3⟩
    go_wp2_with fail
    have hB03 := below_then (below_then hB1 hB1.size hB2) (by have := hB1.size; have := hB2.size; omega) hB3
    have hr3 := (hr1.below hB03).more hB03.size
    have hr3' := (hr1'.below hB03).more hB03.size
    refine (refSwap_all s A A' n c m c' fr to w3 hr3 hr3' (by omega) (by omega) (by omega)).mono ?_
    rintro e w4 ⟨rfl, hB4⟩
    go_wp2_with fail
    have ho1 := own_below (own_below hown1b hB3) hB4
    have ho2 := own_below (own_below hown2 hB3) hB4
    have hr4 := (hr3.below hB4).more hB4.size
    have hr4' := (hr3'.below hB4).more hB4.size
    refine (leftBytes_any A w0.heap.size n c w4.heap.size w0.heap.size fr w4 hr4 (by omega) ho1).mono ?_
    rintro e w5 ⟨rfl, k1, rfl⟩
    go_wp2_with fail
    refine (leftBytes_any A' w1.heap.size m c' w4.heap.size w1.heap.size to (w4.drewN k1) (hr4'.drewN _) (by omega) ho2).mono ?_
    rintro e w6 ⟨rfl, k2, rfl⟩
    go_wp2_with fail
    go_ret
    refine ⟨rfl, ?_⟩
    have hfin := below_drewN (below_drewN (below_then hB0 hB0.size (below_then hB03 hB03.size hB4)) k1) k2
    rwa [World.drewN_drewN] at hfin
end Go.Proofs.Ytknembfcbkcjkaa
