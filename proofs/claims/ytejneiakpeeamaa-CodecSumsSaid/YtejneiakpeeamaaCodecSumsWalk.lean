/-
  CodecSums: the law's walk.
-/
import Derived.Test.YtejneiakpeeamaaLives
import Derived.Test.YtejneiakpeeamaaTwin
namespace Go.Proofs.Ytejneiakpeeamaa
open Go.RowKit

set_option maxHeartbeats 1000000 in
set_option maxRecDepth 100000 in
theorem codecSums_walk (A : Option Addr) (n c : Nat) (l : List UInt8) (w : World) (hr : Reads w w.heap.size 1 A n (bv l)) (hn : n ≤ 140737488351232) :
    Calls Try.prog 3 #[.slice A n c] w fun e w' => e = .returned (.bool true) ∧ Below w.heap.size w w' := by
  have hl : l.length = n := by have := hr.1; rw [bv_length] at this; omega
  have HL := Lib.hid hl
  clear hl
  by_cases hb : 200000 < n
  · go_enter Try.func3, Try.ntmps3
    go_wp2_with fail
    refine (lives_any w).mono ?_
    rintro e w' ⟨rfl, hB⟩
    go_wp2_with fail
    go_ret
    exact ⟨rfl, hB⟩
  · go_enter Try.func3, Try.ntmps3
    go_wp2_with fail
    refine (twinBytes_any A n c l w hr (by omega)).mono ?_
    rintro e w1 ⟨rfl, hown1, hB1⟩
    have hlt1 := hown1.lt w.heap.size rfl
    have hr1 := (hr.below hB1).more hB1.size
    have ht1 := twin_reads (B := w1.heap.size) hown1 HL.out hlt1.2
    go_wp2_with fail
    refine (sum_any _ n (n + 1) _ l w1 ht1 (by omega)).mono ?_
    rintro e w1' ⟨rfl, rfl⟩
    go_wp2_with fail
    refine (refSum_any A n c _ l w1 hr1 (by omega)).mono ?_
    rintro e w1' ⟨rfl, rfl⟩
    go_wp2_with fail
    refine (leftBytes_any A w.heap.size n c w1.heap.size w.heap.size l w1 hr1 (by omega) hown1).mono ?_
    rintro e w2 ⟨rfl, k, rfl⟩
    go_wp2_with fail
    refine (lives_any _).mono ?_
    rintro e w3 ⟨rfl, hB3⟩
    go_wp2_with fail
    go_ret
    exact ⟨rfl, below_then (below_drewN hB1 k) (by have := hB1.size; simp; omega) hB3⟩
end Go.Proofs.Ytejneiakpeeamaa
