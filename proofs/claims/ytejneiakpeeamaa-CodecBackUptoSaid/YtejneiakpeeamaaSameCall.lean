/-
  toolchestlaw01's SameCall, at two calls that read alike: its contract.
-/
import Derived.Test.YtejneiakpeeamaaLives
import Derived.Test.YtejneiakpeeamaaSame
namespace Go.Proofs.Ytejneiakpeeamaa
open Go.RowKit

set_option maxHeartbeats 1000000 in
set_option maxRecDepth 100000 in
theorem sameCall_eq (k : Int) (p o : ByteArray) (m u g t a b e f : Int) (A A' : Option Addr) (n c c' : Nat) (l : List UInt8) (w : World) (hr : Reads w w.heap.size 1 A n (bv l)) (hr' : Reads w w.heap.size 1 A' n (bv l)) (hn : n ≤ 140737488351232) :
    Calls Try.prog 15 #[.agg (cc (.int .u8 k) (.string p) (.string o) (.int .i64 m) (.int .i64 u) (.int .i64 g) (.int .i64 t) (.slice A n c) (.int .i64 a) (.int .i64 b) (.int .i64 e) (.int .i64 f)), .agg (cc (.int .u8 k) (.string p) (.string o) (.int .i64 m) (.int .i64 u) (.int .i64 g) (.int .i64 t) (.slice A' n c') (.int .i64 a) (.int .i64 b) (.int .i64 e) (.int .i64 f))] w
      fun e w' => e = .returned (.bool true) ∧ Below w.heap.size w w' := by
  simp only [cc]
  go_enter Try.func15, Try.ntmps15
  go_wp2_with fail
  refine (sameBytes_eq A A' n c c' w.heap.size w.heap.size l _ ((hr.alloc (Nat.le_refl _) _).alloc (by simp) _) ((hr'.alloc (Nat.le_refl _) _).alloc (by simp) _) hn).mono ?_
  rintro e1 w1 ⟨rfl, q, rfl⟩
  go_wp2_with fail
  go_ret
  exact ⟨rfl, below_drewN (((Below.refl _ _).alloc (Nat.le_refl _) _).alloc (by simp) _) q⟩
end Go.Proofs.Ytejneiakpeeamaa
