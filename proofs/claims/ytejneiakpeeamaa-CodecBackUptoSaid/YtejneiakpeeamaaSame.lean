/-
  toolchestlaw01's SameBytes, at two slices that read alike: its contract.
-/
import Derived.Test.YtejneiakpeeamaaBytes
namespace Go.Proofs.Ytejneiakpeeamaa
open Go.RowKit

set_option maxHeartbeats 400000 in
theorem sameBytes_eq (A A' : Option Addr) (n c c' B B' : Nat) (l : List UInt8) (w : World) (hr : Reads w B 1 A n (bv l)) (hr' : Reads w B' 1 A' n (bv l)) (hn : n ≤ 140737488351232) :
    Calls Try.prog 16 #[.slice A n c, .slice A' n c'] w fun e w' => e = .returned (.bool true) ∧ ∃ m, w' = w.drewN m := by
  have hl : l.length = n := by have := hr.1; rw [bv_length] at this; omega
  have HL := Lib.hid hl
  clear hl
  go_enter Try.func16, Try.ntmps16
  go_wp2
  go_loopw [5] (fun i wr => ∃ k : Nat, k ≤ n ∧ i = .int .i64 k ∧ ∃ m, wr = w.drewN m) (fun i _ => n - (intOf i).toNat)
  case atStart => exact ⟨0, Nat.zero_le _, rfl, 0, rfl⟩
  case round =>
    obtain ⟨k, hk, rfl, m, rfl⟩ := hrel
    by_cases hlt : k < n
    · obtain ⟨ad, u, rfl, had, hu, hcell⟩ := hr.at_ hlt
      obtain ⟨ad', u', rfl, had', hu', hcell'⟩ := hr'.at_ hlt
      have hkl : k < l.length := by rw [HL.out]; exact hlt
      rw [bv_get l k hkl] at hu hu'
      injection hu with hu
      injection hu' with hu'
      subst hu
      subst hu'
      clear hr hr'
      go_wp2
      go_quiet (fail)
      go_wp2
      go_roundw
      case rel => exact ⟨k + 1, by omega, by go_num, _, rfl⟩
      case measure => simp [intOf]; omega
    · have hkn : k = n := by omega
      subst hkn
      clear hr hr'
      go_wp2
      go_ret
      exact ⟨rfl, m, rfl⟩
end Go.Proofs.Ytejneiakpeeamaa
