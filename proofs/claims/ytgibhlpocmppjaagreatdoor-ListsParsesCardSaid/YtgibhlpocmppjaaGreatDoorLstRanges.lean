/-
  Lists of api.Range: how they read; toolchestlaw01's TwinRanges, LeftRanges, SameRanges: contracts. (Written by gen_lists.py.)
-/
import Derived.Test.YtgibhlpocmppjaaGreatDoorBase
import Derived.Test.YtgibhlpocmppjaaGreatDoorChecked
namespace Go.Proofs.YtgibhlpocmppjaaGreatDoor
open Go.RowKit

structure Rng where
  fr : Int
  to : Int
def rng1 (x : Rng) : List Value := [.int .i64 x.fr, .int .i64 x.to]
theorem rng1_len (x : Rng) : (rng1 x).length = 2 := rfl
theorem rng1_one (x : Rng) : ∀ u ∈ rng1 x, u.oneCell' = true := by
  intro u hu
  simp [rng1] at hu
  rcases hu with rfl | rfl <;> rfl
def rngSpare : List Value := [.int .i64 77, .int .i64 0]
theorem infoRng : (Tryz.prog.info? 49).map (fun i => (i.zero, i.size, i.bytes)) = some (some (.agg #[.int .i64 0, .int .i64 0]), 2, 16) := by kernel_rfl
abbrev rngv (l : List Rng) : List Value := sv rng1 l



set_option maxHeartbeats 400000 in
theorem sameRanges_any (A A' : Option Addr) (n c c' B : Nat) (l : List Rng) (w : World) (hr : Reads w B 2 A n (rngv l)) (hr' : Reads w B 2 A' n (rngv l)) (hn : n ≤ 140737488351232) :
    Calls Tryz.prog 7 #[.slice A n c, .slice A' n c'] w fun e w' => e = .returned (.bool true) ∧ ∃ m, w' = w.drewN m := by
  have hl : l.length = n := by have := hr.1; rw [sv_length _ 2 rng1_len] at this; omega
  have HL := Lib.hid hl
  clear hl
  go_enter Tryz.func7, Tryz.ntmps7
  go_wp2
  go_loopw [5] (fun i wr => ∃ q : Nat, q ≤ n ∧ i = .int .i64 q ∧ ∃ m, wr = w.drewN m) (fun i _ => n - (intOf i).toNat)
  case atStart => exact ⟨0, Nat.zero_le _, rfl, 0, rfl⟩
  case round =>
    obtain ⟨q, hk, rfl, m, rfl⟩ := hrel
    by_cases hlt : q < n
    · have hkl : q < l.length := by rw [HL.out]; exact hlt
      obtain ⟨ad, rfl, had, hce⟩ := hr.elem rng1_len hlt HL.out (by omega)
      obtain ⟨ad', rfl, had', hde⟩ := hr'.elem rng1_len hlt HL.out (by omega)
      have hc0 := hce.1 _ rfl
      have hc1 := hce.2 0 _ rfl
      have hd0 := hde.1 _ rfl
      have hd1 := hde.2 0 _ rfl
      clear hr hr' hce hde
      go_wp2
      go_quiet (fail)
      go_wp2
      go_roundw
      case rel => exact ⟨q + 1, by omega, by go_num, _, rfl⟩
      case measure => simp [intOf]; omega
    · have hkn : q = n := by omega
      subst hkn
      clear hr hr'
      go_wp2
      go_ret
      exact ⟨rfl, m, rfl⟩
end Go.Proofs.YtgibhlpocmppjaaGreatDoor
