/-
  Lists of api.Change: how they read; toolchestlaw01's TwinChanges, LeftChanges, SameChanges: contracts. (Written by gen_lists.py.)
-/
import Derived.Test.YtnpaddakkniliaaDoorBase
import Derived.Test.YtnpaddakkniliaaDoorChecked
namespace Go.Proofs.YtnpaddakkniliaaDoor
open Go.RowKit

structure Chg where
  who : Int
  op : UInt8
  bits : Int
  copy : UInt8
  dirs : Bool
def chg1 (x : Chg) : List Value := [.int .i64 x.who, .int .u8 (x.op.toNat : Int), .int .i64 x.bits, .int .u8 (x.copy.toNat : Int), .bool x.dirs]
theorem chg1_len (x : Chg) : (chg1 x).length = 5 := rfl
theorem chg1_one (x : Chg) : ∀ u ∈ chg1 x, u.oneCell' = true := by
  intro u hu
  simp [chg1] at hu
  rcases hu with rfl | rfl | rfl | rfl | rfl <;> rfl
def chgSpare : List Value := [.int .i64 0, .int .u8 0, .int .i64 77, .int .u8 0, .bool false]
theorem infoChg : (Tryd.prog.info? 36).map (fun i => (i.zero, i.size, i.bytes)) = some (some (.agg #[.int .i64 0, .int .u8 0, .int .i64 0, .int .u8 0, .bool false]), 5, 32) := by kernel_rfl
abbrev chgv (l : List Chg) : List Value := sv chg1 l



set_option maxHeartbeats 400000 in
theorem sameChanges_any (A A' : Option Addr) (n c c' B : Nat) (l : List Chg) (w : World) (hr : Reads w B 5 A n (chgv l)) (hr' : Reads w B 5 A' n (chgv l)) (hn : n ≤ 140737488351232) :
    Calls Tryd.prog 20 #[.slice A n c, .slice A' n c'] w fun e w' => e = .returned (.bool true) ∧ ∃ m, w' = w.drewN m := by
  have hl : l.length = n := by have := hr.1; rw [sv_length _ 5 chg1_len] at this; omega
  have HL := Lib.hid hl
  clear hl
  go_enter Tryd.func20, Tryd.ntmps20
  go_wp2
  go_loopw [5] (fun i wr => ∃ q : Nat, q ≤ n ∧ i = .int .i64 q ∧ ∃ m, wr = w.drewN m) (fun i _ => n - (intOf i).toNat)
  case atStart => exact ⟨0, Nat.zero_le _, rfl, 0, rfl⟩
  case round =>
    obtain ⟨q, hk, rfl, m, rfl⟩ := hrel
    by_cases hlt : q < n
    · have hkl : q < l.length := by rw [HL.out]; exact hlt
      obtain ⟨ad, rfl, had, hce⟩ := hr.elem chg1_len hlt HL.out (by omega)
      obtain ⟨ad', rfl, had', hde⟩ := hr'.elem chg1_len hlt HL.out (by omega)
      have hc0 := hce.1 _ rfl
      have hc1 := hce.2 0 _ rfl
      have hc2 := hce.2 1 _ rfl
      have hc3 := hce.2 2 _ rfl
      have hc4 := hce.2 3 _ rfl
      have hd0 := hde.1 _ rfl
      have hd1 := hde.2 0 _ rfl
      have hd2 := hde.2 1 _ rfl
      have hd3 := hde.2 2 _ rfl
      have hd4 := hde.2 3 _ rfl
      clear hr hr' hce hde
      go_wp2
      go_quiet (fail)
      go_wp2
      go_roundw
      case rel => exact ⟨q + 1, by omega, by go_num, _, rfl⟩
      case measure => simp [intOf]; omega
    · have hkn : q = n := by omega
      subst hkn
      clear hr hr'
      go_wp2
      go_ret
      exact ⟨rfl, m, rfl⟩
end Go.Proofs.YtnpaddakkniliaaDoor
