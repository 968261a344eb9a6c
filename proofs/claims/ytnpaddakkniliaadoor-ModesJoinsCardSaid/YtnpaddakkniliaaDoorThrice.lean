/-
  modes.thrice: its contract (three bits at most, of three at most).
-/
import Derived.Test.YtnpaddakkniliaaDoorBits
import Derived.Test.YtnpaddakkniliaaDoorBytes
namespace Go.Proofs.YtnpaddakkniliaaDoor
open Go.RowKit

theorem thrK_lt (who bits k : Nat) (hb : bits < 8) : thrK who bits k < 8 ^ k := by
  unfold thrK
  match k with
  | 0 => simp
  | 1 => split <;> simp <;> omega
  | 2 => split <;> split <;> simp <;> omega
  | k + 3 =>
    have : 512 ≤ 8 ^ (k + 3) := by
      have := Nat.pow_le_pow_right (n := 8) (by omega) (show 3 ≤ k + 3 by omega)
      omega
    split <;> split <;> split <;> omega
theorem thr_yes (who b k : Nat) (hk : k < 3) (hb : b < 8) (h : who / 2 ^ k % 2 = 1) : bits .or .i64 ((thrK who b k : Nat) : Int) (wrap64 ((b : Int) * 2 ^ (3 * k))) = ((thrK who b (k + 1) : Nat) : Int) := by
  have hl := thrK_lt who b k hb
  have hw : wrap64 ((b : Int) * 2 ^ (3 * k)) = ((b * 2 ^ (3 * k) : Nat) : Int) := by
    match k, hk with
    | 0, _ => unfold wrap64; simp; omega
    | 1, _ => unfold wrap64; simp; omega
    | 2, _ => unfold wrap64; simp; omega
  have hb2 : b * 2 ^ (3 * k) < 512 := by
    match k, hk with
    | 0, _ => simp; omega
    | 1, _ => simp; omega
    | 2, _ => simp; omega
  have hl2 : thrK who b k < 512 := by
    match k, hk with
    | 0, _ => simp at hl; omega
    | 1, _ => simp at hl; omega
    | 2, _ => simp at hl; omega
  rw [hw, i64_or_nat _ _ (by omega) (by omega), or_shift _ _ _ (by rw [Nat.pow_mul]; exact hl)]
  unfold thrK
  match k, hk with
  | 0, _ => simp at h ⊢; simp [h]
  | 1, _ => simp at h ⊢; simp [h]; omega
  | 2, _ => simp at h ⊢; simp [h]; omega
theorem thr_no (who b k : Nat) (hk : k < 3) (h : ¬ who / 2 ^ k % 2 = 1) : thrK who b (k + 1) = thrK who b k := by
  unfold thrK
  match k, hk with
  | 0, _ => simp at h ⊢; intro h'; omega
  | 1, _ => simp at h ⊢; intro h'; omega
  | 2, _ => simp at h ⊢; intro h'; omega
theorem thrK_three (who b : Nat) : thrK who b 3 = thr who b := by unfold thrK thr; simp

set_option maxHeartbeats 400000 in
theorem thrice_any (who b : Nat) (w : World) (_hw : who < 8) (hb : b < 8) :
    Calls Tryd.prog 26 #[.int .i64 (who : Int), .int .i64 (b : Int)] w fun e w' => e = .returned (.int .i64 (thr who b : Nat)) ∧ w = w' := by
  go_enter Tryd.func26, Tryd.ntmps26
  go_wp2
  go_loop [4, 6] (fun m i => ∃ k : Nat, k ≤ 3 ∧ i = .int .i64 k ∧ m = .int .i64 (thrK who b k : Nat)) (fun _ i => 3 - (intOf i).toNat)
  case atStart => exact ⟨0, by omega, rfl, by simp [thrK]⟩
  case round =>
    obtain ⟨k, hk, rfl, rfl⟩ := hrel
    by_cases hlt : k < 3
    · have hbit : bits .and .i64 ((who : Int) / 2 ^ k) 1 = ((who / 2 ^ k % 2 : Nat) : Int) := by
        rw [and1]; simp
      by_cases hq : who / 2 ^ k % 2 = 1
      · have q : (bits .and .i64 ((who : Int) / 2 ^ k) 1 == 1) = true := by rw [hbit, hq]; rfl
        have Hy := Lib.hid (thr_yes who b k hlt hb hq)
        clear hbit hq
        go_wp2
        go_round
        case rel => exact ⟨k + 1, by omega, by go_num, by rw [Hy.out]⟩
        case measure => simp [intOf]; omega
      · have q : (bits .and .i64 ((who : Int) / 2 ^ k) 1 == 1) = false := by
          rw [hbit]
          simp only [beq_eq_false_iff_ne]
          omega
        have Hn := Lib.hid (thr_no who b k hlt hq)
        clear hbit hq
        go_wp2
        go_round
        case rel => exact ⟨k + 1, by omega, by go_num, by rw [Hn.out]⟩
        case measure => simp [intOf]; omega
    · have hk3 : k = 3 := by omega
      have Hk := Lib.hid hk3
      clear hk3
      go_wp2
      go_ret
      exact ⟨ret_int (by rw [Hk.out, thrK_three]), rfl⟩
end Go.Proofs.YtnpaddakkniliaaDoor
