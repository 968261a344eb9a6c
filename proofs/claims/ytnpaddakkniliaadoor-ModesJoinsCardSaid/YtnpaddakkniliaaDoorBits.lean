/-
  Bits of whole numbers: plain lemmas, no program.
-/
import Derived.Test.YtnpaddakkniliaaDoorBase
import Derived.Laws.BitsAllLaws
import Derived.Laws.BitsLemmas
namespace Go.Proofs.YtnpaddakkniliaaDoor
open Go.RowKit

theorem ofInt_i64 (a : Nat) (ha : a < 9223372036854775808) : (BitVec.ofInt 64 (a : Int)).toNat = a := by
  rw [BitVec.ofInt_natCast, BitVec.toNat_ofNat]; exact Nat.mod_eq_of_lt (by omega)
theorem i64_and_nat (a b : Nat) (ha : a < 9223372036854775808) (hb : b < 9223372036854775808) : bits .and .i64 (a : Int) (b : Int) = ((a &&& b : Nat) : Int) := by
  have hx : a &&& b < 2 ^ 63 := Nat.and_lt_two_pow _ (by omega)
  show IntKind.i64.wrap ((BitVec.ofInt 64 (a : Int) &&& BitVec.ofInt 64 (b : Int)).toNat : Int) = _
  rw [BitVec.toNat_and, ofInt_i64 a ha, ofInt_i64 b hb, IntKind.wrap_i64]
  omega
theorem i64_or_nat (a b : Nat) (ha : a < 9223372036854775808) (hb : b < 9223372036854775808) : bits .or .i64 (a : Int) (b : Int) = ((a ||| b : Nat) : Int) := by
  have hx : a ||| b < 2 ^ 63 := Nat.or_lt_two_pow (by omega) (by omega)
  show IntKind.i64.wrap ((BitVec.ofInt 64 (a : Int) ||| BitVec.ofInt 64 (b : Int)).toNat : Int) = _
  rw [BitVec.toNat_or, ofInt_i64 a ha, ofInt_i64 b hb, IntKind.wrap_i64]
  omega
/-- The low bits of any number. -/
theorem i64_and_low (a : Int) (k : Nat) (hk : k < 63) : bits .and .i64 a ((2 ^ k - 1 : Nat) : Int) = a % ((2 ^ k : Nat) : Int) := by
  have hp : 2 ^ k ≤ 2 ^ 62 := Nat.pow_le_pow_right (by omega) (by omega)
  have hpos : 0 < 2 ^ k := Nat.pow_pos (by omega)
  have h62 : (2 : Nat) ^ 62 = 4611686018427387904 := by decide
  have hlt : (BitVec.ofInt 64 a).toNat % 2 ^ k < 2 ^ k := Nat.mod_lt _ hpos
  show IntKind.i64.wrap ((BitVec.ofInt 64 a &&& BitVec.ofInt 64 ((2 ^ k - 1 : Nat) : Int)).toNat : Int) = _
  rw [BitVec.toNat_and, ofInt_i64 (2 ^ k - 1) (by omega), Nat.and_two_pow_sub_one_eq_mod, IntKind.wrap_i64]
  have e : (((BitVec.ofInt 64 a).toNat % 2 ^ k : Nat) : Int) = a % ((2 ^ k : Nat) : Int) := by
    rw [Int.natCast_emod, BitVec.toNat_ofInt]
    rw [Int.toNat_of_nonneg (Int.emod_nonneg _ (by decide))]
    refine Int.emod_emod_of_dvd a ?_
    have : (2 : Nat) ^ k ∣ 2 ^ 64 := Nat.pow_dvd_pow 2 (by omega)
    exact Int.natCast_dvd_natCast.2 this
  rw [e]
  have h1 : 0 ≤ a % ((2 ^ k : Nat) : Int) := Int.emod_nonneg _ (by omega)
  have h2 : a % ((2 ^ k : Nat) : Int) < ((2 ^ k : Nat) : Int) := Int.emod_lt_of_pos _ (by omega)
  omega
theorem and7 (a : Int) : bits .and .i64 a 7 = a % 8 := i64_and_low a 3 (by omega)
theorem and511 (a : Int) : bits .and .i64 a 511 = a % 512 := i64_and_low a 9 (by omega)
theorem and1 (a : Int) : bits .and .i64 a 1 = a % 2 := i64_and_low a 1 (by omega)
theorem or_shift (a b i : Nat) (h : b < 2 ^ i) : b ||| a * 2 ^ i = a * 2 ^ i + b := by
  rw [Nat.or_comm, ← Nat.shiftLeft_eq, Nat.shiftLeft_add_eq_or_of_lt h]

/-- thrice: three bits, of each of those that are told. -/
def thr (who bits : Nat) : Nat := (if who % 2 = 1 then bits else 0) + (if who / 2 % 2 = 1 then bits * 8 else 0) + (if who / 4 % 2 = 1 then bits * 64 else 0)
def thrK (who bits k : Nat) : Nat := (if 0 < k ∧ who % 2 = 1 then bits else 0) + (if 1 < k ∧ who / 2 % 2 = 1 then bits * 8 else 0) + (if 2 < k ∧ who / 4 % 2 = 1 then bits * 64 else 0)

theorem i64_andNot_low (a : Int) (k : Nat) (hk : k < 63) (m : Nat) (hm : m < 2 ^ k) : bits .andNot .i64 (m : Int) a = ((m &&& (2 ^ k - 1 - (a % ((2 ^ k : Nat) : Int)).toNat) : Nat) : Int) := by
  have hp : 2 ^ k ≤ 2 ^ 62 := Nat.pow_le_pow_right (by omega) (by omega)
  have hpos : 0 < 2 ^ k := Nat.pow_pos (by omega)
  have h62 : (2 : Nat) ^ 62 = 4611686018427387904 := by decide
  have e : (a % ((2 ^ k : Nat) : Int)).toNat = (BitVec.ofInt 64 a).toNat % 2 ^ k := by
    have e' : (((BitVec.ofInt 64 a).toNat % 2 ^ k : Nat) : Int) = a % ((2 ^ k : Nat) : Int) := by
      rw [Int.natCast_emod, BitVec.toNat_ofInt]
      rw [Int.toNat_of_nonneg (Int.emod_nonneg _ (by decide))]
      refine Int.emod_emod_of_dvd a ?_
      have : (2 : Nat) ^ k ∣ 2 ^ 64 := Nat.pow_dvd_pow 2 (by omega)
      exact Int.natCast_dvd_natCast.2 this
    omega
  show IntKind.i64.wrap ((BitVec.ofInt 64 (m : Int) &&& ~~~ (BitVec.ofInt 64 a)).toNat : Int) = _
  rw [BitVec.toNat_and, BitVec.toNat_not, ofInt_i64 m (by omega), IntKind.wrap_i64, e]
  have hx : (BitVec.ofInt 64 a).toNat < 2 ^ 64 := (BitVec.ofInt 64 a).isLt
  generalize (BitVec.ofInt 64 a).toNat = x at hx
  have key : m &&& (2 ^ 64 - 1 - x) = m &&& (2 ^ k - 1 - x % 2 ^ k) := by
    apply Nat.eq_of_testBit_eq
    intro j
    have hxk : x % 2 ^ k < 2 ^ k := Nat.mod_lt _ hpos
    rw [Nat.testBit_and, Nat.testBit_and, show 2 ^ 64 - 1 - x = 2 ^ 64 - (x + 1) from by omega, show 2 ^ k - 1 - x % 2 ^ k = 2 ^ k - (x % 2 ^ k + 1) from by omega,
      Nat.testBit_two_pow_sub_succ hx, Nat.testBit_two_pow_sub_succ hxk, Nat.testBit_mod_two_pow]
    by_cases hj : j < k
    · simp [hj, show j < 64 from by omega]
    · have : m.testBit j = false := Nat.testBit_lt_two_pow (Nat.lt_of_lt_of_le hm (Nat.pow_le_pow_right (by omega) (by omega)))
      simp [this]
  rw [key]
  have hle : m &&& (2 ^ k - 1 - x % 2 ^ k) ≤ m := Nat.and_le_left
  omega
end Go.Proofs.YtnpaddakkniliaaDoor
