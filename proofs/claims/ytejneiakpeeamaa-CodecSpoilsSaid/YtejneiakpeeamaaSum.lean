/-
  codec.Sum, toolchestref16.Sum: their contracts.
-/
import Derived.Test.YtejneiakpeeamaaBytes
import Derived.Laws.BitsAllLaws
namespace Go.Proofs.Ytejneiakpeeamaa
open Go.RowKit

def crcStep (s : Nat) : Nat := if s % 2 = 1 then (s / 2) ^^^ 3988292384 else s / 2
def stepN : Nat → Nat → Nat
  | 0, s => s
  | k + 1, s => crcStep (stepN k s)
def crcByte (s : Nat) (b : UInt8) : Nat := stepN 8 (s ^^^ b.toNat)
def crcS (l : List UInt8) : Nat := l.foldl crcByte 4294967295
def crc (l : List UInt8) : Nat := crcS l ^^^ 4294967295
theorem crcStep_lt {s : Nat} (h : s < 4294967296) : crcStep s < 4294967296 := by
  unfold crcStep
  split
  · exact Nat.xor_lt_two_pow (n := 32) (by omega) (by omega)
  · omega
theorem stepN_lt {s : Nat} (h : s < 4294967296) : ∀ k, stepN k s < 4294967296
  | 0 => h
  | k + 1 => crcStep_lt (stepN_lt h k)
theorem xorb_lt {s : Nat} (b : UInt8) (h : s < 4294967296) : s ^^^ b.toNat < 4294967296 := Nat.xor_lt_two_pow (n := 32) (by omega) (by have := b.toNat_lt; omega)
theorem crcByte_lt {s : Nat} (b : UInt8) (h : s < 4294967296) : crcByte s b < 4294967296 := stepN_lt (xorb_lt b h) 8
theorem crcS_snoc (l : List UInt8) (b : UInt8) : crcS (l ++ [b]) = crcByte (crcS l) b := by simp [crcS]
theorem crcS_lt (l : List UInt8) : crcS l < 4294967296 := by
  unfold crcS
  have : ∀ (l : List UInt8) (s : Nat), s < 4294967296 → l.foldl crcByte s < 4294967296 := by
    intro l
    induction l with
    | nil => exact fun s h => h
    | cons b l ih => exact fun s h => ih _ (crcByte_lt b h)
  exact this l _ (by decide)
theorem crc_lt (l : List UInt8) : crc l < 4294967296 := Nat.xor_lt_two_pow (n := 32) (crcS_lt l) (by decide)
theorem unot_u32 (l : List UInt8) : bits .xor .u32 IntKind.u32.max ((crcS l : Nat) : Int) = ((crc l : Nat) : Int) := by
  have h := u32_xor_nat 4294967295 (crcS l) (by decide) (crcS_lt l)
  rw [Nat.xor_comm] at h
  exact h
theorem step_u32 (Y : Nat) (hY : Y < 4294967296) : bits .xor .u32 ((Y : Int) / 2) (bits .and .u32 3988292384 (-((Y : Int) % 2) % 4294967296)) = ((crcStep Y : Nat) : Int) := by
  unfold crcStep
  rcases Nat.mod_two_eq_zero_or_one Y with h | h
  · have e : (-((Y : Int) % 2) % 4294967296) = ((0 : Nat) : Int) := by omega
    have e2 : ((Y : Int) / 2) = ((Y / 2 : Nat) : Int) := by omega
    rw [e, e2, show (3988292384 : Int) = ((3988292384 : Nat) : Int) from rfl, u32_and_nat _ _ (by decide) (by decide), Nat.and_zero, u32_xor_nat _ _ (by omega) (by decide), Nat.xor_zero, if_neg (by omega)]
  · have e : (-((Y : Int) % 2) % 4294967296) = ((4294967295 : Nat) : Int) := by omega
    have e2 : ((Y : Int) / 2) = ((Y / 2 : Nat) : Int) := by omega
    rw [e, e2, show (3988292384 : Int) = ((3988292384 : Nat) : Int) from rfl, u32_and_nat _ _ (by decide) (by decide), show (3988292384 &&& 4294967295 : Nat) = 3988292384 from by decide, u32_xor_nat _ _ (by omega) (by decide), if_pos h]

set_option maxHeartbeats 400000 in
theorem sum_any (A : Option Addr) (n c B : Nat) (l : List UInt8) (w : World) (hr : Reads w B 1 A n (bv l)) (hn : n ≤ 140737488351232) :
    Calls Try.prog 10 #[.slice A n c] w fun e w' => e = .returned (.int .u32 (crc l : Nat)) ∧ w = w' := by
  have hl : l.length = n := by have := hr.1; simp [bv] at this; omega
  have HL := Lib.hid hl
  clear hl
  go_enter Try.func10, Try.ntmps10
  go_wp2
  go_loop [3, 8] (fun s i => ∃ q : Nat, q ≤ n ∧ i = .int .i64 q ∧ s = .int .u32 (crcS (l.take q) : Nat)) (fun _ i => n - (intOf i).toNat)
  case atStart => exact ⟨0, Nat.zero_le _, rfl, rfl⟩
  case round =>
    obtain ⟨q, hk, rfl, rfl⟩ := hrel
    by_cases hlt : q < n
    · have hkl : q < l.length := by rw [HL.out]; exact hlt
      have hnext : crcS (l.take (q + 1)) = crcByte (crcS (l.take q)) l[q] := by
        rw [List.take_succ_eq_append_getElem hkl, crcS_snoc]
      have hS := crcS_lt (l.take q)
      have hc : (l[q]).toNat < 256 := (l[q]).toNat_lt
      obtain ⟨ad, u, hA, had, hu, hcell⟩ := hr.at_ hlt
      subst hA
      rw [bv_get l q hkl] at hu
      injection hu with hu
      subst hu
      have hx := u32_xor_nat (crcS (l.take q)) (l[q]).toNat hS (by omega)
      have hX := xorb_lt l[q] hS
      obtain ⟨X, hXe⟩ : ∃ X, X = crcS (l.take q) ^^^ (l[q]).toNat := ⟨_, rfl⟩
      rw [← hXe] at hx hX
      have HN := Lib.hid (show crcS (l.take (q + 1)) = stepN 8 X by rw [hnext, hXe]; rfl)
      clear hnext hXe
      go_wp2
      go_loop [3, 16] (fun s i => ∃ k : Nat, k ≤ 8 ∧ i = .int .i64 k ∧ s = .int .u32 (stepN k X : Nat)) (fun _ i => 8 - (intOf i).toNat)
      case atStart => exact ⟨0, Nat.zero_le _, rfl, rfl⟩
      case round =>
        obtain ⟨k, hk8, rfl, rfl⟩ := hrel
        by_cases hlt8 : k < 8
        · have hY := stepN_lt hX k
          obtain ⟨Y, hYe⟩ : ∃ Y, Y = stepN k X := ⟨_, rfl⟩
          have HY := Lib.hid (show stepN (k + 1) X = crcStep Y by rw [hYe]; rfl)
          rw [← hYe] at hY ⊢
          clear hYe hx
          have h1 : bits .and .u32 (Y : Int) 1 = ((Y % 2 : Nat) : Int) := by
            have := u32_and_nat Y 1 hY (by decide)
            rw [Nat.and_one_is_mod] at this
            exact this
          have HS := Lib.hid (step_u32 Y hY)
          go_wp2
          go_round
          case rel => exact ⟨k + 1, by omega, by go_num, by rw [HY.out, HS.out]⟩
          case measure => simp [intOf]; omega
        · have HK := Lib.hid (show k = 8 by omega)
          clear hx hcell
          go_wp2
          go_round
          case rel => exact ⟨q + 1, by omega, by go_num, by rw [HN.out, HK.out]⟩
          case measure => simp [intOf]; omega
    · obtain rfl : q = n := by omega
      rw [List.take_of_length_le (by rw [HL.out]; exact Nat.le_refl _)]
      have HU := Lib.hid (unot_u32 l)
      go_wp2
      go_ret
      exact ⟨ret_int (by rw [HU.out]), rfl⟩

set_option maxHeartbeats 400000 in
theorem refSum_any (A : Option Addr) (n c B : Nat) (l : List UInt8) (w : World) (hr : Reads w B 1 A n (bv l)) (hn : n ≤ 140737488351232) :
    Calls Try.prog 11 #[.slice A n c] w fun e w' => e = .returned (.int .u32 (crc l : Nat)) ∧ w = w' := by
  have hl : l.length = n := by have := hr.1; simp [bv] at this; omega
  have HL := Lib.hid hl
  clear hl
  go_enter Try.func11, Try.ntmps11
  go_wp2
  go_loop [3, 4] (fun s i => ∃ q : Nat, q ≤ n ∧ i = .int .i64 q ∧ s = .int .u32 (crcS (l.take q) : Nat)) (fun _ i => n - (intOf i).toNat)
  case atStart => exact ⟨0, Nat.zero_le _, rfl, rfl⟩
  case round =>
    obtain ⟨q, hk, rfl, rfl⟩ := hrel
    by_cases hlt : q < n
    · have hkl : q < l.length := by rw [HL.out]; exact hlt
      have hnext : crcS (l.take (q + 1)) = crcByte (crcS (l.take q)) l[q] := by
        rw [List.take_succ_eq_append_getElem hkl, crcS_snoc]
      have hS := crcS_lt (l.take q)
      have hc : (l[q]).toNat < 256 := (l[q]).toNat_lt
      obtain ⟨ad, u, hA, had, hu, hcell⟩ := hr.at_ hlt
      subst hA
      rw [bv_get l q hkl] at hu
      injection hu with hu
      subst hu
      have hx := u32_xor_nat (crcS (l.take q)) (l[q]).toNat hS (by omega)
      have hX := xorb_lt l[q] hS
      obtain ⟨X, hXe⟩ : ∃ X, X = crcS (l.take q) ^^^ (l[q]).toNat := ⟨_, rfl⟩
      rw [← hXe] at hx hX
      have HN := Lib.hid (show crcS (l.take (q + 1)) = stepN 8 X by rw [hnext, hXe]; rfl)
      clear hnext hXe
      go_wp2
      go_loop [3, 5] (fun s i => ∃ k : Nat, k ≤ 8 ∧ i = .int .i64 k ∧ s = .int .u32 (stepN k X : Nat)) (fun _ i => 8 - (intOf i).toNat)
      case atStart => exact ⟨0, Nat.zero_le _, rfl, rfl⟩
      case round =>
        obtain ⟨k, hk8, rfl, rfl⟩ := hrel
        by_cases hlt8 : k < 8
        · have hY := stepN_lt hX k
          obtain ⟨Y, hYe⟩ : ∃ Y, Y = stepN k X := ⟨_, rfl⟩
          have HY := Lib.hid (show stepN (k + 1) X = crcStep Y by rw [hYe]; rfl)
          rw [← hYe] at hY ⊢
          clear hYe hx
          have h1 : bits .and .u32 (Y : Int) 1 = ((Y % 2 : Nat) : Int) := by
            have := u32_and_nat Y 1 hY (by decide)
            rw [Nat.and_one_is_mod] at this
            exact this
          rcases Nat.mod_two_eq_zero_or_one Y with h | h
          · have q1 : (bits .and .u32 (Y : Int) 1 == 1) = false := by rw [h1, h]; rfl
            have HS := Lib.hid (show crcStep Y = Y / 2 by unfold crcStep; rw [if_neg (by omega)])
            clear h1 h
            go_wp2
            go_round
            case rel => exact ⟨k + 1, by omega, by go_num, by rw [HY.out, HS.out]; simp⟩
            case measure => simp [intOf]; omega
          · have q1 : (bits .and .u32 (Y : Int) 1 == 1) = true := by rw [h1, h]; rfl
            have HS := Lib.hid (show crcStep Y = (Y / 2) ^^^ 3988292384 by unfold crcStep; rw [if_pos h])
            have h2 : bits .xor .u32 ((Y : Int) / 2) 3988292384 = (((Y / 2) ^^^ 3988292384 : Nat) : Int) := by
              rw [show ((Y : Int) / 2) = ((Y / 2 : Nat) : Int) from by omega]
              exact u32_xor_nat _ 3988292384 (by omega) (by decide)
            clear h1 h
            go_wp2
            go_round
            case rel => exact ⟨k + 1, by omega, by go_num, by rw [HY.out, HS.out]⟩
            case measure => simp [intOf]; omega
        · have HK := Lib.hid (show k = 8 by omega)
          clear hx hcell
          go_wp2
          go_round
          case rel => exact ⟨q + 1, by omega, by go_num, by rw [HN.out, HK.out]⟩
          case measure => simp [intOf]; omega
    · obtain rfl : q = n := by omega
      rw [List.take_of_length_le (by rw [HL.out]; exact Nat.le_refl _)]
      have HU := Lib.hid (unot_u32 l)
      go_wp2
      go_ret
      exact ⟨ret_int (by rw [HU.out]), rfl⟩
end Go.Proofs.Ytejneiakpeeamaa
