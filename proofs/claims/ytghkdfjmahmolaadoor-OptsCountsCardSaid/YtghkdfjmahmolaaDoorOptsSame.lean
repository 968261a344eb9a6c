/-
  toolchestlaw01's SameFlags, SameTexts at equal lists; TextsSize: contracts.
-/
import Derived.Test.YtghkdfjmahmolaaDoorOptsParse2
namespace Go.Proofs.YtghkdfjmahmolaaDoor
open Go.RowKit

set_option maxHeartbeats 1000000 in
theorem sameFlags_any (A A' : Option Addr) (n c c' B : Nat) (l : List FlagL) (w : World) (hr : Reads w B 2 A n (flv l)) (hr' : Reads w B 2 A' n (flv l)) (hn : n ≤ 9223372036854775807) :
    Calls Tryd.prog 17 #[.slice A n c, .slice A' n c'] w fun e w' => e = .returned (.bool true) ∧ Below w.heap.size w w' := by
  have hl : (l.map fun x : FlagL => ((x.1, str x.2) : Flag2)).length = n := by have := hr.1; rw [flv_length] at this; rw [List.length_map]; omega
  have HL := Lib.hid hl
  clear hl
  unfold flv at hr hr'
  generalize (l.map fun x : FlagL => ((x.1, str x.2) : Flag2)) = m at hr hr' HL
  go_enter Tryd.func17, Tryd.ntmps17
  go_wp2_with fail
  go_loopw [5] (fun i wr => ∃ k q : Nat, k ≤ n ∧ i = .int .i64 k ∧ wr = w.drewN q) (fun i _ => n - (intOf i).toNat)
  case atStart => exact ⟨0, 0, Nat.zero_le _, rfl, rfl⟩
  case round =>
    obtain ⟨k, q, hk, rfl, rfl⟩ := hrel
    by_cases hlt : k < n
    · have hkl : k < m.length := by rw [HL.out]; exact hlt
      obtain ⟨ad, rfl, had, hc0, hc1⟩ := hr.flag hlt HL.out
      obtain ⟨ad', rfl, had', hd0, hd1⟩ := hr'.flag hlt HL.out
      have hkI : (k : Int) < (n : Int) := by omega
      clear hr hr'
      go_wp2_with fail
      go_quiet (fail)
      go_wp2_with fail
      go_roundw
      case rel => exact ⟨k + 1, _, by omega, by go_num, rfl⟩
      case measure => simp [intOf]; omega
    · have hkI : ¬ (k : Int) < (n : Int) := by omega
      go_wp2_with fail
      go_ret
      exact ⟨rfl, ⟨rfl, rfl, rfl, Nat.le_refl _, fun _ _ => rfl⟩⟩
set_option maxHeartbeats 1000000 in
theorem sameTexts_any (A A' : Option Addr) (n c c' B : Nat) (l : List (List UInt8)) (w : World) (hr : Reads w B 1 A n (txv l)) (hr' : Reads w B 1 A' n (txv l)) (hn : n ≤ 9223372036854775807) :
    Calls Tryd.prog 18 #[.slice A n c, .slice A' n c'] w fun e w' => e = .returned (.bool true) ∧ Below w.heap.size w w' := by
  have hl : l.length = n := by have := hr.1; rw [txv_length] at this; omega
  have HL := Lib.hid hl
  clear hl
  go_enter Tryd.func18, Tryd.ntmps18
  go_wp2_with fail
  go_loopw [5] (fun i wr => ∃ k q : Nat, k ≤ n ∧ i = .int .i64 k ∧ wr = w.drewN q) (fun i _ => n - (intOf i).toNat)
  case atStart => exact ⟨0, 0, Nat.zero_le _, rfl, rfl⟩
  case round =>
    obtain ⟨k, q, hk, rfl, rfl⟩ := hrel
    by_cases hlt : k < n
    · have hkl : k < l.length := by rw [HL.out]; exact hlt
      obtain ⟨ad, u, rfl, had, hu, hc0⟩ := hr.at_ hlt
      obtain ⟨ad', u', rfl, had', hu', hd0⟩ := hr'.at_ hlt
      rw [txv_at l k hkl] at hu hu'
      injection hu with hu
      injection hu' with hu'
      subst hu
      subst hu'
      have hkI : (k : Int) < (n : Int) := by omega
      clear hr hr'
      go_wp2_with fail
      go_quiet (fail)
      go_wp2_with fail
      go_roundw
      case rel => exact ⟨k + 1, _, by omega, by go_num, rfl⟩
      case measure => simp [intOf]; omega
    · have hkI : ¬ (k : Int) < (n : Int) := by omega
      go_wp2_with fail
      go_ret
      exact ⟨rfl, ⟨rfl, rfl, rfl, Nat.le_refl _, fun _ _ => rfl⟩⟩
theorem sumL_take (l : List (List UInt8)) (k : Nat) (h : k < l.length) : sumL (l.take (k + 1)) = sumL (l.take k) + l[k].length := by
  unfold sumL
  rw [List.take_succ_eq_append_getElem h, List.map_append, List.sum_append]
  simp
set_option maxHeartbeats 1000000 in
theorem textsSize_any (A : Option Addr) (n c B : Nat) (l : List (List UInt8)) (w : World) (hr : Reads w B 1 A n (txv l)) (hn : n ≤ 140737488351232) (hs : ∀ k (h : k < l.length), l[k].length ≤ 140737488351232) :
    Calls Tryd.prog 15 #[.slice A n c] w fun e w' => (∃ z : Nat, e = .returned (.int .i64 z) ∧ z ≤ 281474976710656 ∧ (z ≤ 1048576 → n + sumL l ≤ 1048576)) ∧ w' = w := by
  have hl : l.length = n := by have := hr.1; rw [txv_length] at this; omega
  have HL := Lib.hid hl
  have HS := Lib.hid hs
  clear hl hs
  go_enter Tryd.func15, Tryd.ntmps15
  go_wp2_with fail
  go_loop [3, 4] (fun s i => ∃ k z : Nat, k ≤ n ∧ i = .int .i64 k ∧ s = .int .i64 z ∧ z ≤ 140737489399808 ∧ Hid (z = n + sumL (l.take k))) (fun _ i => n - (intOf i).toNat)
  case atStart => exact ⟨0, n, Nat.zero_le _, rfl, rfl, by omega, by show _ = _; simp [sumL]⟩
  case round =>
    obtain ⟨k, z, hk, rfl, rfl, hz, HZ⟩ := hrel
    by_cases hlt : k < n
    · have hkI : (k : Int) < (n : Int) := by omega
      by_cases hz2 : z ≤ 1048576
      · have hzI : decide ((z : Int) ≤ 1048576) = true := decide_eq_true (by omega)
        have hkl : k < l.length := by rw [HL.out]; exact hlt
        obtain ⟨ad, u, rfl, had, hu, hc0⟩ := hr.at_ hlt
        rw [txv_at l k hkl] at hu
        injection hu with hu
        subst hu
        have hx := HS.out k hkl
        have hsx : (str l[k]).size = l[k].length := str_size _
        have HN := Lib.hid (show z + l[k].length = n + sumL (l.take (k + 1)) by rw [sumL_take l k hkl, HZ.out]; omega)
        go_wp2_with fail
        go_round
        case rel => exact ⟨k + 1, z + l[k].length, by omega, by go_num, by go_num, by omega, HN.out⟩
        case measure => simp [intOf]; omega
      · have hzI : decide ((z : Int) ≤ 1048576) = false := decide_eq_false (by omega)
        go_wp2_with fail
        go_ret
        exact ⟨⟨z, rfl, by omega, fun h => absurd h hz2⟩, rfl⟩
    · have hkI : ¬ (k : Int) < (n : Int) := by omega
      obtain rfl : k = n := by omega
      have HE := Lib.hid (show z = k + sumL l by rw [HZ.out, List.take_of_length_le (by rw [HL.out]; exact Nat.le_refl _)])
      go_wp2_with fail
      go_ret
      exact ⟨⟨z, rfl, by omega, fun h => by rw [← HE.out]; exact h⟩, rfl⟩
end Go.Proofs.YtghkdfjmahmolaaDoor
