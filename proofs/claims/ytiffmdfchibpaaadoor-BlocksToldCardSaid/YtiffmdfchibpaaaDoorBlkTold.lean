/-
  toolchestlaw11's digits: its contract (turned from XOptsDigits); what Size says of digits.
-/
import Derived.Test.YtiffmdfchibpaaaDoorBlkSize
import Derived.Laws.Strings2
set_option linter.unusedVariables false
set_option linter.unusedSimpArgs false
namespace Go.Proofs.YtiffmdfchibpaaaDoor
open Go.RowKit

theorem str_appD (a b : List UInt8) : str a ++ str b = str (a ++ b) := by
  apply ByteArray.ext
  simp [str]
def digC (n : Nat) : UInt8 := UInt8.ofNat (48 + n)
theorem dig_at (n : Nat) (h : n < 10) : ({ data := #[48, 49, 50, 51, 52, 53, 54, 55, 56, 57] } : ByteArray).extract n (n + 1) = str [digC n] := by
  match n, h with
  | 0, _ => rfl
  | 1, _ => rfl
  | 2, _ => rfl
  | 3, _ => rfl
  | 4, _ => rfl
  | 5, _ => rfl
  | 6, _ => rfl
  | 7, _ => rfl
  | 8, _ => rfl
  | 9, _ => rfl
theorem dig_run (k : IntKind) (n : Nat) (h : n < 10) : ∀ w : World, (Instr.slice 9 (.string { data := #[48, 49, 50, 51, 52, 53, 54, 55, 56, 57] }) (some (.int k (n : Int))) (some (.int k ((n : Int) + 1))) none).run Tryd.prog w = .ok (.string (str [digC n])) w := by
  intro w
  rw [← dig_at n h]
  exact run_slice_string (P := Tryd.prog) w 9 { data := #[48, 49, 50, 51, 52, 53, 54, 55, 56, 57] } k k (n : Int) ((n : Int) + 1) Tryd.underlying9 (by omega) (by omega) (by show (n : Int) + 1 ≤ 10; omega)
theorem digits_rec (u : Nat) (h : 10 ≤ u) : Lib.decDigits u = Lib.decDigits (u / 10) ++ [digC (u % 10)] := by
  unfold digC
  rw [Lib.decDigits, dif_neg (by omega)]
theorem digits_lenD : ∀ (k u : Nat), u < 10 ^ (k + 1) → (Lib.decDigits u).length ≤ k + 1
  | 0, u, h => by rw [Lib.decDigits_one (by omega)]; simp
  | k + 1, u, h => by
    by_cases h10 : u < 10
    · rw [Lib.decDigits_one h10]; simp
    · rw [digits_rec u (by omega), List.length_append]
      have := digits_lenD k (u / 10) (by rw [Nat.pow_succ] at h; omega)
      simp
      omega
def digP (m : Nat) : List UInt8 := if m < 10 then [] else Lib.decDigits (m / 10)
theorem digP_eq (m : Nat) : digP m ++ [digC (m % 10)] = Lib.decDigits m := by
  unfold digP
  split
  · rename_i h
    rw [Lib.decDigits_one h, Nat.mod_eq_of_lt h]
    rfl
  · rename_i h
    rw [digits_rec m (by omega)]
set_option maxRecDepth 100000 in
set_option maxHeartbeats 1000000 in
theorem lawDigits_any (u : Nat) (w : World) (hu : u < 18446744073709551616) :
    Calls Tryd.prog 12 #[.int .u64 (u : Int)] w fun e w' => e = .returned (.string (str (Lib.decDigits u))) ∧ w = w' := by
  have hm := Nat.mod_lt u (show 0 < 10 by omega)
  obtain ⟨b, hb⟩ : ∃ b, b = u % 10 := ⟨_, rfl⟩
  have e7 : (u : Int) % 10 = (b : Int) := by omega
  have e3 : IntKind.u64.wrap ((b : Int) + 1) = (b : Int) + 1 := by rw [IntKind.wrap_u64]; omega
  have hx := dig_run .u64 b (by omega)
  have H0 := Lib.hid (show digP u ++ [digC b] = Lib.decDigits u by rw [hb, digP_eq])
  have hlen : (Lib.decDigits u).length ≤ 20 := digits_lenD 19 _ (by omega)
  have HL := Lib.hid hlen
  clear hb hm hlen
  go_enter Tryd.func12, Tryd.ntmps12
  go_wp2_with fail
  go_loop [0, 3] (fun v s => ∃ m : Nat, ∃ t : List UInt8, m < 18446744073709551616 ∧ v = .int .u64 m ∧ s = .string (str t) ∧ Hid (digP m ++ t = Lib.decDigits u)) (fun v _ => (intOf v).toNat)
  case atStart => exact ⟨u, [digC b], hu, rfl, rfl, H0⟩
  case round =>
    obtain ⟨m, t, hml, rfl, rfl, hd⟩ := hrel
    clear hx e3 e7 H0
    by_cases h10 : m < 10
    · have HT := Lib.hid (show t = Lib.decDigits u by
        have h := hd.out
        unfold digP at h
        rw [if_pos h10, List.nil_append] at h
        exact h)
      have f0 : decide ((10 : Int) ≤ (m : Int)) = false := decide_eq_false (by omega)
      go_wp2_with fail
      go_ret
      exact ⟨by rw [← HT.out]; rfl, rfl⟩
    · have f0 : decide ((10 : Int) ≤ (m : Int)) = true := decide_eq_true (by omega)
      obtain ⟨a, ha⟩ : ∃ a, a = m / 10 := ⟨_, rfl⟩
      obtain ⟨c, hc⟩ : ∃ c, c = a % 10 := ⟨_, rfl⟩
      have hm2 := Nat.mod_lt a (show 0 < 10 by omega)
      have e6 : (m : Int) / 10 = (a : Int) := by omega
      have e8 : (a : Int) % 10 = (c : Int) := by omega
      have e9 : IntKind.u64.wrap ((c : Int) + 1) = (c : Int) + 1 := by rw [IntKind.wrap_u64]; omega
      have hx := dig_run .u64 c (by omega)
      have hlt : a < m := by omega
      have HN := Lib.hid (show digP a ++ ([digC c] ++ t) = Lib.decDigits u by
        have h := hd.out
        unfold digP at h
        rw [if_neg h10] at h
        rw [← List.append_assoc, hc, digP_eq, ha]
        exact h)
      have htl : t.length ≤ 20 := by
        have h := congrArg List.length hd.out
        rw [List.length_append] at h
        have := HL.out
        omega
      have hz1 := str_size t
      have hz2 := str_size [digC c]
      have hz : (str [digC c]).size + (str t).size ≤ 21 := by rw [hz1, hz2]; simp; omega
      clear ha hc hm2 hz1 hz2 htl
      go_wp2_with fail
      go_round
      case rel => exact ⟨a, [digC c] ++ t, by omega, rfl, by rw [← str_appD], HN⟩
      case measure => simp [intOf]; omega

theorem told_ok (u t : Nat) (ht : 1 ≤ t) : sizeOk (Lib.decDigits u) t = decide (u * t ≤ 2147483647) := by
  unfold sizeOk
  rw [digits_dig, decV_digits]
  have h1 : 1 ≤ (Lib.decDigits u).length := by
    have := digits_ne u
    cases h : Lib.decDigits u with
    | nil => exact absurd h this
    | cons a b => simp
  rw [decide_eq_true h1]
  by_cases hu : u * t ≤ 2147483647
  · have h2 : u ≤ 2147483647 := Nat.le_trans (Nat.le_mul_of_pos_right u ht) hu
    have h3 := digits_lenD 9 u (by omega)
    rw [decide_eq_true h3, decide_eq_true hu]
    rfl
  · rw [decide_eq_false hu]
    simp
theorem told_is (u t : Nat) (ht : 1 ≤ t) (e : Ending) (h : SizeIs (Lib.decDigits u) t e) :
    ∃ (v : Int) (b : Bool), e = .returned (.tuple #[.int .i64 v, .bool b]) ∧ ((u * t ≤ 2147483647 ∧ v = (t : Int) * (u : Int) ∧ b = true) ∨ (¬ u * t ≤ 2147483647 ∧ v = 0 ∧ b = false)) := by
  unfold SizeIs at h
  rw [told_ok u t ht, decV_digits] at h
  refine ⟨_, _, h, ?_⟩
  by_cases hu : u * t ≤ 2147483647
  · refine .inl ⟨hu, ?_, decide_eq_true hu⟩
    rw [decide_eq_true hu, if_pos rfl, Int.natCast_mul, Int.mul_comm]
  · refine .inr ⟨hu, ?_, decide_eq_false hu⟩
    rw [decide_eq_false hu]
    rfl
theorem sizeB_k (d : List UInt8) : sizeB (d ++ [107]) = (d, 1024) := by simp [sizeB]
theorem sizeB_b (d : List UInt8) : sizeB (d ++ [98]) = (d, 512) := by simp [sizeB]
theorem sizeB_dig (u : Nat) : sizeB (Lib.decDigits u) = (Lib.decDigits u, 1) := by
  have hd := digits_dig u
  unfold sizeB
  have hl : ∀ c, (Lib.decDigits u).getLast? = some c → isDig c = true := fun c hc => by
    unfold allDig at hd
    exact (List.all_eq_true.1 hd) c (List.mem_of_getLast? hc)
  rw [if_neg (fun h => by have := hl _ h; simp [isDig] at this), if_neg (fun h => by have := hl _ h; simp [isDig] at this)]
end Go.Proofs.YtiffmdfchibpaaaDoor
