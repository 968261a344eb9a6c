/-
  toolchestlaw01's digits: its contract; numbers with noughts and a sign ahead: plain.
-/
import Derived.Test.YtghkdfjmahmolaaDoorOptsAlive
import Derived.Laws.Strings2
namespace Go.Proofs.YtghkdfjmahmolaaDoor
open Go.RowKit

theorem str_appD (a b : List UInt8) : str a ++ str b = str (a ++ b) := by
  apply ByteArray.ext
  simp [str]
def digC (n : Nat) : UInt8 := UInt8.ofNat (48 + n)
theorem dig_at (n : Nat) (h : n < 10) : ({ data := #[48, 49, 50, 51, 52, 53, 54, 55, 56, 57] } : ByteArray).extract n (n + 1) = str [digC n] := by
  match n, h with
  | 0, _ => rfl
  | 1, _ => rfl
  | 2, _ => rfl
  | 3, _ => rfl
  | 4, _ => rfl
  | 5, _ => rfl
  | 6, _ => rfl
  | 7, _ => rfl
  | 8, _ => rfl
  | 9, _ => rfl
theorem dig_run (k : IntKind) (n : Nat) (h : n < 10) : ∀ w : World, (Instr.slice 9 (.string { data := #[48, 49, 50, 51, 52, 53, 54, 55, 56, 57] }) (some (.int k (n : Int))) (some (.int k ((n : Int) + 1))) none).run Tryd.prog w = .ok (.string (str [digC n])) w := by
  intro w
  rw [← dig_at n h]
  exact run_slice_string (P := Tryd.prog) w 9 { data := #[48, 49, 50, 51, 52, 53, 54, 55, 56, 57] } k k (n : Int) ((n : Int) + 1) Tryd.underlying9 (by omega) (by omega) (by show (n : Int) + 1 ≤ 10; omega)
theorem digits_rec (u : Nat) (h : 10 ≤ u) : Lib.decDigits u = Lib.decDigits (u / 10) ++ [digC (u % 10)] := by
  unfold digC
  rw [Lib.decDigits, dif_neg (by omega)]
theorem digits_lenD : ∀ (k u : Nat), u < 10 ^ (k + 1) → (Lib.decDigits u).length ≤ k + 1
  | 0, u, h => by rw [Lib.decDigits_one (by omega)]; simp
  | k + 1, u, h => by
    by_cases h10 : u < 10
    · rw [Lib.decDigits_one h10]; simp
    · rw [digits_rec u (by omega), List.length_append]
      have := digits_lenD k (u / 10) (by rw [Nat.pow_succ] at h; omega)
      simp
      omega
def digP (m : Nat) : List UInt8 := if m < 10 then [] else Lib.decDigits (m / 10)
theorem digP_eq (m : Nat) : digP m ++ [digC (m % 10)] = Lib.decDigits m := by
  unfold digP
  split
  · rename_i h
    rw [Lib.decDigits_one h, Nat.mod_eq_of_lt h]
    rfl
  · rename_i h
    rw [digits_rec m (by omega)]
set_option maxRecDepth 100000 in
set_option maxHeartbeats 1000000 in
theorem lawDigits_any (u : Nat) (w : World) (hu : u < 18446744073709551616) :
    Calls Tryd.prog 19 #[.int .u64 (u : Int)] w fun e w' => e = .returned (.string (str (Lib.decDigits u))) ∧ w = w' := by
  have hm := Nat.mod_lt u (show 0 < 10 by omega)
  obtain ⟨b, hb⟩ : ∃ b, b = u % 10 := ⟨_, rfl⟩
  have e7 : (u : Int) % 10 = (b : Int) := by omega
  have e3 : IntKind.u64.wrap ((b : Int) + 1) = (b : Int) + 1 := by rw [IntKind.wrap_u64]; omega
  have hx := dig_run .u64 b (by omega)
  have H0 := Lib.hid (show digP u ++ [digC b] = Lib.decDigits u by rw [hb, digP_eq])
  have hlen : (Lib.decDigits u).length ≤ 20 := digits_lenD 19 _ (by omega)
  have HL := Lib.hid hlen
  clear hb hm hlen
  go_enter Tryd.func19, Tryd.ntmps19
  go_wp2_with fail
  go_loop [0, 3] (fun v s => ∃ m : Nat, ∃ t : List UInt8, m < 18446744073709551616 ∧ v = .int .u64 m ∧ s = .string (str t) ∧ Hid (digP m ++ t = Lib.decDigits u)) (fun v _ => (intOf v).toNat)
  case atStart => exact ⟨u, [digC b], hu, rfl, rfl, H0⟩
  case round =>
    obtain ⟨m, t, hml, rfl, rfl, hd⟩ := hrel
    clear hx e3 e7 H0
    by_cases h10 : m < 10
    · have HT := Lib.hid (show t = Lib.decDigits u by
        have h := hd.out
        unfold digP at h
        rw [if_pos h10, List.nil_append] at h
        exact h)
      have f0 : decide ((10 : Int) ≤ (m : Int)) = false := decide_eq_false (by omega)
      go_wp2_with fail
      go_ret
      exact ⟨by rw [← HT.out]; rfl, rfl⟩
    · have f0 : decide ((10 : Int) ≤ (m : Int)) = true := decide_eq_true (by omega)
      obtain ⟨a, ha⟩ : ∃ a, a = m / 10 := ⟨_, rfl⟩
      obtain ⟨c, hc⟩ : ∃ c, c = a % 10 := ⟨_, rfl⟩
      have hm2 := Nat.mod_lt a (show 0 < 10 by omega)
      have e6 : (m : Int) / 10 = (a : Int) := by omega
      have e8 : (a : Int) % 10 = (c : Int) := by omega
      have e9 : IntKind.u64.wrap ((c : Int) + 1) = (c : Int) + 1 := by rw [IntKind.wrap_u64]; omega
      have hx := dig_run .u64 c (by omega)
      have hlt : a < m := by omega
      have HN := Lib.hid (show digP a ++ ([digC c] ++ t) = Lib.decDigits u by
        have h := hd.out
        unfold digP at h
        rw [if_neg h10] at h
        rw [← List.append_assoc, hc, digP_eq, ha]
        exact h)
      have htl : t.length ≤ 20 := by
        have h := congrArg List.length hd.out
        rw [List.length_append] at h
        have := HL.out
        omega
      have hz1 := str_size t
      have hz2 := str_size [digC c]
      have hz : (str [digC c]).size + (str t).size ≤ 21 := by rw [hz1, hz2]; simp; omega
      clear ha hc hm2 hz1 hz2 htl
      go_wp2_with fail
      go_round
      case rel => exact ⟨a, [digC c] ++ t, by omega, rfl, by rw [← str_appD], HN⟩
      case measure => simp [intOf]; omega
/-! ### Numbers with noughts and a sign ahead -/
theorem dig_bare (d : List UInt8) (h : allDig d = true) : bareV d = d := by
  cases d with
  | nil => rfl
  | cons x r =>
    have hx : isDig x = true := by unfold allDig at h; rw [List.all_cons, Bool.and_eq_true] at h; exact h.1
    obtain ⟨h1, h2⟩ := (isDig_iff x).1 hx
    show (if x = 43 ∨ x = 45 then r else x :: r) = x :: r
    rw [if_neg]
    rintro (e | e)
    · rw [e] at h1; exact absurd h1 (by decide)
    · rw [e] at h1; exact absurd h1 (by decide)
theorem nought_dig (l : List UInt8) : ∀ k, allDig (List.replicate k 48 ++ l) = allDig l
  | 0 => rfl
  | k + 1 => by
    have h := nought_dig l k
    unfold allDig at h ⊢
    rw [List.replicate_succ, List.cons_append, List.all_cons, h]
    simp [isDig]
theorem nought_dec (l : List UInt8) : ∀ k, decV (List.replicate k 48 ++ l) = decV l
  | 0 => rfl
  | k + 1 => by
    have h := nought_dec l k
    unfold decV at h ⊢
    rw [List.replicate_succ, List.cons_append, decF_cons]
    exact h
def signL (r : Nat) : List UInt8 := if r = 0 then [] else if r = 1 then [43] else [45]
theorem sign_bare (r : Nat) (d : List UInt8) (h : allDig d = true) : bareV (signL r ++ d) = d := by
  unfold signL
  split
  · exact dig_bare d h
  · split <;> rfl
theorem sign_numOk (r : Nat) (d : List UInt8) (h : allDig d = true) (h1 : 1 ≤ d.length) : numOk (signL r ++ d) = decide (d.length ≤ 18) := by
  unfold numOk
  rw [sign_bare r d h, h, decide_eq_true h1]
  simp
theorem sign_numV (r : Nat) (d : List UInt8) (h : allDig d = true) : numV (signL r ++ d) = if 2 ≤ r then -(decV d : Int) else (decV d : Int) := by
  unfold numV
  rw [sign_bare r d h]
  match r with
  | 0 =>
    have hh : (signL 0 ++ d).head? ≠ some 45 := by
      show d.head? ≠ some 45
      cases d with
      | nil => simp
      | cons x r =>
        have hx : isDig x = true := by unfold allDig at h; rw [List.all_cons, Bool.and_eq_true] at h; exact h.1
        obtain ⟨h1, _⟩ := (isDig_iff x).1 hx
        intro e
        have e2 : x = 45 := by simpa using e
        rw [e2] at h1
        exact absurd h1 (by decide)
    rw [if_neg hh, if_neg (by omega)]
  | 1 => rw [if_neg (by simp [signL]), if_neg (by omega)]
  | r + 2 => rw [if_pos (by simp [signL]), if_pos (by omega)]
end Go.Proofs.YtghkdfjmahmolaaDoor
