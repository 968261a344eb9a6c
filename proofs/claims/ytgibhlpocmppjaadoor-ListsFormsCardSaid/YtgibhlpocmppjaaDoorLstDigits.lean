/-
  The two digits functions: their contracts.
-/
import Derived.Test.YtgibhlpocmppjaaDoorLstText
import Derived.Laws.Strings2
namespace Go.Proofs.YtgibhlpocmppjaaDoor
open Go.RowKit

theorem quiet_drewn {P : Program} {f : FuncId} {args : Array Value} {w : World} {n : Nat} {v : Value}
    (h : Calls P f args (w.drewN n) fun e w' => e = .returned v ∧ ∃ m, w' = (w.drewN n).drewN m) : Calls P f args (w.drewN n) fun e w'' => e = .returned v ∧ ∃ m, w'' = w.drewN m :=
  h.mono fun _ _ ⟨he, m, hm⟩ => ⟨he, n + m, by rw [hm, World.drewN_drewN]⟩
def digC (n : Nat) : UInt8 := UInt8.ofNat (48 + n)
theorem dig_at (n : Nat) (h : n < 10) : ({ data := #[48, 49, 50, 51, 52, 53, 54, 55, 56, 57] } : ByteArray).extract n (n + 1) = str [digC n] := by
  match n, h with
  | 0, _ => rfl
  | 1, _ => rfl
  | 2, _ => rfl
  | 3, _ => rfl
  | 4, _ => rfl
  | 5, _ => rfl
  | 6, _ => rfl
  | 7, _ => rfl
  | 8, _ => rfl
  | 9, _ => rfl
theorem dig_run (k : IntKind) (n : Nat) (h : n < 10) : ∀ w : World, (Instr.slice 9 (.string { data := #[48, 49, 50, 51, 52, 53, 54, 55, 56, 57] }) (some (.int k (n : Int))) (some (.int k ((n : Int) + 1))) none).run Tryd.prog w = .ok (.string (str [digC n])) w := by
  intro w
  rw [← dig_at n h]
  exact run_slice_string (P := Tryd.prog) w 9 { data := #[48, 49, 50, 51, 52, 53, 54, 55, 56, 57] } k k (n : Int) ((n : Int) + 1) Tryd.underlying9 (by omega) (by omega) (by show (n : Int) + 1 ≤ 10; omega)
theorem digits_rec (u : Nat) (h : 10 ≤ u) : Lib.decDigits u = Lib.decDigits (u / 10) ++ [digC (u % 10)] := by
  unfold digC
  rw [Lib.decDigits, dif_neg (by omega)]

set_option maxRecDepth 100000 in
set_option maxHeartbeats 1000000 in
theorem refDigits_any : ∀ (k u : Nat) (w : World), u ≤ k → u ≤ 4294967296 →
    Calls Tryd.prog 22 #[.int .i64 (u : Int)] w fun e w' => e = .returned (.string (str (Lib.decDigits u))) ∧ ∃ m, w' = w.drewN m := by
  intro k
  induction k with
  | zero =>
    intro u w h hu
    obtain rfl : u = 0 := by omega
    have H := Lib.hid (Lib.decDigits_one (show 0 < 10 by omega))
    go_enter Tryd.func22, Tryd.ntmps22
    go_wp2_with fail
    go_ret
    exact ⟨by rw [H.out]; rfl, 0, rfl⟩
  | succ k ih =>
    intro u w h hu
    by_cases h10 : u < 10
    · have H := Lib.hid (show Lib.decDigits u = [digC u] from Lib.decDigits_one h10)
      have hx := dig_run .i64 u h10
      go_enter Tryd.func22, Tryd.ntmps22
      go_wp2_with fail
      go_ret
      refine ⟨?_, 0, rfl⟩
      rw [H.out]; rfl
    · have H := Lib.hid (digits_rec u (by omega))
      obtain ⟨a, ha⟩ : ∃ a, a = u / 10 := ⟨_, rfl⟩
      obtain ⟨b, hb⟩ : ∃ b, b = u % 10 := ⟨_, rfl⟩
      rw [← ha, ← hb] at H
      have IH := Lib.hid (fun w => ih a w (by omega) (by omega))
      have hx := dig_run .i64 b (by omega)
      clear ih
      have e6 : (u : Int) / 10 = (a : Int) := by omega
      have e7 : (u : Int) % 10 = (b : Int) := by omega
      have e4 : IntKind.i64.wrap (a : Int) = (a : Int) := by rw [IntKind.wrap_i64]; omega
      have e5 : IntKind.i64.wrap (b : Int) = (b : Int) := by rw [IntKind.wrap_i64]; omega
      have e3 : IntKind.i64.wrap ((b : Int) + 1) = (b : Int) + 1 := by rw [IntKind.wrap_i64]; omega
      have hx1 : ∀ w : World, (Instr.slice 9 (.string { data := #[48, 49, 50, 51, 52, 53, 54, 55, 56, 57] }) (some (.int .i64 (IntKind.i64.wrap ((b : Int))))) (some (.int .i64 (IntKind.i64.wrap (IntKind.i64.wrap ((b : Int)) + 1)))) none).run Tryd.prog w = .ok (.string (str [digC b])) w := fun w => by rw [e5, e3]; exact hx w
      have hz : (Lib.decDigits a).length ≤ 11 := digits_len 10 _ (by omega)
      have hz2 := str_size (Lib.decDigits a)
      have hz3 := str_size [digC b]
      obtain ⟨da, hda⟩ : ∃ da, da = str (Lib.decDigits a) := ⟨_, rfl⟩
      obtain ⟨db, hdb⟩ : ∃ db, db = str [digC b] := ⟨_, rfl⟩
      rw [← hda] at hz2
      rw [← hdb] at hz3 hx hx1
      have hz4 : da.size + db.size ≤ 12 := by rw [hz2, hz3]; simp; omega
      have HH := Lib.hid (show str (Lib.decDigits u) = da ++ db by rw [H.out, hda, hdb, str_append])
      rw [← hda] at IH
      clear ha hb hz hz2 hz3 hda hdb H h hu
      go_enter Tryd.func22, Tryd.ntmps22
      go_upto_region 3 with fail
      go_quiet ((go_at_call 22; exact quiet_drewn (IH.out _)))
      go_wp2_with fail
      go_ret
      exact ⟨by rw [HH.out]; rfl, nq, rfl⟩
def digP (m : Nat) : List UInt8 := if m < 10 then [] else Lib.decDigits (m / 10)
theorem digP_eq (m : Nat) : digP m ++ [digC (m % 10)] = Lib.decDigits m := by
  unfold digP
  split
  · rename_i h
    rw [Lib.decDigits_one h, Nat.mod_eq_of_lt h]
    rfl
  · rename_i h
    rw [digits_rec m (by omega)]
set_option maxRecDepth 100000 in
set_option maxHeartbeats 1000000 in
theorem lawDigits_any (u : Nat) (w : World) (hu : u < 4294967296) :
    Calls Tryd.prog 18 #[.int .u32 (u : Int)] w fun e w' => e = .returned (.string (str (Lib.decDigits u))) ∧ w = w' := by
  have hm := Nat.mod_lt u (show 0 < 10 by omega)
  obtain ⟨b, hb⟩ : ∃ b, b = u % 10 := ⟨_, rfl⟩
  have e7 : (u : Int) % 10 = (b : Int) := by omega
  have e3 : IntKind.u32.wrap ((b : Int) + 1) = (b : Int) + 1 := by rw [IntKind.wrap_u32]; omega
  have hx := dig_run .u32 b (by omega)
  have H0 := Lib.hid (show digP u ++ [digC b] = Lib.decDigits u by rw [hb, digP_eq])
  have hlen : (Lib.decDigits u).length ≤ 11 := digits_len 10 _ (by omega)
  have HL := Lib.hid hlen
  clear hb hm hlen
  go_enter Tryd.func18, Tryd.ntmps18
  go_wp2_with fail
  go_loop [0, 3] (fun v s => ∃ m : Nat, ∃ t : List UInt8, m < 4294967296 ∧ v = .int .u32 m ∧ s = .string (str t) ∧ Hid (digP m ++ t = Lib.decDigits u)) (fun v _ => (intOf v).toNat)
  case atStart => exact ⟨u, [digC b], hu, rfl, rfl, H0⟩
  case round =>
    obtain ⟨m, t, hml, rfl, rfl, hd⟩ := hrel
    clear hx e3 e7 H0
    by_cases h10 : m < 10
    · have HT := Lib.hid (show t = Lib.decDigits u by
        have h := hd.out
        unfold digP at h
        rw [if_pos h10, List.nil_append] at h
        exact h)
      go_wp2_with fail
      go_ret
      exact ⟨by rw [← HT.out]; rfl, rfl⟩
    · obtain ⟨a, ha⟩ : ∃ a, a = m / 10 := ⟨_, rfl⟩
      obtain ⟨c, hc⟩ : ∃ c, c = a % 10 := ⟨_, rfl⟩
      have hm2 := Nat.mod_lt a (show 0 < 10 by omega)
      have e6 : (m : Int) / 10 = (a : Int) := by omega
      have e8 : (a : Int) % 10 = (c : Int) := by omega
      have e9 : IntKind.u32.wrap ((c : Int) + 1) = (c : Int) + 1 := by rw [IntKind.wrap_u32]; omega
      have hx := dig_run .u32 c (by omega)
      have hlt : a < m := by omega
      have HN := Lib.hid (show digP a ++ ([digC c] ++ t) = Lib.decDigits u by
        have h := hd.out
        unfold digP at h
        rw [if_neg h10] at h
        rw [← List.append_assoc, hc, digP_eq, ha]
        exact h)
      have htl : t.length ≤ 11 := by
        have h := congrArg List.length hd.out
        rw [List.length_append] at h
        have := HL.out
        omega
      have hz1 := str_size t
      have hz2 := str_size [digC c]
      have hz : (str [digC c]).size + (str t).size ≤ 12 := by rw [hz1, hz2]; simp; omega
      clear ha hc hm2 hz1 hz2 htl
      go_wp2_with fail
      go_round
      case rel => exact ⟨a, [digC c] ++ t, by omega, rfl, by rw [← str_append], HN⟩
      case measure => simp [intOf]; omega
end Go.Proofs.YtgibhlpocmppjaaDoor
