/-
  toolchestlaw01's Beyond: its contract: of lengths (none below 0, each at most 2^50, at most 64 of them): whether their sum passes 1048576.
-/
import Derived.Test.YtnpaddakkniliaaDoorBase
import Derived.Test.YtnpaddakkniliaaDoorChecked
namespace Go.Proofs.YtnpaddakkniliaaDoor
open Go.RowKit

def iv (l : List Nat) : List Value := l.map fun (n : Nat) => Value.int .i64 (n : Int)
def bydB (ns : List Nat) : Bool := decide (1048576 < ns.sum)
theorem bydB_true {ns : List Nat} {k : Nat} (hk : k < ns.length) (h : 1048576 < (ns.take k).sum + ns[k]) : bydB ns = true := by
  have e : ns.sum = (ns.take k).sum + (ns.drop k).sum := by rw [← List.sum_append, List.take_append_drop]
  have e2 : (ns.drop k).sum = ns[k] + (ns.drop (k + 1)).sum := by rw [List.drop_eq_getElem_cons hk, List.sum_cons]
  unfold bydB
  simp only [decide_eq_true_eq]
  omega
theorem take_sum_succ {ns : List Nat} {k : Nat} (hk : k < ns.length) : (ns.take (k + 1)).sum = (ns.take k).sum + ns[k] := by
  rw [List.take_succ_eq_append_getElem hk, List.sum_append]; simp

set_option maxHeartbeats 400000 in
theorem beyond_any (A : Option Addr) (n c B : Nat) (ns : List Nat) (w : World) (hr : Reads w B 1 A n (iv ns)) (hbd : ∀ k (h : k < ns.length), ns[k] ≤ 1125899906842624) (hn : n ≤ 64) :
    Calls Tryd.prog 18 #[.slice A n c] w fun e w' => e = .returned (.bool (bydB ns)) ∧ w = w' := by
  have hl : ns.length = n := by have := hr.1; simp [iv] at this; omega
  have HL := Lib.hid hl
  clear hl
  go_enter Tryd.func18, Tryd.ntmps18
  go_wp2
  go_loop [3, 4] (fun s i => ∃ k : Nat, k ≤ n ∧ i = .int .i64 k ∧ s = .int .i64 ((ns.take k).sum : Nat) ∧ (ns.take k).sum ≤ 1048576) (fun _ i => n - (intOf i).toNat)
  case atStart => exact ⟨0, Nat.zero_le _, rfl, rfl, by simp⟩
  case round =>
    obtain ⟨k, hk, rfl, rfl, hs⟩ := hrel
    by_cases hlt : k < n
    · obtain ⟨ad, u, rfl, had, hu, hcell⟩ := hr.at_ hlt
      have hkl : k < ns.length := by rw [HL.out]; exact hlt
      have hu2 : (iv ns)[k]? = some (.int .i64 ((ns[k] : Nat) : Int)) := by simp [iv, List.getElem?_map, List.getElem?_eq_getElem hkl]
      rw [hu2] at hu
      injection hu with hu
      subst hu
      have hx := hbd k hkl
      have hsum := Lib.hid (take_sum_succ hkl)
      have hyes := Lib.hid (fun h => bydB_true hkl h)
      obtain ⟨x, hxe⟩ : ∃ x, x = ns[k] := ⟨_, rfl⟩
      rw [← hxe] at hcell hx hsum hyes
      clear hr hu2 hxe hbd
      obtain ⟨s, hse⟩ : ∃ s, s = (ns.take k).sum := ⟨_, rfl⟩
      rw [← hse] at hs hsum hyes ⊢
      clear hse
      go_wp2
      · go_ret
        exact ⟨ret_bool (hyes.out (by omega)).symm, rfl⟩
      · go_round
        case rel => exact ⟨k + 1, by omega, by go_num, by rw [hsum.out]; go_num, by rw [hsum.out]; omega⟩
        case measure => simp [intOf]; omega
    · have hkn : k = n := by omega
      subst hkn
      go_wp2
      go_ret
      rw [List.take_of_length_le (by rw [HL.out]; exact Nat.le_refl _)] at hs
      exact ⟨ret_bool (by unfold bydB; rw [decide_eq_false (by omega)]), rfl⟩
/-- The one-number form of Beyond. -/
theorem beyond_one (z : Nat) (c : Nat) (w : World) (hz : z ≤ 1125899906842624) :
    Calls Tryd.prog 18 #[.slice (some ⟨w.heap.size, 0, none⟩) 1 c] (w.alloc (.cells #[.int .i64 (z : Int)] 3)) fun e w' => e = .returned (.bool (decide (1048576 < z))) ∧ w.alloc (.cells #[.int .i64 (z : Int)] 3) = w' := by
  obtain ⟨w0, hw0⟩ : ∃ w0, w0 = w.alloc (.cells #[.int .i64 (z : Int)] 3) := ⟨_, rfl⟩
  have hbuf : Buf w0 w.heap.size 1 (fun j => (iv [z]).getD j undef) := by
    rw [hw0]
    refine Buf.new w _ _ _ 1 (by simp) fun i hi => ?_
    match i, hi with
    | 0, _ => rfl
  have hrd : Reads w0 w0.heap.size 1 (some ⟨w.heap.size, 0, none⟩) 1 (iv [z]) := hbuf.reads rfl (Nat.le_refl _) (fun j hj => by
    match j, hj with
    | 0, _ => rfl) hbuf.lt
  have h := beyond_any (some ⟨w.heap.size, 0, none⟩) 1 c w0.heap.size [z] w0 hrd (by
    intro k h
    match k, h with
    | 0, _ => show z ≤ _; omega) (by omega)
  rw [hw0] at h
  exact h
end Go.Proofs.YtnpaddakkniliaaDoor
