/-
  toolchestlaw16.lives: its contract: true.
-/
import Derived.Test.YtejneiakpeeamaaGet
import Derived.Test.YtejneiakpeeamaaSum
import Derived.Lib.SlBytesConst
namespace Go.Proofs.Ytejneiakpeeamaa
open Go.RowKit

theorem Reads.take {w : World} {B n m : Nat} {A : Option Addr} {L : List UInt8} (h : Reads w B 1 A n (bv L)) (hm : m ≤ n) : Reads w B 1 A m (bv (L.take m)) := by
  have hl : L.length = n := by have := h.1; simp [bv] at this; exact this
  refine ⟨by rw [bv_length, List.length_take]; omega, fun h0 => ?_⟩
  obtain ⟨ad, e, hlt, hc⟩ := h.2 (by omega)
  refine ⟨ad, e, hlt, fun j u hu => hc j u ?_⟩
  have hj : j < m := by have := (List.getElem?_eq_some_iff.1 hu).1; rw [bv_length, List.length_take] at this; omega
  simp only [bv, List.getElem?_map, List.getElem?_take, if_pos hj] at hu ⊢
  exact hu
theorem GotV.bad_ {β : Nat} {L : List UInt8} {w : World} {v : Value} (h : GotV β L w v) (hb : (rCall L ⟨0, false⟩).2.bad = true) : v = .tuple #[.agg callZero, .int .i64 0, .int .i64 5] := by
  rcases h with ⟨_, h⟩ | ⟨h, _⟩
  · exact h
  · rw [hb] at h; cases h
def liveX : CallV := ⟨12, ByteArray.empty, ByteArray.empty, 0, 0, 0, 5, none, 0, 0, 0, 0, 0, 0⟩
def liveT : CallT := (12, [], [], 0, 0, 0, 5, [], 0, 0, 0, 0)
theorem live_bad : callBad liveX = false := rfl
theorem live_enc : encCall liveX [] = encCT liveT := rfl
theorem live_len : (encCT liveT).length = 77 := by decide +kernel
theorem live_head : (encCT liveT)[0]? = some 12 := by decide +kernel
theorem live_ok : okCT liveT := by unfold okCT liveT isI64; decide
theorem live_nil : (rCall [] ⟨0, false⟩).2.bad = true := by decide +kernel
theorem live_sum : crc [49, 50, 51, 52, 53, 54, 55, 56, 57] = 3421780262 := by decide +kernel
theorem live_sum0 : crc [] = 0 := by decide +kernel

set_option maxHeartbeats 1000000 in
set_option maxRecDepth 100000 in
theorem lives_any (w : World) : Calls Try.prog 8 #[] w fun e w' => e = .returned (.bool true) ∧ Below w.heap.size w w' := by
  go_enter Try.func8, Try.ntmps8
  go_wp2_with fail
  refine (put_any liveX [] w Reads.none_ (by decide) (by decide) (by decide)).mono ?_
  rintro e w1 ⟨⟨v, rfl, hv⟩, hB1⟩
  rw [live_bad, live_enc] at hv
  rcases hv with ⟨h, _⟩ | ⟨_, A, c, rfl, hown⟩
  · cases h
  rw [live_len] at hown ⊢
  obtain ⟨g, cap, hsl⟩ := own_form hown (by decide)
  injection hsl with hA _ _
  subst hA
  have hrd := Reads.of_own hown
  go_wp2_with fail
  refine (get_any none 0 0 [] w1 Reads.none_ (by omega) (by omega) (by omega)).mono ?_
  rintro e w2 ⟨⟨v, rfl, hv⟩, hB2⟩
  obtain rfl := hv.bad_ live_nil
  simp only [callZero]
  have hrd2 := (hrd.below hB2).more hB2.size
  clear hown hrd hv
  go_wp2_with fail
  obtain ⟨w3, hw3⟩ : ∃ w3, w3 = w2.alloc (.cells #[.int .u8 0, .string ByteArray.empty, .string ByteArray.empty, .int .i64 0, .int .i64 0, .int .i64 0, .int .i64 0, .slice none 0 0, .int .i64 0, .int .i64 0, .int .i64 0, .int .i64 0] 33) := ⟨_, rfl⟩
  rw [← hw3]
  have hB3 : Below w2.heap.size w2 w3 := by rw [hw3]; exact (Below.refl _ _).alloc (Nat.le_refl _) _
  have hrd3 := (hrd2.below hB3).more hB3.size
  clear hw3 hrd2
  refine (get_any (some ⟨g, 0, none⟩) 76 77 ((encCT liveT).take 76) w3 (hrd3.take (by decide)) (by omega) (by omega) (by omega)).mono ?_
  rintro e w4 ⟨⟨v, rfl, hv⟩, hB4⟩
  obtain rfl := hv.bad_ (call_short liveT live_ok 76 (by rw [live_len]; decide))
  simp only [callZero]
  have hrd4 := (hrd3.below hB4).more hB4.size
  clear hrd3 hv
  have hcell : w4.cell? ⟨g, 0, none⟩ = some (.int .u8 12) := by
    obtain ⟨ad, e, _, hc⟩ := hrd4.2 (by decide)
    injection e with e
    subst e
    have := hc 0 (.int .u8 12) (by rw [bv, List.getElem?_map, live_head]; rfl)
    simpa [Addr.add] using this
  obtain ⟨w5, hw5⟩ : ∃ w5, w5 = w4.alloc (.cells #[.int .u8 0, .string ByteArray.empty, .string ByteArray.empty, .int .i64 0, .int .i64 0, .int .i64 0, .int .i64 0, .slice none 0 0, .int .i64 0, .int .i64 0, .int .i64 0, .int .i64 0] 33) := ⟨_, rfl⟩
  have hB5 : Below w4.heap.size w4 w5 := by rw [hw5]; exact (Below.refl _ _).alloc (Nat.le_refl _) _
  have hBB := below_then hB1 hB1.size (below_then hB2 hB2.size (below_then hB3 hB3.size (below_then hB4 hB4.size hB5)))
  have hcell5 : w5.cell? ⟨g, 0, none⟩ = some (.int .u8 12) := by
    rw [hw5, World.cell?_alloc_lt w4 _ _ (block_lt_of_cell hcell)]; exact hcell
  rw [hw5] at hcell5
  clear hcell
  have HBB := Lib.hid hBB
  have kc : ∀ (n c : Nat) (C : Array Value), (convert 22 22 (.slice (some ⟨w4.heap.size + 1, 0, none⟩) n c)).run Try.prog ((w4.alloc (.cells #[.int .u8 0, .string ByteArray.empty, .string ByteArray.empty, .int .i64 0, .int .i64 0, .int .i64 0, .int .i64 0, .slice none 0 0, .int .i64 0, .int .i64 0, .int .i64 0, .int .i64 0] 33)).alloc (.cells C 5)) = .ok (.slice (some ⟨w4.heap.size + 1, 0, none⟩) n c) ((w4.alloc (.cells #[.int .u8 0, .string ByteArray.empty, .string ByteArray.empty, .int .i64 0, .int .i64 0, .int .i64 0, .int .i64 0, .slice none 0 0, .int .i64 0, .int .i64 0, .int .i64 0, .int .i64 0] 33)).alloc (.cells C 5 (C.size, C.size + 1))) := fun n c C => by
    have h := Lib.run_convert_bytes_const (P := Try.prog) (w4.alloc (.cells #[.int .u8 0, .string ByteArray.empty, .string ByteArray.empty, .int .i64 0, .int .i64 0, .int .i64 0, .int .i64 0, .slice none 0 0, .int .i64 0, .int .i64 0, .int .i64 0, .int .i64 0] 33)) 22 5 C n c Try.underlying22 Try.underlying5
    rw [show (w4.alloc (.cells #[.int .u8 0, .string ByteArray.empty, .string ByteArray.empty, .int .i64 0, .int .i64 0, .int .i64 0, .int .i64 0, .slice none 0 0, .int .i64 0, .int .i64 0, .int .i64 0, .int .i64 0] 33)).heap.size = w4.heap.size + 1 from by simp] at h
    exact h
  have HW5 := Lib.hid hw5
  clear hrd4 hBB hw5 hB1 hB2 hB3 hB4 hB5
  go_wp2_with fail
  have hsr : ∀ c : Nat, Calls Try.prog 10 #[.slice (some ⟨w4.heap.size + 1, 0, none⟩) 9 c] _ _ := fun c => sum_any (some ⟨w4.heap.size + 1, 0, none⟩) 9 c _ [49, 50, 51, 52, 53, 54, 55, 56, 57] (w5.alloc (.cells #[.int .u8 49, .int .u8 50, .int .u8 51, .int .u8 52, .int .u8 53, .int .u8 54, .int .u8 55, .int .u8 56, .int .u8 57] 5 (9, 10)))
    ⟨rfl, fun _ => ⟨_, rfl, Nat.lt_succ_self _, fun j u hu => by
      rw [Addr.add_lit, Nat.zero_add, World.cell?, HW5.out, show w4.heap.size + 1 = (w4.alloc (.cells #[.int .u8 0, .string ByteArray.empty, .string ByteArray.empty, .int .i64 0, .int .i64 0, .int .i64 0, .int .i64 0, .slice none 0 0, .int .i64 0, .int .i64 0, .int .i64 0, .int .i64 0] 33)).heap.size from by simp, heap_alloc_new]
      simpa [bv] using hu⟩⟩ (by decide)
  rw [HW5.out] at hsr
  refine (hsr _).mono ?_
  rintro e w6 ⟨rfl, rfl⟩
  rw [live_sum]
  clear hsr
  go_wp2_with fail
  refine (sum_any none 0 0 0 [] _ Reads.none_ (by decide)).mono ?_
  rintro e w6 ⟨rfl, rfl⟩
  rw [live_sum0]
  go_wp2_with fail
  go_ret
  refine ⟨rfl, ?_⟩
  have := HBB.out
  rw [HW5.out] at this
  exact below_then this this.size ((Below.refl _ _).alloc (Nat.le_refl _) _)
end Go.Proofs.Ytejneiakpeeamaa
