/-
  GlobsQuotes: the law's walk.
-/
import Derived.Test.YtafiadlkfjacnaaQuote
import Derived.Test.YtafiadlkfjacnaaBeyond
namespace Go.Proofs.Ytafiadlkfjacnaa
open Go.RowKit

/-- The one-number form of Beyond. -/
theorem beyond_one (z : Nat) (c : Nat) (w : World) (hz : z ≤ 1125899906842624) :
    Calls Try.prog 11 #[.slice (some ⟨w.heap.size, 0, none⟩) 1 c] (w.alloc (.cells #[.int .i64 (z : Int)] 3)) fun e w' => e = .returned (.bool (decide (1048576 < z))) ∧ w.alloc (.cells #[.int .i64 (z : Int)] 3) = w' := by
  obtain ⟨w0, hw0⟩ : ∃ w0, w0 = w.alloc (.cells #[.int .i64 (z : Int)] 3) := ⟨_, rfl⟩
  have hbuf : Buf w0 w.heap.size 1 (fun j => (iv [z]).getD j undef) := by
    rw [hw0]
    refine Buf.new w _ _ _ 1 (by simp) fun i hi => ?_
    match i, hi with
    | 0, _ => rfl
  have hrd : Reads w0 w0.heap.size 1 (some ⟨w.heap.size, 0, none⟩) 1 (iv [z]) := hbuf.reads rfl (Nat.le_refl _) (fun j hj => by
    match j, hj with
    | 0, _ => rfl) hbuf.lt
  have h := beyond_any (some ⟨w.heap.size, 0, none⟩) 1 c w0.heap.size [z] w0 hrd (by
    intro k h
    match k, h with
    | 0, _ => show z ≤ _; omega) (by omega)
  rw [hw0] at h
  exact h

set_option maxHeartbeats 1000000 in
theorem globsQuotes_walk (s : ByteArray) (w : World) (hs : s.size ≤ 140737488351232) :
    Calls Try.prog 3 #[.string s] w fun e w' => e = .returned (.bool true) ∧ Below w.heap.size w w' := by
  go_enter Try.func3, Try.ntmps3
  go_wp2_with fail
  refine (beyond_one s.size _ w (by omega)).mono ?_
  rintro e w0 ⟨rfl, hw0⟩
  have hB0 : Below w.heap.size w w0 := by rw [← hw0]; exact (Below.refl _ _).alloc (Nat.le_refl _) _
  clear hw0
  by_cases hb : 1048576 < s.size
  · rw [decide_eq_true hb]
    go_wp2_with fail
    go_ret
    exact ⟨rfl, hB0⟩
  · rw [decide_eq_false hb]
    go_wp2_with fail
    refine (quote_any s w0 (by omega)).mono ?_
    rintro e w1 ⟨rfl, hB1⟩
    go_wp2_with fail
    refine (refQuote_any s w1 (by omega)).mono ?_
    rintro e w2 ⟨rfl, hB2⟩
    go_wp2_with fail
    go_ret
    exact ⟨rfl, below_then hB0 hB0.size (below_then hB1 hB1.size hB2)⟩
end Go.Proofs.Ytafiadlkfjacnaa
