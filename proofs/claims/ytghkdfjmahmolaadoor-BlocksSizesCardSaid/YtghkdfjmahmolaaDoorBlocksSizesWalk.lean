/-
  BlocksSizes: the law's walk.
-/
import Derived.Test.YtghkdfjmahmolaaDoorRefSize
import Derived.Test.YtghkdfjmahmolaaDoorBeyond
namespace Go.Proofs.YtghkdfjmahmolaaDoor
open Go.RowKit

set_option maxRecDepth 100000 in
set_option maxHeartbeats 1000000 in
theorem blocksSizes_walk (s : ByteArray) (w : World) (hz : s.size ≤ 140737488351232) :
    Calls Tryd.prog 10 #[.string s] w fun e w' => e = .returned (.bool true) ∧ Below w.heap.size w w' := by
  obtain ⟨L, rfl⟩ : ∃ L, s = str L := ⟨_, str_of s⟩
  have hs0 := str_size L
  obtain ⟨n, hn⟩ : ∃ n, n = L.length := ⟨_, rfl⟩
  rw [← hn] at hs0
  have HN := Lib.hid hn
  rw [hs0] at hz
  clear hn
  go_enter Tryd.func10, Tryd.ntmps10
  have hB0 : Below w.heap.size w (w.alloc (.cells #[.int .i64 (n : Int)] 3)) := (Below.refl _ _).alloc (Nat.le_refl _) _
  have hs1 := hB0.size
  by_cases hbd : 1048576 < n
  · have hby := fun c => beyond_one n c w (by omega)
    rw [decide_eq_true hbd] at hby
    go_wp2_with fail
    refine (hby _).mono ?_
    rintro e w2 ⟨rfl, hw2⟩
    rw [hw2] at hB0
    clear hby hw2
    go_wp2_with fail
    go_ret
    exact ⟨rfl, hB0⟩
  · have hby := fun c => beyond_one n c w (by omega)
    rw [decide_eq_false hbd] at hby
    go_wp2_with fail
    refine (hby _).mono ?_
    rintro e w2 ⟨rfl, hw2⟩
    rw [hw2] at hB0 hs1
    clear hby hw2
    go_wp2_with fail
    refine (size_any L w2 (by rw [← HN.out]; omega)).mono ?_
    rintro e w3 ⟨he, hB3⟩
    unfold SizeIs at he
    subst he
    have h3 := below_then hB0 hs1 hB3
    have hs3 := h3.size
    obtain ⟨v, hv⟩ : ∃ v, v = (if sizeOk (sizeB L).1 (sizeB L).2 = true then (decV (sizeB L).1 * (sizeB L).2 : Nat) else (0 : Nat) : Nat) := ⟨_, rfl⟩
    obtain ⟨b, hb⟩ : ∃ b, b = sizeOk (sizeB L).1 (sizeB L).2 := ⟨_, rfl⟩
    have HV := Lib.hid hv
    have HB := Lib.hid hb
    rw [← hv, ← hb]
    clear hv hb
    go_wp2_with fail
    refine (rsize_any L w3 (by rw [← HN.out]; omega)).mono ?_
    rintro e w4 ⟨he, hB4⟩
    unfold SizeIs at he
    subst he
    rw [← HV.out, ← HB.out]
    have h4 := below_then h3 hs3 hB4
    go_wp2_with fail
    go_ret
    refine ⟨?_, h4⟩
    simp
end Go.Proofs.YtghkdfjmahmolaaDoor
