/-
  GlobsMatches: the law's walk.
-/
import Derived.Test.YtafiadlkfjacnaaGlobRefMatch
import Derived.Test.YtafiadlkfjacnaaGlobAlive
namespace Go.Proofs.Ytafiadlkfjacnaa
open Go.RowKit

theorem okP_long (l : List UInt8) (h : 4096 < l.length) : okP l = false := by
  unfold okP
  rw [decide_eq_false (by omega)]
  rfl

set_option maxHeartbeats 2000000 in
set_option maxRecDepth 100000 in
theorem globsMatches_walk (a b : ByteArray) (w : World) (ha : a.size ≤ 140737488351232) (hb : b.size ≤ 140737488351232) :
    Calls Try.prog 4 #[.string a, .string b] w fun e w' => e = .returned (.bool true) ∧ Below w.heap.size w w' := by
  obtain ⟨l, rfl⟩ : ∃ l, a = str l := ⟨_, str_of a⟩
  obtain ⟨o, rfl⟩ : ∃ l, b = str l := ⟨_, str_of b⟩
  have hsl := str_size l
  have hso := str_size o
  rw [hsl] at ha
  rw [hso] at hb
  by_cases h1 : 5000 < l.length
  · have hx : (str l).extract 0 4097 = str (l.take 4097) := str_upto l 4097
    have HL := Lib.hid (okP_long (l.take 4097) (by rw [List.length_take]; omega))
    have hlt : (l.take 4097).length ≤ 2097152 := by rw [List.length_take]; omega
    go_enter Try.func4, Try.ntmps4
    go_wp2_with fail
    refine (check_any (l.take 4097) w hlt).mono ?_
    rintro e w1 ⟨rfl, hB1⟩
    rw [HL.out]
    go_wp2_with fail
    go_ret
    exact ⟨rfl, hB1⟩
  · by_cases h2 : 5000 < o.length
    · go_enter Try.func4, Try.ntmps4
      go_wp2_with fail
      go_ret
      exact ⟨rfl, Below.refl _ _⟩
    · obtain ⟨m, hm⟩ : ∃ m, m = l.length * o.length := ⟨_, rfl⟩
      have hm2 : m ≤ 25000000 := by rw [hm]; exact Nat.mul_le_mul (show l.length ≤ 5000 by omega) (show o.length ≤ 5000 by omega)
      have hmI : (l.length : Int) * (o.length : Int) = (m : Int) := by rw [hm]; exact (Int.natCast_mul _ _).symm
      clear hm
      by_cases h3 : 1000000 < m
      · go_enter Try.func4, Try.ntmps4
        go_wp2_with fail
        go_ret
        exact ⟨rfl, Below.refl _ _⟩
      · go_enter Try.func4, Try.ntmps4
        go_wp2_with fail
        refine (check_any l w (by omega)).mono ?_
        rintro e w1 ⟨rfl, hB1⟩
        go_wp2_with fail
        refine (rcheck_any l w1 (by omega)).mono ?_
        rintro e w2 ⟨rfl, hB2⟩
        have h12 := below_then hB1 hB1.size hB2
        go_wp2_with fail
        refine (match_any l o w2 (by omega) (by omega)).mono ?_
        rintro e w3 ⟨rfl, hB3⟩
        have h13 := below_then h12 h12.size hB3
        go_wp2_with fail
        refine (rmatch_any l o w3 (by omega) (by omega)).mono ?_
        rintro e w4 ⟨rfl, hB4⟩
        go_wp2_with fail
        go_ret
        exact ⟨ret_bool (by simp), below_then h13 h13.size hB4⟩
end Go.Proofs.Ytafiadlkfjacnaa
