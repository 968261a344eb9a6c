/-
  GlobsLong: the law's walk.
-/
import Derived.Test.YtafiadlkfjacnaaGlobAlive
import Derived.Test.YtafiadlkfjacnaaGlobsStarsWalk
namespace Go.Proofs.Ytafiadlkfjacnaa
open Go.RowKit

/-- The marks with the star among them, of k rounds. -/
def marksQ (m k : Nat) : List UInt8 := if m < k then List.replicate m 63 ++ 42 :: List.replicate (k - m) 63 else List.replicate k 63
theorem marksQ_at (m : Nat) : marksQ m m ++ [42] ++ [63] = marksQ m (m + 1) := by
  unfold marksQ
  rw [if_neg (by omega), if_pos (by omega), show m + 1 - m = 1 from by omega]
  simp
theorem marksQ_next (m k : Nat) (h : k ≠ m) : marksQ m k ++ [63] = marksQ m (k + 1) := by
  unfold marksQ
  by_cases h1 : m < k
  · rw [if_pos h1, if_pos (by omega), show k + 1 - m = k - m + 1 from by omega, List.replicate_succ']
    simp
  · rw [if_neg h1, if_neg (by omega), List.replicate_succ']
theorem marksQ_len (m k : Nat) : (marksQ m k).length ≤ k + 1 := by
  unfold marksQ
  split <;> simp <;> omega
theorem matchP_marks (n : Nat) (s : List UInt8) (h : n ≤ 256) : matchP (List.replicate n 63) s = decide (s.length = n) := by
  rw [matchP_of _ _ _ (by rw [List.length_replicate]; omega) (parse_marks n), gm_marks]
theorem matchP_star (m n : Nat) (s : List UInt8) (h : n ≤ 256) (hm : m < n) : matchP (marksQ m n) s = decide (n ≤ s.length) := by
  have hl := marksQ_len m n
  unfold marksQ at hl ⊢
  rw [if_pos hm] at hl ⊢
  rw [matchP_of _ _ _ (by omega) (parse_marks_star m (n - m)), gm_marks_star, show m + (n - m) = n from by omega]
theorem matchP_star_end (m n : Nat) (s : List UInt8) (h : n ≤ 256) (hm : ¬ m < n) : matchP (marksQ m n ++ [42]) s = decide (n ≤ s.length) := by
  have hl := marksQ_len m n
  unfold marksQ at hl ⊢
  rw [if_neg hm] at hl ⊢
  have hp := parse_marks_star n 0
  have hg := gm_marks_star n 0 s
  rw [List.replicate_zero] at hp hg
  rw [matchP_of _ _ _ (by simp; omega) hp, ← Nat.add_zero n, ← hg]
  rfl

set_option maxHeartbeats 2000000 in
set_option maxRecDepth 100000 in
theorem globsLong_walk (n8 : UInt8) (a : ByteArray) (m8 : UInt8) (w : World) (ha : a.size ≤ 140737488351232) :
    Calls Try.prog 8 #[.int .u8 (n8.toNat : Int), .string a, .int .u8 (m8.toNat : Int)] w fun e w' => e = .returned (.bool true) ∧ Below w.heap.size w w' := by
  obtain ⟨o, rfl⟩ : ∃ l, a = str l := ⟨_, str_of a⟩
  have hso := str_size o
  rw [hso] at ha
  have hn := n8.toNat_lt
  have hm := m8.toNat_lt
  obtain ⟨n, hne⟩ : ∃ n, n = n8.toNat := ⟨_, rfl⟩
  obtain ⟨m, hme⟩ : ∃ m, m = m8.toNat := ⟨_, rfl⟩
  rw [← hne] at hn ⊢
  rw [← hme] at hm ⊢
  clear hne hme
  by_cases h1 : 1000 < o.length
  · go_enter Try.func8, Try.ntmps8
    go_wp2_with fail
    refine (alive_any w).mono ?_
    rintro e w1 ⟨rfl, hB1⟩
    go_wp2_with fail
    refine (alive_any w1).mono ?_
    rintro e w2 ⟨rfl, hB2⟩
    go_wp2_with fail
    go_ret
    exact ⟨rfl, below_then hB1 hB1.size hB2⟩
  go_enter Try.func8, Try.ntmps8
  go_wp2_with fail
  refine (alive_any w).mono ?_
  rintro e w1 ⟨rfl, hB1⟩
  go_wp2_with fail
  go_loop [7, 8, 9] (fun p q i => ∃ k : Nat, k ≤ n ∧ i = .int .i64 k ∧ p = .string (str (List.replicate k 63)) ∧ q = .string (str (marksQ m k))) (fun _ _ i => n - (intOf i).toNat)
  case atStart => exact ⟨0, Nat.zero_le _, rfl, rfl, by rw [show marksQ m 0 = [] from by unfold marksQ; rw [if_neg (by omega)]; rfl]; rfl⟩
  case round =>
    obtain ⟨k, hk, rfl, rfl, rfl⟩ := hrel
    have hz1 : (str (marksQ m k)).size ≤ 300 := by rw [str_size]; have := marksQ_len m k; omega
    have hz2 : (str (List.replicate k 63)).size ≤ 300 := by rw [str_size, List.length_replicate]; omega
    by_cases hlt : k < n
    · have hp : str (List.replicate k 63) ++ ({ data := #[63] } : ByteArray) = str (List.replicate (k + 1) 63) := by rw [List.replicate_succ']; exact str_append _ [63]
      by_cases hkm : k = m
      · subst hkm
        have hz3 : (str (marksQ k k ++ [42])).size ≤ 300 := by rw [str_size, List.length_append]; have := marksQ_len k k; simp; omega
        have hb : ((k : Int) == (k : Int)) = true := by simp
        have hx : str (marksQ k k) ++ ({ data := #[42] } : ByteArray) = str (marksQ k k ++ [42]) := str_append _ [42]
        have hx2 : str (marksQ k k ++ [42]) ++ ({ data := #[63] } : ByteArray) = str (marksQ k (k + 1)) := by rw [← marksQ_at]; exact str_append _ [63]
        go_wp2_with fail
        go_round
        case rel => exact ⟨k + 1, by omega, by go_num, rfl, rfl⟩
        case measure => simp [intOf]; omega
      · have hb : ((k : Int) == (m : Int)) = false := by simp only [beq_eq_false_iff_ne]; omega
        have hx : str (marksQ m k) ++ ({ data := #[63] } : ByteArray) = str (marksQ m (k + 1)) := by rw [← marksQ_next m k hkm]; exact str_append _ [63]
        go_wp2_with fail
        go_round
        case rel => exact ⟨k + 1, by omega, by go_num, rfl, rfl⟩
        case measure => simp [intOf]; omega
    · obtain rfl : k = n := by omega
      by_cases hmk : m < k
      · go_wp2_with fail
        refine (match_any (List.replicate k 63) o w1 (by rw [List.length_replicate]; omega) (by omega)).mono ?_
        rintro e w2 ⟨rfl, hB2⟩
        rw [matchP_marks k o (by omega)]
        have hq1 : ((o.length : Int) == (k : Int)) = decide (o.length = k) := by
          rw [Bool.eq_iff_iff]; simp only [beq_iff_eq, decide_eq_true_eq]; omega
        have hq2 : decide ((k : Int) ≤ (o.length : Int)) = decide (k ≤ o.length) := by
          rw [Bool.eq_iff_iff]; simp only [decide_eq_true_eq]; omega
        have h12 := below_then hB1 hB1.size hB2
        have hql := marksQ_len m k
        go_wp2_with fail
        refine (match_any (marksQ m k) o w2 (by first | omega | (simp; omega)) (by omega)).mono ?_
        rintro e w3 ⟨rfl, hB3⟩
        rw [matchP_star m k o (by omega) hmk]
        go_wp2_with fail
        go_ret
        exact ⟨ret_bool (by simp), below_then h12 h12.size hB3⟩
      · have hx : str (marksQ m k) ++ ({ data := #[42] } : ByteArray) = str (marksQ m k ++ [42]) := str_append _ [42]
        go_wp2_with fail
        refine (match_any (List.replicate k 63) o w1 (by rw [List.length_replicate]; omega) (by omega)).mono ?_
        rintro e w2 ⟨rfl, hB2⟩
        rw [matchP_marks k o (by omega)]
        have hq1 : ((o.length : Int) == (k : Int)) = decide (o.length = k) := by
          rw [Bool.eq_iff_iff]; simp only [beq_iff_eq, decide_eq_true_eq]; omega
        have hq2 : decide ((k : Int) ≤ (o.length : Int)) = decide (k ≤ o.length) := by
          rw [Bool.eq_iff_iff]; simp only [decide_eq_true_eq]; omega
        have h12 := below_then hB1 hB1.size hB2
        have hql := marksQ_len m k
        go_wp2_with fail
        refine (match_any (marksQ m k ++ [42]) o w2 (by first | omega | (simp; omega)) (by omega)).mono ?_
        rintro e w3 ⟨rfl, hB3⟩
        rw [matchP_star_end m k o (by omega) hmk]
        go_wp2_with fail
        go_ret
        exact ⟨ret_bool (by simp), below_then h12 h12.size hB3⟩
end Go.Proofs.Ytafiadlkfjacnaa
