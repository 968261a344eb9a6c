/-
  GlobsPlain: the law's walk.
-/
import Derived.Test.YtafiadlkfjacnaaGlobAlive
import Derived.Test.YtafiadlkfjacnaaGlobsAloneWalk
namespace Go.Proofs.Ytafiadlkfjacnaa
open Go.RowKit

theorem matchP_plain (l s : List UInt8) (h : l.length ≤ 1000) (hp : ∀ c ∈ l, isSign c = false) : matchP l s = decide (s = l) := by
  unfold matchP
  rw [decide_eq_true (show l.length ≤ 4096 by omega), parse_plain l hp]
  exact gm_singles l s
theorem decide_comm (a b : List UInt8) : decide (a = b) = decide (b = a) := by
  by_cases h : a = b
  · rw [h]
  · rw [decide_eq_false h, decide_eq_false (fun e => h e.symm)]

set_option maxHeartbeats 2000000 in
set_option maxRecDepth 100000 in
theorem globsPlain_walk (a b : ByteArray) (w : World) (ha : a.size ≤ 140737488351232) (hb : b.size ≤ 140737488351232) :
    Calls Try.prog 10 #[.string a, .string b] w fun e w' => e = .returned (.bool true) ∧ Below w.heap.size w w' := by
  obtain ⟨l, rfl⟩ : ∃ l, a = str l := ⟨_, str_of a⟩
  obtain ⟨o, rfl⟩ : ∃ o, b = str o := ⟨_, str_of b⟩
  have hsl := str_size l
  have hso := str_size o
  rw [hsl] at ha
  rw [hso] at hb
  by_cases h1 : 1000 < l.length
  · go_enter Try.func10, Try.ntmps10
    go_wp2_with fail
    refine (alive_any w).mono ?_
    rintro e w1 ⟨rfl, hB1⟩
    go_wp2_with fail
    refine (alive_any w1).mono ?_
    rintro e w2 ⟨rfl, hB2⟩
    go_wp2_with fail
    go_ret
    exact ⟨rfl, below_then hB1 hB1.size hB2⟩
  by_cases h2 : 1000 < o.length
  · go_enter Try.func10, Try.ntmps10
    go_wp2_with fail
    refine (alive_any w).mono ?_
    rintro e w1 ⟨rfl, hB1⟩
    go_wp2_with fail
    refine (alive_any w1).mono ?_
    rintro e w2 ⟨rfl, hB2⟩
    go_wp2_with fail
    go_ret
    exact ⟨rfl, below_then hB1 hB1.size hB2⟩
  go_enter Try.func10, Try.ntmps10
  go_wp2_with fail
  refine (alive_any w).mono ?_
  rintro e w1 ⟨rfl, hB1⟩
  go_wp2_with fail
  go_loop [5] (fun i => ∃ k : Nat, k ≤ l.length ∧ i = .int .i64 k ∧ Hid (∀ j (h : j < l.length), j < k → isSign l[j] = false)) (fun i => l.length - (intOf i).toNat)
  case atStart => exact ⟨0, Nat.zero_le _, rfl, hide fun j _ h => absurd h (by omega)⟩
  case round =>
    obtain ⟨k, hk, rfl, hno⟩ := hrel
    by_cases hlt : k < l.length
    · obtain ⟨ch, hch⟩ : ∃ ch, ch = l[k] := ⟨_, rfl⟩
      have hg : ∀ h : k < (str l).size, (str l)[k]'h = ch := fun _ => hch.symm
      have HCH := Lib.hid hch
      clear hch
      cases hs : isSign ch with
      | true =>
        have h4 : ch = 42 ∨ ch = 63 ∨ ch = 91 ∨ ch = 92 := by simpa [isSign, or_assoc] using hs
        clear hs
        rcases h4 with h | h | h | h
        all_goals
          subst h
          clear HCH
          go_wp2_with fail
          go_ret
          exact ⟨rfl, hB1⟩
      | false =>
        have h4 : ¬ ch = 42 ∧ ¬ ch = 63 ∧ ¬ ch = 91 ∧ ¬ ch = 92 := by
          have := hs
          simp [isSign] at this
          obtain ⟨⟨⟨a, b⟩, c⟩, d⟩ := this
          exact ⟨a, b, c, d⟩
        obtain ⟨h1, h2, h3, h4⟩ := h4
        have q1 := u8_beq_lit (n := 42) (by omega) h1
        have q2 := u8_beq_lit (n := 63) (by omega) h2
        have q3 := u8_beq_lit (n := 91) (by omega) h3
        have q4 := u8_beq_lit (n := 92) (by omega) h4
        have HS := Lib.hid hs
        clear h1 h2 h3 h4 hs
        simp only [Int.cast_ofNat_Int] at q1 q2 q3 q4
        go_wp2_with fail
        go_round
        case rel =>
          exact ⟨k + 1, by omega, by go_num, hide fun j hj hjk => by
            by_cases e : j = k
            · subst e
              rw [← HCH.out]
              exact HS.out
            · exact hno.out j hj (by omega)⟩
        case measure => simp [intOf]; omega
    · obtain rfl : k = l.length := by omega
      have hall : ∀ c ∈ l, isSign c = false := fun c hc => by
        obtain ⟨j, hj, rfl⟩ := List.getElem_of_mem hc
        exact hno.out j hj hj
      have HM := Lib.hid (matchP_plain l o (by omega) hall)
      have HQ := Lib.hid (quoteL_plain l hall)
      clear hall hno
      go_wp2_with fail
      refine (match_any l o w1 (by omega) (by omega)).mono ?_
      rintro e w2 ⟨rfl, hB2⟩
      rw [HM.out]
      have hq := str_eq l o
      rw [decide_comm] at hq
      go_wp2_with fail
      refine (quote_any (str l) w2 (by omega)).mono ?_
      rintro e w3 ⟨rfl, hB3⟩
      rw [str_list, HQ.out]
      have hqq : (l == (str l).toList) = true := by rw [ByteArray.toList_eq]; simp [str]
      go_wp2_with fail
      go_ret
      have h12 := below_then hB1 hB1.size hB2
      exact ⟨rfl, below_then h12 h12.size hB3⟩
end Go.Proofs.Ytafiadlkfjacnaa
