/-
  GlobsAlone: the law's walk.
-/
import Derived.Test.YtafiadlkfjacnaaGlobAlive
namespace Go.Proofs.Ytafiadlkfjacnaa
open Go.RowKit

theorem matchP_quote (l s : List UInt8) (h : l.length ≤ 2000) : matchP (quoteL l) s = decide (s = l) := by
  have := quoteL_len l
  unfold matchP
  rw [decide_eq_true (show (quoteL l).length ≤ 4096 by omega), parse_quote]
  exact gm_singles l s
theorem okP_quote (l : List UInt8) (h : l.length ≤ 2000) : okP (quoteL l) = true := by
  have := quoteL_len l
  unfold okP
  rw [decide_eq_true (show (quoteL l).length ≤ 4096 by omega), parse_quote]
  rfl
theorem str_eq (a b : List UInt8) : ((str a).toList == (str b).toList) = decide (a = b) := by
  rw [ByteArray.toList_eq, ByteArray.toList_eq, Bool.eq_iff_iff]
  simp [str]

set_option maxHeartbeats 1000000 in
set_option maxRecDepth 100000 in
theorem globsAlone_walk (a b : ByteArray) (w : World) (ha : a.size ≤ 140737488351232) (hb : b.size ≤ 140737488351232) :
    Calls Try.prog 5 #[.string a, .string b] w fun e w' => e = .returned (.bool true) ∧ Below w.heap.size w w' := by
  obtain ⟨l, rfl⟩ : ∃ l, a = str l := ⟨_, str_of a⟩
  obtain ⟨o, rfl⟩ : ∃ o, b = str o := ⟨_, str_of b⟩
  have hsl := str_size l
  have hso := str_size o
  rw [hsl] at ha
  rw [hso] at hb
  by_cases h1 : 2000 < l.length
  · go_enter Try.func5, Try.ntmps5
    go_wp2_with fail
    refine (alive_any w).mono ?_
    rintro e w1 ⟨rfl, hB1⟩
    go_wp2_with fail
    refine (alive_any w1).mono ?_
    rintro e w2 ⟨rfl, hB2⟩
    go_wp2_with fail
    go_ret
    exact ⟨rfl, below_then hB1 hB1.size hB2⟩
  by_cases h2 : 2000 < o.length
  · go_enter Try.func5, Try.ntmps5
    go_wp2_with fail
    refine (alive_any w).mono ?_
    rintro e w1 ⟨rfl, hB1⟩
    go_wp2_with fail
    refine (alive_any w1).mono ?_
    rintro e w2 ⟨rfl, hB2⟩
    go_wp2_with fail
    go_ret
    exact ⟨rfl, below_then hB1 hB1.size hB2⟩
  go_enter Try.func5, Try.ntmps5
  go_wp2_with fail
  refine (alive_any w).mono ?_
  rintro e w1 ⟨rfl, hB1⟩
  go_wp2_with fail
  refine (quote_any (str l) w1 (by omega)).mono ?_
  rintro e w2 ⟨rfl, hB2⟩
  have hql := quoteL_len l
  go_wp2_with fail
  refine (check_any (quoteL l) w2 (by omega)).mono ?_
  rintro e w3 ⟨rfl, hB3⟩
  rw [okP_quote l (by omega)]
  go_wp2_with fail
  refine (match_any (quoteL l) l w3 (by omega) (by omega)).mono ?_
  rintro e w4 ⟨rfl, hB4⟩
  rw [matchP_quote l l (by omega), decide_eq_true rfl]
  go_wp2_with fail
  refine (match_any (quoteL l) o w4 (by omega) (by omega)).mono ?_
  rintro e w5 ⟨rfl, hB5⟩
  rw [matchP_quote l o (by omega)]
  have hq := str_eq o l
  go_wp2_with fail
  go_ret
  have h12 := below_then hB1 hB1.size hB2
  have h13 := below_then h12 h12.size hB3
  have h14 := below_then h13 h13.size hB4
  exact ⟨rfl, below_then h14 h14.size hB5⟩
end Go.Proofs.Ytafiadlkfjacnaa
