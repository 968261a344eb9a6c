/-
  toolchestlaw09.alive: its contract.
-/
import Derived.Test.YtafiadlkfjacnaaGlobMatch
import Derived.Test.YtafiadlkfjacnaaGlobLaws
namespace Go.Proofs.Ytafiadlkfjacnaa
open Go.RowKit

theorem live1 : matchP [42, 46, 103, 111] [97, 46, 103, 111] = true := by
  simp [matchP, parse, parseF, nextP, gm]
theorem live2 : matchP [42, 46, 103, 111] [97, 46, 103, 111, 116] = false := by
  simp [matchP, parse, parseF, nextP, gm]
theorem live3 : matchP [97, 63, 99] [97, 98, 99] = true := by
  simp [matchP, parse, parseF, nextP, gm]
theorem live4 : matchP [91, 33, 93, 97, 93, 120] [98, 120] = true := by
  simp [matchP, parse, parseF, nextP, brackOf, closeAt, List.findIdx?_cons, brk, gm]
theorem live5 : matchP [91, 97, 98] [91, 97, 98] = true := by
  simp [matchP, parse, parseF, nextP, brackOf, closeAt, List.findIdx?_cons, gm]
theorem live6 : matchP [91, 33, 97, 45, 99, 93, 120] [98, 120] = false := by
  simp [matchP, parse, parseF, nextP, brackOf, closeAt, List.findIdx?_cons, brk, gm]
theorem live7 : matchP [91, 92, 93, 120] [92, 120] = true := by
  simp [matchP, parse, parseF, nextP, brackOf, closeAt, List.findIdx?_cons, brk, gm]
theorem live8 : okP [97, 92] = false := by
  simp [okP, parse, parseF, nextP]
theorem live9 : quoteL [97, 42, 98, 91, 99, 93] = [97, 92, 42, 98, 92, 91, 99, 93] := by
  simp [quoteL, quote1, isSign]

set_option maxRecDepth 100000 in
set_option maxHeartbeats 2000000 in
theorem alive_any (w : World) :
    Calls Try.prog 18 #[] w fun e w' => e = .returned (.bool true) ∧ Below w.heap.size w w' := by
  go_enter Try.func18, Try.ntmps18
  go_wp2_with fail
  refine (match_any [42, 46, 103, 111] [97, 46, 103, 111] w (by decide) (by decide)).mono ?_
  rintro e w1 ⟨rfl, hB1⟩
  rw [live1]
  go_wp2_with fail
  refine (match_any [42, 46, 103, 111] [97, 46, 103, 111, 116] w1 (by decide) (by decide)).mono ?_
  rintro e w2 ⟨rfl, hB2⟩
  rw [live2]
  go_wp2_with fail
  refine (match_any [97, 63, 99] [97, 98, 99] w2 (by decide) (by decide)).mono ?_
  rintro e w3 ⟨rfl, hB3⟩
  rw [live3]
  go_wp2_with fail
  refine (match_any [91, 33, 93, 97, 93, 120] [98, 120] w3 (by decide) (by decide)).mono ?_
  rintro e w4 ⟨rfl, hB4⟩
  rw [live4]
  go_wp2_with fail
  refine (match_any [91, 97, 98] [91, 97, 98] w4 (by decide) (by decide)).mono ?_
  rintro e w5 ⟨rfl, hB5⟩
  rw [live5]
  go_wp2_with fail
  refine (match_any [91, 33, 97, 45, 99, 93, 120] [98, 120] w5 (by decide) (by decide)).mono ?_
  rintro e w6 ⟨rfl, hB6⟩
  rw [live6]
  go_wp2_with fail
  refine (match_any [91, 92, 93, 120] [92, 120] w6 (by decide) (by decide)).mono ?_
  rintro e w7 ⟨rfl, hB7⟩
  rw [live7]
  go_wp2_with fail
  refine (check_any [97, 92] w7 (by decide)).mono ?_
  rintro e w8 ⟨rfl, hB8⟩
  rw [live8]
  go_wp2_with fail
  refine (quote_any (str [97, 42, 98, 91, 99, 93]) w8 (by decide)).mono ?_
  rintro e w9 ⟨rfl, hB9⟩
  rw [str_list, live9]
  go_wp2_with fail
  go_ret
  have h12 := below_then hB1 hB1.size hB2
  have h13 := below_then h12 h12.size hB3
  have h14 := below_then h13 h13.size hB4
  have h15 := below_then h14 h14.size hB5
  have h16 := below_then h15 h15.size hB6
  have h17 := below_then h16 h16.size hB7
  have h18 := below_then h17 h17.size hB8
  exact ⟨rfl, below_then h18 h18.size hB9⟩
end Go.Proofs.Ytafiadlkfjacnaa
