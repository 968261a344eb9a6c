/-
  ModesTells: the law's walk.
-/
import Derived.Test.YtnpaddakkniliaaDoorModeSign2
import Derived.Test.YtnpaddakkniliaaDoorRefText
namespace Go.Proofs.YtnpaddakkniliaaDoor
open Go.RowKit

theorem text_any (k mode : Int) (w : World) :
    Calls Tryd.prog 10 #[.int .u8 k, .int .i64 mode] w fun e w' => e = .returned (.string (str (kindC k :: sgnL mode 9))) ∧ Below w.heap.size w w' := by
  unfold kindC
  by_cases h1 : k = 1
  · subst h1; exact text_file mode w
  · rw [if_neg h1]
    by_cases h2 : k = 2
    · subst h2; exact text_dir mode w
    · rw [if_neg h2]
      by_cases h3 : k = 3
      · subst h3; exact text_link mode w
      · rw [if_neg h3]
        exact text_other mode k (by simpa using h1) (by simpa using h2) (by simpa using h3) w
set_option maxRecDepth 100000 in
set_option maxHeartbeats 2000000 in
theorem modesTells_walk (k mode : Int) (w : World) (hT : w.cell? ⟨7, 7, none⟩ = some (.int .u8 3)) (hg : 7 < w.heap.size) (hbig : 8 ≤ w.heap.size) :
    Calls Tryd.prog 3 #[.int .u8 k, .int .i64 mode] w fun e w' => e = .returned (.bool true) ∧ Below w.heap.size w w' := by
  go_enter Tryd.func3, Tryd.ntmps3
  go_wp2_with fail
  refine (text_any k mode w).mono ?_
  rintro e w1 ⟨rfl, hB1⟩
  have h1 := hB1.size
  have T1 := (hB1.cell (p := ⟨7, 7, none⟩) hg).trans hT
  go_wp2_with fail
  refine (rtext_any k mode w1).mono ?_
  rintro e w2 ⟨rfl, hB2⟩
  have h2 := hB2.size
  have T2 := (hB2.cell (p := ⟨7, 7, none⟩) (Nat.lt_of_lt_of_le hg h1)).trans T1
  have B2 := below_then hB1 h1 hB2
  clear hB1 hB2
  go_wp2_with fail
  refine (octal_any mode w2 T2 (by omega)).mono ?_
  rintro e w3 ⟨rfl, hB3⟩
  have B3 := below_then B2 B2.size hB3
  clear B2 hB3
  go_wp2_with fail
  refine (roctal_any mode w3).mono ?_
  rintro e w4 ⟨rfl, hB4⟩
  have B4 := below_then B3 B3.size hB4
  clear B3 hB4
  go_wp2_with fail
  go_ret
  exact ⟨rfl, B4⟩
end Go.Proofs.YtnpaddakkniliaaDoor
