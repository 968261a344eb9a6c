/-
  toolchestlaw10's own check of some answers, and by: contracts.
-/
import Derived.Test.YtnpaddakkniliaaDoorModeParse
import Derived.Test.YtnpaddakkniliaaDoorModeSign
import Derived.Test.YtnpaddakkniliaaDoorApply
namespace Go.Proofs.YtnpaddakkniliaaDoor
open Go.RowKit

theorem mparse_ok (B : Nat) (L : List UInt8) (l : List Chg) (w : World) (hE : EnvM B w) (hr : readV L = none) (hL : L.length ≤ 4096) (hp : allClauses (splitC 44 L) = some l) :
    Calls Tryd.prog 19 #[.string (str L)] w fun e w' => ∃ A c, e = .returned (.tuple #[.slice A l.length c, .int .i64 0]) ∧ Reads w' w'.heap.size 5 A l.length (chgv l) ∧ Below w.heap.size w w' :=
  (mparse_text B L w hE hr (by omega)).mono fun e w' ⟨h, hB⟩ => by
    unfold PIs at h
    rw [if_neg (by omega), hp] at h
    obtain ⟨v, he, ho⟩ := h
    obtain ⟨A, c, rfl⟩ := own_slice ho
    exact ⟨A, c, he, Reads.of_own ho, hB⟩
theorem mparse_no (B : Nat) (L : List UInt8) (w : World) (hE : EnvM B w) (hr : readV L = none) (hL : L.length ≤ 4096) (hp : allClauses (splitC 44 L) = none) :
    Calls Tryd.prog 19 #[.string (str L)] w fun e w' => e = .returned (.tuple #[.slice none 0 0, .int .i64 5]) ∧ Below w.heap.size w w' :=
  (mparse_text B L w hE hr (by omega)).mono fun e w' ⟨h, hB⟩ => by
    unfold PIs at h
    rw [if_neg (by omega), hp] at h
    exact ⟨h, hB⟩
set_option maxRecDepth 100000 in
set_option maxHeartbeats 1000000 in
theorem by_ok (B : Nat) (L : List UInt8) (l : List Chg) (mode mask : Int) (dir : Bool) (w : World) (hE : EnvM B w) (hr : readV L = none) (hL : L.length ≤ 4096) (hp : allClauses (splitC 44 L) = some l) (hl : l.length ≤ 4096) :
    Calls Tryd.prog 16 #[.string (str L), .agg #[.int .i64 mode, .int .i64 mask, .bool dir]] w fun e w' => e = .returned (.int .i64 (chgAll l mask dir (mode % 512).toNat : Nat)) ∧ Below w.heap.size w w' := by
  have b0 : Below w.heap.size w (w.alloc (.cells #[.int .i64 mode, .int .i64 mask, .bool dir] 27)) := (Below.refl _ _).alloc (Nat.le_refl _) _
  have k0 := Blk.new w 27 #[.int .i64 mode, .int .i64 mask, .bool dir]
  have E0 := hE.up b0
  go_enter Tryd.func16, Tryd.ntmps16
  go_wp2_with fail
  refine (mparse_ok B L l _ E0 hr hL hp).mono ?_
  rintro e w1 ⟨A, c, rfl, hrd, hB1⟩
  have k1 := k0.below hB1 (by simp)
  have b1 := below_then b0 b0.size hB1
  have f0 : w1.cell? ⟨w.heap.size, 0, none⟩ = some (.int .i64 mode) := k1.cell 0
  have f1 : w1.cell? ⟨w.heap.size, 1, none⟩ = some (.int .i64 mask) := k1.cell 1
  have f2 : w1.cell? ⟨w.heap.size, 2, none⟩ = some (.bool dir) := k1.cell 2
  have HR := Lib.hid hrd
  clear hrd hB1 k0 k1 E0 b0
  go_wp2_with fail
  refine (apply_any A l.length c l mode mask dir w1 HR.out (by omega)).mono ?_
  rintro e w2 ⟨rfl, hB2⟩
  go_wp2_with fail
  go_ret
  exact ⟨rfl, below_then b1 b1.size hB2⟩
/-! ### The law's own check -/
theorem al0 : allClauses (splitC 44 [103, 61, 117, 114]) = none := by decide
theorem al1 : allClauses (splitC 44 [117, 43, 120]) = some [⟨4, 43, 1, 0, false⟩] := by rfl
theorem al2 : allClauses (splitC 44 [103, 111, 61, 117]) = some [⟨3, 61, 0, 117, false⟩] := by rfl
theorem al3 : allClauses (splitC 44 [97, 43, 88]) = some [⟨7, 43, 0, 0, true⟩] := by rfl
theorem al4 : allClauses (splitC 44 [43, 119]) = some [⟨0, 43, 2, 0, false⟩] := by rfl
theorem al5 : allClauses (splitC 44 [61]) = some [⟨0, 61, 0, 0, false⟩] := by rfl
theorem av1 : chgAll [⟨4, 43, 1, 0, false⟩] 0 false ((420 : Int) % 512).toNat = 484 := by decide
theorem av2 : chgAll [⟨3, 61, 0, 117, false⟩] 0 false ((416 : Int) % 512).toNat = 438 := by decide
theorem av3 : chgAll [⟨7, 43, 0, 0, true⟩] 0 true ((420 : Int) % 512).toNat = 493 := by decide
theorem av4 : chgAll [⟨0, 43, 2, 0, false⟩] 18 false ((292 : Int) % 512).toNat = 420 := by decide
theorem av5 : chgAll [⟨0, 61, 0, 0, false⟩] 18 false ((511 : Int) % 512).toNat = 18 := by decide
theorem av6 : (45 :: sgnL 416 9 : List UInt8) = [45, 114, 119, 45, 114, 45, 45, 45, 45, 45] := by decide
theorem av7 : octL 932 = [54, 52, 52] := by decide
theorem by_is (B : Nat) (L : List UInt8) (l : List Chg) (mode mask : Int) (dir : Bool) (v : Nat) (w : World) (hE : EnvM B w) (hr : readV L = none) (hL : L.length ≤ 4096) (hp : allClauses (splitC 44 L) = some l) (hl : l.length ≤ 4096) (hv : chgAll l mask dir (mode % 512).toNat = v) :
    Calls Tryd.prog 16 #[.string (str L), .agg #[.int .i64 mode, .int .i64 mask, .bool dir]] w fun e w' => e = .returned (.int .i64 (v : Nat)) ∧ Below w.heap.size w w' := by
  rw [← hv]
  exact by_ok B L l mode mask dir w hE hr hL hp hl

set_option maxRecDepth 100000 in
set_option maxHeartbeats 4000000 in
theorem malive_any (B : Nat) (w : World) (hE : EnvM B w) : Calls Tryd.prog 15 #[] w fun e w' => e = .returned (.bool true) ∧ Below w.heap.size w w' := by
  go_enter Tryd.func15, Tryd.ntmps15
  go_wp2_with fail
  refine (mparse_no B [103, 61, 117, 114] w hE (by decide) (by decide) al0).mono ?_
  rintro e w1 ⟨rfl, hB1⟩
  have E1 := hE.up hB1
  go_wp2_with fail
  refine (by_is B [117, 43, 120] _ 420 0 false 484 w1 E1 (by decide) (by decide) al1 (by decide) av1).mono ?_
  rintro e w2 ⟨rfl, hB2⟩
  have E2 := E1.up hB2
  have b2 := below_then hB1 hB1.size hB2
  clear hE E1 hB1 hB2
  go_wp2_with fail
  refine (by_is B [103, 111, 61, 117] _ 416 0 false 438 w2 E2 (by decide) (by decide) al2 (by decide) av2).mono ?_
  rintro e w3 ⟨rfl, hB3⟩
  have E3 := E2.up hB3
  have b3 := below_then b2 b2.size hB3
  clear E2 b2 hB3
  go_wp2_with fail
  refine (by_is B [97, 43, 88] _ 420 0 true 493 w3 E3 (by decide) (by decide) al3 (by decide) av3).mono ?_
  rintro e w4 ⟨rfl, hB4⟩
  have E4 := E3.up hB4
  have b4 := below_then b3 b3.size hB4
  clear E3 b3 hB4
  go_wp2_with fail
  refine (by_is B [43, 119] _ 292 18 false 420 w4 E4 (by decide) (by decide) al4 (by decide) av4).mono ?_
  rintro e w5 ⟨rfl, hB5⟩
  have E5 := E4.up hB5
  have b5 := below_then b4 b4.size hB5
  clear E4 b4 hB5
  go_wp2_with fail
  refine (by_is B [61] _ 511 18 false 18 w5 E5 (by decide) (by decide) al5 (by decide) av5).mono ?_
  rintro e w6 ⟨rfl, hB6⟩
  have E6 := E5.up hB6
  have b6 := below_then b5 b5.size hB6
  clear E5 b5 hB6
  go_wp2_with fail
  refine (text_file 416 w6).mono ?_
  rintro e w7 ⟨rfl, hB7⟩
  rw [av6]
  have E7 := E6.up hB7
  have b7 := below_then b6 b6.size hB7
  have hq1 : ((str [45, 114, 119, 45, 114, 45, 45, 45, 45, 45]).toList == [45, 114, 119, 45, 114, 45, 45, 45, 45, 45]) = true := by rw [ByteArray.toList_eq]; rfl
  clear E6 b6 hB7
  go_wp2_with fail
  refine (octal_any 932 w7 E7.tz (Nat.le_trans E7.big E7.sz)).mono ?_
  rintro e w8 ⟨rfl, hB8⟩
  rw [av7]
  have b8 := below_then b7 b7.size hB8
  have hq2 : ((str [54, 52, 52]).toList == [54, 52, 52]) = true := by rw [ByteArray.toList_eq]; rfl
  clear E7 b7 hB8
  go_wp2_with fail
  go_ret
  exact ⟨rfl, b8⟩
end Go.Proofs.YtnpaddakkniliaaDoor
