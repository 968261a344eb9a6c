/-
  blocks.Check: its contract. Conditions: none.
-/
import Derived.Test.YtiffmdfchibpaaaDoorBlkPlain
import Derived.Test.YtiffmdfchibpaaaDoorBytes
import Derived.Shelf.Abstract
set_option linter.unusedVariables false
set_option linter.unusedSimpArgs false
namespace Go.Proofs.YtiffmdfchibpaaaDoor
open Go.RowKit

section
variable {P : Program}
/-- 'a[i]' of an array by value, its elements of one cell each. -/
theorem run_index_one (t e : TypeId) (n : Nat) (cs : Array Value) (k : IntKind) (i : Nat) (j : TypeInfo) (h : P.underlying t = some (.array n e)) {d : TypeDesc} (he : P.underlying e = some d)
    (hd : (match d with | .struct _ | .array _ _ => true | _ => false) = false) (hi : P.info? e = some j) (hs : j.size = 1) (hlt : i < n) (v : Value) (hv : cs[i]? = some v) (w : World) :
    (Instr.index t (.agg cs) (.int k (i : Int))).run P w = .ok v w := by
  have hA := run_isAgg_plain (P := P) he hd w
  have h1 : (0 : Int) ≤ (i : Int) ∧ (i : Int) < (n : Int) := by omega
  simp [Instr.index, run_underlying h, asIntOf, hlt, sizeOf, typeInfo, hi, hs, part, hA, hv]
end
theorem infoInt : (Tryd.prog.info? 3).map (fun i => (i.zero, i.size, i.bytes)) = some (some (.int .i64 0), 1, 8) := by kernel_rfl
def pcells (p : PlanV) : Array Value := #[.int .i64 p.inn, .int .i64 p.out, .int .i64 p.skip, .int .i64 p.count, .int .i64 p.seek, .bool p.keep, .bool p.swab, .bool p.upper, .bool p.lower, .bool p.sync]
def PlanV.val (p : PlanV) : Value := .agg (pcells p)
set_option maxRecDepth 100000 in
set_option maxHeartbeats 2000000 in
theorem check_any (p : PlanV) (w : World) :
    Calls Tryd.prog 11 #[p.val] w fun e w' => e = .returned (.bool (decide p.ok)) ∧ Below w.heap.size w w' := by
  have hd : decide p.ok = (decide ((1 ≤ p.inn ∧ p.inn ≤ 65536) ∧ (1 ≤ p.out ∧ p.out ≤ 65536) ∧ (0 ≤ p.skip ∧ p.skip ≤ 2147483647) ∧ (0 ≤ p.seek ∧ p.seek ≤ 2147483647)) && !(p.upper && p.lower)) := by
    rw [Bool.eq_iff_iff]
    simp [PlanV.ok, and_assoc]
  rw [hd]
  obtain ⟨inn, out, skip, count, seek, keep, swab, upper, lower, sync⟩ := p
  unfold PlanV.val pcells
  clear hd
  obtain ⟨X, hX⟩ : ∃ X, X = (decide ((1 ≤ inn ∧ inn ≤ 65536) ∧ (1 ≤ out ∧ out ≤ 65536) ∧ (0 ≤ skip ∧ skip ≤ 2147483647) ∧ (0 ≤ seek ∧ seek ≤ 2147483647)) && !(upper && lower)) := ⟨_, rfl⟩
  show Calls _ _ _ _ (fun e w' => e = .returned (.bool (decide ((1 ≤ inn ∧ inn ≤ 65536) ∧ (1 ≤ out ∧ out ≤ 65536) ∧ (0 ≤ skip ∧ skip ≤ 2147483647) ∧ (0 ≤ seek ∧ seek ≤ 2147483647)) && !(upper && lower))) ∧ _)
  rw [← hX]
  have HX := Lib.hid hX
  clear hX
  have hB0 : Below w.heap.size w (w.alloc (.cells #[.int .i64 inn, .int .i64 out, .int .i64 skip, .int .i64 count, .int .i64 seek, .bool keep, .bool swab, .bool upper, .bool lower, .bool sync] 26)) := (Below.refl _ _).alloc (Nat.le_refl _) _
  obtain ⟨j0, hj0, hj1, hj2, hj3⟩ := info_parts infoInt
  have x0 : ∀ w : World, (Instr.index 59 (.agg #[.int .i64 inn, .int .i64 out]) (.int .i64 0)).run Tryd.prog w = .ok (.int .i64 inn) w := run_index_one 59 3 2 _ .i64 0 j0 Tryd.underlying59 Tryd.underlying3 rfl hj0 hj2 (by decide) _ rfl
  have x1 : ∀ w : World, (Instr.index 59 (.agg #[.int .i64 inn, .int .i64 out]) (.int .i64 1)).run Tryd.prog w = .ok (.int .i64 out) w := run_index_one 59 3 2 _ .i64 1 j0 Tryd.underlying59 Tryd.underlying3 rfl hj0 hj2 (by decide) _ rfl
  have x2 : ∀ w : World, (Instr.index 59 (.agg #[.int .i64 skip, .int .i64 seek]) (.int .i64 0)).run Tryd.prog w = .ok (.int .i64 skip) w := run_index_one 59 3 2 _ .i64 0 j0 Tryd.underlying59 Tryd.underlying3 rfl hj0 hj2 (by decide) _ rfl
  have x3 : ∀ w : World, (Instr.index 59 (.agg #[.int .i64 skip, .int .i64 seek]) (.int .i64 1)).run Tryd.prog w = .ok (.int .i64 seek) w := run_index_one 59 3 2 _ .i64 1 j0 Tryd.underlying59 Tryd.underlying3 rfl hj0 hj2 (by decide) _ rfl
  go_enter Tryd.func11, Tryd.ntmps11
  go_wp2
  go_loopw [12] (fun i wr => wr = w.alloc (.cells #[.int .i64 inn, .int .i64 out, .int .i64 skip, .int .i64 count, .int .i64 seek, .bool keep, .bool swab, .bool upper, .bool lower, .bool sync] 26) ∧ (i = .int .i64 0 ∨ (i = .int .i64 1 ∧ 1 ≤ inn ∧ inn ≤ 65536) ∨ (i = .int .i64 2 ∧ (1 ≤ inn ∧ inn ≤ 65536) ∧ 1 ≤ out ∧ out ≤ 65536))) (fun i _ => 2 - (intOf i).toNat)
  case atStart => exact ⟨rfl, .inl rfl⟩
  case round =>
    obtain ⟨rfl, hrel⟩ := hrel
    rcases hrel with rfl | ⟨rfl, h1, h2⟩ | ⟨rfl, ⟨h1, h2⟩, h3, h4⟩
    · by_cases ha : inn < 1
      · go_wp2
        go_ret
        exact ⟨ret_bool (show false = X by rw [HX.out, decide_eq_false (by omega), Bool.false_and]), hB0⟩
      · by_cases hb : 65536 < inn
        · go_wp2
          go_ret
          exact ⟨ret_bool (show false = X by rw [HX.out, decide_eq_false (by omega), Bool.false_and]), hB0⟩
        · go_wp2
          go_roundw
          case rel => exact ⟨trivial, .inr (.inl ⟨rfl, by omega, by omega⟩)⟩
          case measure => simp [intOf]
    · by_cases ha : out < 1
      · go_wp2
        go_ret
        exact ⟨ret_bool (show false = X by rw [HX.out, decide_eq_false (by omega), Bool.false_and]), hB0⟩
      · by_cases hb : 65536 < out
        · go_wp2
          go_ret
          exact ⟨ret_bool (show false = X by rw [HX.out, decide_eq_false (by omega), Bool.false_and]), hB0⟩
        · go_wp2
          go_roundw
          case rel => exact ⟨trivial, .inr (.inr ⟨rfl, ⟨h1, h2⟩, by omega, by omega⟩)⟩
          case measure => simp [intOf]
    · go_wp2
      go_loopw [27] (fun i wr => wr = w.alloc (.cells #[.int .i64 inn, .int .i64 out, .int .i64 skip, .int .i64 count, .int .i64 seek, .bool keep, .bool swab, .bool upper, .bool lower, .bool sync] 26) ∧ (i = .int .i64 0 ∨ (i = .int .i64 1 ∧ 0 ≤ skip ∧ skip ≤ 2147483647) ∨ (i = .int .i64 2 ∧ (0 ≤ skip ∧ skip ≤ 2147483647) ∧ 0 ≤ seek ∧ seek ≤ 2147483647))) (fun i _ => 2 - (intOf i).toNat)
      case atStart => exact ⟨rfl, .inl rfl⟩
      case round =>
        obtain ⟨rfl, hrel⟩ := hrel
        rcases hrel with rfl | ⟨rfl, h5, h6⟩ | ⟨rfl, ⟨h5, h6⟩, h7, h8⟩
        · by_cases ha : skip < 0
          · go_wp2
            go_ret
            exact ⟨ret_bool (show false = X by rw [HX.out, decide_eq_false (by omega), Bool.false_and]), hB0⟩
          · by_cases hb : 2147483647 < skip
            · go_wp2
              go_ret
              exact ⟨ret_bool (show false = X by rw [HX.out, decide_eq_false (by omega), Bool.false_and]), hB0⟩
            · go_wp2
              go_roundw
              case rel => exact ⟨trivial, .inr (.inl ⟨rfl, by omega, by omega⟩)⟩
              case measure => simp [intOf]
        · by_cases ha : seek < 0
          · go_wp2
            go_ret
            exact ⟨ret_bool (show false = X by rw [HX.out, decide_eq_false (by omega), Bool.false_and]), hB0⟩
          · by_cases hb : 2147483647 < seek
            · go_wp2
              go_ret
              exact ⟨ret_bool (show false = X by rw [HX.out, decide_eq_false (by omega), Bool.false_and]), hB0⟩
            · go_wp2
              go_roundw
              case rel => exact ⟨trivial, .inr (.inr ⟨rfl, ⟨h5, h6⟩, by omega, by omega⟩)⟩
              case measure => simp [intOf]
        · have hx := HX.out
          rw [decide_eq_true (p := (1 ≤ inn ∧ inn ≤ 65536) ∧ (1 ≤ out ∧ out ≤ 65536) ∧ (0 ≤ skip ∧ skip ≤ 2147483647) ∧ (0 ≤ seek ∧ seek ≤ 2147483647)) ⟨⟨h1, h2⟩, ⟨h3, h4⟩, ⟨h5, h6⟩, ⟨h7, h8⟩⟩, Bool.true_and] at hx
          have HY := Lib.hid hx
          clear hx
          cases upper <;> cases lower <;> (go_wp2; go_ret; exact ⟨ret_bool (show _ = X by rw [HY.out]; rfl), hB0⟩)
end Go.Proofs.YtiffmdfchibpaaaDoor
