/-
  '==' of two [4]int, by value.
-/
import Derived.Test.YtiffmdfchibpaaaDoorBlkCheck
import Derived.ChangeKeysEq
set_option linter.unusedVariables false
set_option linter.unusedSimpArgs false
namespace Go.Proofs.YtiffmdfchibpaaaDoor
open Go.RowKit

section
variable {P : Program}
theorem run_part_one (e : TypeId) (cs : Array Value) (i : Nat) {d : TypeDesc} (he : P.underlying e = some d)
    (hd : (match d with | .struct _ | .array _ _ => true | _ => false) = false) (v : Value) (hv : cs[i]? = some v) (w : World) :
    (part e cs i).run P w = .ok v w := by
  have hA := run_isAgg_plain (P := P) he hd w
  simp [part, hA, hv]
theorem run_eqItems_int (d : Nat) (e : TypeId) (k : IntKind) (c : Nat) (he : P.underlying e = some (.int k)) (hc : c = 1) (xs ys : Array Value) : ∀ (is : List Nat) (la lb : List Int),
    is.map (fun i => xs[i]?) = la.map (fun a => some (.int k a)) → is.map (fun i => ys[i]?) = lb.map (fun a => some (.int k a)) → ∀ w : World,
    (Op.eqItems (d + 1) e c xs ys is).run P w = .ok (la == lb) w
  | [], la, lb, ha, hb, w => by
    cases la <;> cases lb <;> simp_all [Op.eqItems]
  | i :: is, la, lb, ha, hb, w => by
    cases la with
    | nil => simp at ha
    | cons a la =>
      cases lb with
      | nil => simp at hb
      | cons b lb =>
        simp only [List.map_cons, List.cons.injEq] at ha hb
        subst hc
        have p1 := run_part_one (P := P) e xs (i * 1) he rfl _ (by rw [Nat.mul_one]; exact ha.1) w
        have p2 := run_part_one (P := P) e ys (i * 1) he rfl _ (by rw [Nat.mul_one]; exact hb.1) w
        have p3 := run_equalIn_int (P := P) (w := w) d e k k a b he
        simp only [Op.eqItems, Sem.run_bind, p1, p2, p3, Result.andThen_ok]
        have ih := run_eqItems_int d e k 1 he rfl xs ys is la lb ha.2 hb.2 w
        by_cases hab : a = b
        · subst hab
          simpa using ih
        · simp [hab]
end
theorem cellsInt : Tryd.prog.cellsOf 3 = 1 := by kernel_rfl
theorem eq_four (d : Nat) (a b c e a' b' c' e' : Int) (w : World) :
    (Op.equalIn (d + 2) 27 (.agg #[.int .i64 a, .int .i64 b, .int .i64 c, .int .i64 e]) (.agg #[.int .i64 a', .int .i64 b', .int .i64 c', .int .i64 e'])).run Tryd.prog w = .ok ([a, b, c, e] == [a', b', c', e']) w := by
  obtain ⟨j0, hj0, -, -, -⟩ := info_parts infoInt
  rw [run_equalIn_array w (d + 1) _ _ Tryd.underlying27 hj0]
  exact run_eqItems_int d _ .i64 _ Tryd.underlying3 cellsInt _ _ _ _ _ rfl rfl w
end Go.Proofs.YtiffmdfchibpaaaDoor
