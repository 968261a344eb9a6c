/-
  Small maps, more: an element stored at a key that may be there. No condition of a claim stands here.
-/
import Derived.Test.YtghkdfjmahmolaaDoorMaps
namespace Go.Proofs.YtghkdfjmahmolaaDoor
open Go.RowKit

/-! ### A key that may be there -/
def setI : List (Int × Value) → Int → Value → List (Int × Value)
  | [], _, _ => []
  | x :: es, i, v => if i = x.1 then (x.1, v) :: es else x :: setI es i v
def putI (es : List (Int × Value)) (i : Int) (v : Value) : List (Int × Value) := if findI es i = none then es ++ [(i, v)] else setI es i v
theorem findNow_set (k : IntKind) (i : Int) : ∀ (l : List MapEntry) (es : List (Int × Value)) (n : Nat) (_ : l.map (fun e => (e.key, e.val)) = es.map fun x => (Value.int k x.1, x.2)) (_ : findI es i ≠ none),
    ∃ j old e, Instr.findNow (.int k) (.int k i) l n = some (some (n + j, old)) ∧ l[j]? = some e ∧ e.key = .int k i ∧ ∀ v, (l.modify j fun e => { e with key := .int k i, val := v }).map (fun e => (e.key, e.val)) = (setI es i v).map fun x => (Value.int k x.1, x.2)
  | [], [], n, _, h => absurd rfl h
  | [], _ :: _, _, h, _ => by simp at h
  | _ :: _, [], _, h, _ => by simp at h
  | e :: l, x :: es, n, h, hf => by
    simp only [List.map_cons, List.cons.injEq, Prod.mk.injEq] at h
    obtain ⟨⟨hk, hv⟩, ht⟩ := h
    by_cases hi : i = x.1
    · refine ⟨0, e.val, e, ?_, rfl, by rw [hk, hi], fun v => ?_⟩
      · simp [Instr.findNow, hk, Instr.sameNow, hi]
      · simp [setI, hi, ht]
    · have hf2 : findI es i ≠ none := by simpa [findI, hi] using hf
      obtain ⟨j, old, e', h1, h2, h3, h4⟩ := findNow_set k i l es (n + 1) ht hf2
      refine ⟨j + 1, old, e', ?_, by simpa using h2, h3, fun v => ?_⟩
      · have hib : (i == x.1) = false := by simpa using hi
        simp [Instr.findNow, hk, Instr.sameNow, hib, h1]
        omega
      · simp only [List.modify_succ_cons, List.map_cons, h4 v, setI, if_neg hi, hk, hv]
section
variable {P : Program} {w w' : World} {g : Nat} {k : IntKind} {es : List (Int × Value)}
theorem run_putI (h : MapI w g k es) (t kt et : TypeId) (ht : P.underlying t = some (.map kt et)) (hk : P.underlying kt = some (.int k)) (i : Int) (v : Value) :
    ∃ w', (Instr.mapUpdate t (.map (some g)) (.int k i) v).run P w = .ok () w' ∧ MapI w' g k (putI es i v) ∧ w.grownBy w' (some g) ∧ w'.heap.size = w.heap.size := by
  by_cases hno : findI es i = none
  · unfold putI
    rw [if_pos hno]
    exact run_updateI h t kt et ht hk i v hno
  · unfold putI
    rw [if_neg hno]
    obtain ⟨arr, clock, hb, hm⟩ := h
    obtain ⟨j, old, e, h1, h2, h3, h4⟩ := findNow_set k i arr.toList es 0 hm hno
    have hkey : MapKept.IsKey (.int k) (.int k i) := rfl
    have hj : arr[j]? = some e := by simpa using h2
    have hs := MapKept.heap_set (o' := .map (arr.modify j fun e => { e with key := .int k i, val := v }) clock) hb
    refine ⟨{ w with heap := w.heap.setIfInBounds g (.map (arr.modify j fun e => { e with key := .int k i, val := v }) clock) }, ?_, ⟨_, _, hs.1, ?_⟩, ⟨rfl, rfl, rfl, by simp, fun j _ hj => hs.2 j (fun e => hj (by rw [e]))⟩, by simp⟩
    · simp [Instr.mapUpdate, run_underlying ht, MapKept.run_getObj_map hb, MapKept.run_checkKey hk hkey, MapKept.run_findKey hk h1, hj, h3, MapKept.run_keyThatStays hkey, MapKept.run_setObj_map _ hb, Result.andThen]
    · rw [Array.toList_modify]
      exact h4 v
theorem wpList_putI {ops : Array Oper} {rest : List Oper} {o : Oper} {a : Act} {Q : Exit → Act → World → Prop} (hg : o.guard = none) (m x y : Operand) (t : TypeId) (hop : o.op = Op.mapUpdate t m x y)
    (h : MapI w g k es) (kt et : TypeId) (ht : P.underlying t = some (.map kt et)) (hk : P.underlying kt = some (.int k)) (i : Int) (v : Value) (hm : a.eval m = .map (some g)) (hx : a.eval x = .int k i) (hv : a.eval y = v)
    (hK : ∀ w', MapI w' g k (putI es i v) → w.grownBy w' (some g) → w'.heap.size = w.heap.size → wpList P ops Q rest (a.put o.dst undef) w') : wpList P ops Q (o :: rest) a w := by
  refine wpList_plain hg fun K' hK' => ?_
  obtain ⟨w', hrun, r1, r2, r3⟩ := run_putI h t kt et ht hk i v
  unfold Oper.wp
  simp [execOp, hop, hm, hx, hv, hrun, Result.andThen]
  exact hK' _ _ (hK w' r1 r2 r3)
end
end Go.Proofs.YtghkdfjmahmolaaDoor
