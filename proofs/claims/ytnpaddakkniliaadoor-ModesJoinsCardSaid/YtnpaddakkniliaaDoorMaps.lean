/-
  Small maps with whole numbers as keys, whatever their elements: words for the walks of this seat. No condition of a claim stands here.
-/
import Derived.Test.YtnpaddakkniliaaDoorBase
import Derived.MapKept
import Derived.ChangeMaps4
import Derived.Maps.OwnOps
namespace Go.Proofs.YtnpaddakkniliaaDoor
open Go.RowKit

/-- Block g is a map that holds just these entries, each key once. -/
def MapI (w : World) (g : Nat) (k : IntKind) (es : List (Int × Value)) : Prop :=
  ∃ arr clock, w.heap[g]? = some (.map arr clock) ∧ arr.toList.map (fun e => (e.key, e.val)) = es.map fun x => (Value.int k x.1, x.2)
def findI : List (Int × Value) → Int → Option Value
  | [], _ => none
  | x :: es, i => if i = x.1 then some x.2 else findI es i
theorem findNow_int (k : IntKind) (i : Int) : ∀ (l : List MapEntry) (es : List (Int × Value)) (n : Nat) (_ : l.map (fun e => (e.key, e.val)) = es.map fun x => (Value.int k x.1, x.2)),
    ∃ r, Instr.findNow (.int k) (.int k i) l n = some r ∧ r.map (·.2) = findI es i ∧ ∀ p, r = some p → n ≤ p.1 ∧ p.1 < n + l.length ∧ ∃ e, l[p.1 - n]? = some e ∧ e.key = .int k i
  | [], [], n, _ => ⟨none, rfl, rfl, fun p h => by cases h⟩
  | [], _ :: _, _, h => by simp at h
  | _ :: _, [], _, h => by simp at h
  | e :: l, x :: es, n, h => by
    simp only [List.map_cons, List.cons.injEq, Prod.mk.injEq] at h
    obtain ⟨⟨hk, hv⟩, ht⟩ := h
    by_cases hi : i = x.1
    · refine ⟨some (n, e.val), ?_, ?_, fun p hp => ?_⟩
      · simp [Instr.findNow, hk, Instr.sameNow, hi]
      · simp [findI, hi, hv]
      · cases hp
        exact ⟨Nat.le_refl _, by simp, e, by simp, by rw [hk, hi]⟩
    · obtain ⟨r, h1, h2, h3⟩ := findNow_int k i l es (n + 1) ht
      refine ⟨r, ?_, ?_, fun p hp => ?_⟩
      · have hib : (i == x.1) = false := by simpa using hi
        simp [Instr.findNow, hk, Instr.sameNow, hib, h1]
      · simp [findI, hi, h2]
      · obtain ⟨a, b, e', he, hke⟩ := h3 p hp
        refine ⟨by omega, by simp; omega, e', ?_, hke⟩
        rw [show p.1 - n = (p.1 - (n + 1)) + 1 from by omega]
        simpa using he

section
variable {P : Program} {w w' : World} {g : Nat} {k : IntKind} {es : List (Int × Value)}
theorem MapI.lt (h : MapI w g k es) : g < w.heap.size := by
  obtain ⟨arr, clock, hb, _⟩ := h
  exact (Array.getElem?_eq_some_iff.1 hb).1
theorem MapI.of_block (h : MapI w g k es) (e : w'.heap[g]? = w.heap[g]?) : MapI w' g k es := by
  obtain ⟨arr, clock, hb, r⟩ := h
  exact ⟨arr, clock, e.trans hb, r⟩
theorem MapI.below {B : Nat} (h : MapI w g k es) (hb : Below B w w') (hg : g < B) : MapI w' g k es := h.of_block (hb.block g hg)
theorem MapI.alloc (h : MapI w g k es) (o : Obj) : MapI (w.alloc o) g k es := h.of_block (Below.heap_alloc w o g h.lt)
theorem MapI.setCell (h : MapI w g k es) (a : Addr) (v : Value) : MapI (w.setCell a v) g k es := by
  by_cases e : g = a.block
  · obtain ⟨arr, clock, hb, r⟩ := h
    refine ⟨arr, clock, ?_, r⟩
    subst e
    simp [World.setCell, Array.getElem?_modify, hb]
  · exact h.of_block (Below.heap_setCell w a v g e)
theorem MapI.new (w : World) (k : IntKind) : MapI (w.alloc (.map #[] 0)) w.heap.size k [] := ⟨#[], 0, heap_alloc_new w _, rfl⟩

theorem run_lookupI (h : MapI w g k es) (t kt et : TypeId) (ht : P.underlying t = some (.map kt et)) (hk : P.underlying kt = some (.int k)) (z : Value) (hz : ∀ w, (zeroValue et).run P w = .ok z w) (i : Int) :
    (Instr.lookup t (.map (some g)) (.int k i) true).run P w = .ok (.tuple #[(findI es i).getD z, .bool (findI es i).isSome]) w := by
  obtain ⟨arr, clock, hb, hm⟩ := h
  obtain ⟨r, h1, h2, _⟩ := findNow_int k i arr.toList es 0 hm
  have hkey : MapKept.IsKey (.int k) (.int k i) := rfl
  rw [← h2]
  cases r with
  | none => simp [Instr.lookup, run_underlying ht, MapKept.run_getObj_map hb, MapKept.run_checkKey hk hkey, MapKept.run_findKey hk h1, Result.andThen, hz]
  | some p => simp [Instr.lookup, run_underlying ht, MapKept.run_getObj_map hb, MapKept.run_checkKey hk hkey, MapKept.run_findKey hk h1, Result.andThen]
theorem run_lookupI1 (h : MapI w g k es) (t kt et : TypeId) (ht : P.underlying t = some (.map kt et)) (hk : P.underlying kt = some (.int k)) (z : Value) (hz : ∀ w, (zeroValue et).run P w = .ok z w) (i : Int) :
    (Instr.lookup t (.map (some g)) (.int k i) false).run P w = .ok ((findI es i).getD z) w := by
  obtain ⟨arr, clock, hb, hm⟩ := h
  obtain ⟨r, h1, h2, _⟩ := findNow_int k i arr.toList es 0 hm
  have hkey : MapKept.IsKey (.int k) (.int k i) := rfl
  rw [← h2]
  cases r with
  | none => simp [Instr.lookup, run_underlying ht, MapKept.run_getObj_map hb, MapKept.run_checkKey hk hkey, MapKept.run_findKey hk h1, Result.andThen, hz]
  | some p => simp [Instr.lookup, run_underlying ht, MapKept.run_getObj_map hb, MapKept.run_checkKey hk hkey, MapKept.run_findKey hk h1, Result.andThen]
/-- A new key. -/
theorem run_updateI (h : MapI w g k es) (t kt et : TypeId) (ht : P.underlying t = some (.map kt et)) (hk : P.underlying kt = some (.int k)) (i : Int) (v : Value) (hno : findI es i = none) :
    ∃ w', (Instr.mapUpdate t (.map (some g)) (.int k i) v).run P w = .ok () w' ∧ MapI w' g k (es ++ [(i, v)]) ∧ w.grownBy w' (some g) ∧ w'.heap.size = w.heap.size := by
  obtain ⟨arr, clock, hb, hm⟩ := h
  obtain ⟨r, h1, h2, _⟩ := findNow_int k i arr.toList es 0 hm
  have hkey : MapKept.IsKey (.int k) (.int k i) := rfl
  have hr : r = none := by
    rw [hno] at h2
    cases r with
    | none => rfl
    | some p => simp at h2
  subst hr
  have hs := MapKept.heap_set (o' := .map (arr.push { key := .int k i, val := v, born := clock }) (clock + 1)) hb
  refine ⟨{ w with heap := w.heap.setIfInBounds g (.map (arr.push { key := .int k i, val := v, born := clock }) (clock + 1)) }, ?_, ⟨_, _, hs.1, ?_⟩, ⟨rfl, rfl, rfl, by simp, fun j _ hj => hs.2 j (fun e => hj (by rw [e]))⟩, by simp⟩
  · simp [Instr.mapUpdate, run_underlying ht, MapKept.run_getObj_map hb, MapKept.run_checkKey hk hkey, MapKept.run_findKey hk h1, MapKept.run_setObj_map _ hb, Result.andThen]
  · simp [hm]
theorem wpList_insertI {ops : Array Oper} {rest : List Oper} {o : Oper} {a : Act} {Q : Exit → Act → World → Prop} (hg : o.guard = none) (m x y : Operand) (t : TypeId) (hop : o.op = Op.insert t m x y)
    (h : MapI w g k es) (kt et : TypeId) (ht : P.underlying t = some (.map kt et)) (hk : P.underlying kt = some (.int k)) (i : Int) (v : Value) (hm : a.eval m = .map (some g)) (hx : a.eval x = .int k i) (hv : a.eval y = v) (hno : findI es i = none)
    (hK : ∀ w', MapI w' g k (es ++ [(i, v)]) → w.grownBy w' (some g) → w'.heap.size = w.heap.size → wpList P ops Q rest (a.put o.dst undef) w') : wpList P ops Q (o :: rest) a w := by
  refine wpList_plain hg fun K' hK' => ?_
  obtain ⟨w', hrun, r1, r2, r3⟩ := run_updateI h t kt et ht hk i v hno
  unfold Oper.wp
  simp [execOp, hop, hm, hx, hv, hrun, Result.andThen]
  exact hK' _ _ (hK w' r1 r2 r3)
end
end Go.Proofs.YtnpaddakkniliaaDoor
