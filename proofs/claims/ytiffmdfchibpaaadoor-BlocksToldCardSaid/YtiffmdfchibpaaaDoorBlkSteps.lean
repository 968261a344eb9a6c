/-
  blocks: fill, turn, letters, raise, lower, steps: their contracts. A block of bytes lies in memory of its own.
-/
import Derived.Test.YtiffmdfchibpaaaDoorBlkCheck
import Derived.Lib.AppendZerosOnto
set_option linter.unusedVariables false
set_option linter.unusedSimpArgs false
namespace Go.Proofs.YtiffmdfchibpaaaDoor
open Go.RowKit

/-- The value of byte j of a list, 0 behind it. -/
def byF (xs : List UInt8) (j : Nat) : Value := .int .u8 ((xs.getD j 0).toNat : Int)
/-- A row of n cells that hold these bytes. -/
def Bs (w : World) (g n : Nat) (xs : List UInt8) : Prop := Buf w g n (byF xs)
theorem byF_zero (xs : List UInt8) (m j : Nat) : byF (xs ++ List.replicate m 0) j = byF xs j := by
  unfold byF
  rw [List.getD_eq_getElem?_getD, List.getD_eq_getElem?_getD, List.getElem?_append]
  split
  · rfl
  · rename_i h
    rw [List.getElem?_eq_none (show xs.length ≤ j by omega), List.getElem?_replicate]
    split <;> rfl
theorem byF_end (xs : List UInt8) (j : Nat) (h : xs.length ≤ j) : byF xs j = .int .u8 0 := by
  unfold byF
  rw [List.getD_eq_getElem?_getD, List.getElem?_eq_none h]
  rfl
theorem byF_cat (xs ys : List UInt8) (j : Nat) (h : j < xs.length) : byF (xs ++ ys) j = byF xs j := by
  unfold byF
  rw [List.getD_eq_getElem?_getD, List.getD_eq_getElem?_getD, List.getElem?_append_left h]
section
variable {P : Program}
theorem Buf.less {w : World} {g n m : Nat} {f : Nat → Value} (h : Buf w g n f) (hm : m ≤ n) : Buf w g m f := by
  obtain ⟨c, t, lo, hh, hb, hn, hf, hc⟩ := h
  exact ⟨c, t, lo, hh, hb, by omega, fun j hj => hf j (by omega), fun i hi => hc i (by omega)⟩
theorem buf_cells {w : World} {g n : Nat} {f : Nat → Value} (h : Buf w g n f) (k : Nat) (hk : k ≤ n) : ∀ j v, ((List.range k).map f)[j]? = some v → w.cell? ((⟨g, 0, none⟩ : Addr).add j) = some v := by
  intro j v hv
  have hj : j < k := by have := (List.getElem?_eq_some_iff.1 hv).1; simpa using this
  rw [List.getElem?_map, List.getElem?_range hj] at hv
  injection hv with hv
  subst hv
  rw [Addr.add_lit, Nat.zero_add]
  exact h.cell (by omega)
theorem run_storeZeros (g N o : Nat) (z : Value) (hz : z.oneCell' = true) (f : Nat → Value) : ∀ (m i : Nat) (w : World), Buf w g N f → (∀ j, o ≤ j → j < N → f j = z) → o + i + m ≤ N →
    ∃ w', (storeCells ⟨g, o, none⟩ (List.replicate m z) i).run P w = .ok () w' ∧ Buf w' g N f ∧ w.grownBy w' (some g)
  | 0, i, w, h, _, _ => ⟨w, rfl, h, World.grownBy.refl w _⟩
  | m + 1, i, w, h, hf, hN => by
    have hadd : (⟨g, o, none⟩ : Addr).add i = ⟨g, o + i, none⟩ := by unfold Addr.add; split <;> simp_all
    have hcell := h.cell (i := o + i) (by omega)
    have hfro := h.frozen (i := o + i) (by omega)
    have hst : (store ((⟨g, o, none⟩ : Addr).add i) z).run P w = .ok () (w.setCell ⟨g, o + i, none⟩ z) := by
      rw [hadd, run_store P w _ z _ hz, hcell]
      simp [hfro]
    have h2 : Buf (w.setCell ⟨g, o + i, none⟩ z) g N f := (h.set (o + i) z).congr fun j hj => by
      split
      · rename_i e; rw [e]; exact (hf _ (by omega) (by omega)).symm
      · rfl
    obtain ⟨w', hr, hb, hg⟩ := run_storeZeros g N o z hz f m (i + 1) (w.setCell ⟨g, o + i, none⟩ z) h2 hf (by omega)
    refine ⟨w', ?_, hb, ?_⟩
    · rw [List.replicate_succ]
      simp only [storeCells, Sem.run_bind, hst, Result.andThen_ok, hr]
    · have g1 : w.grownBy (w.setCell ⟨g, o + i, none⟩ z) (some g) := only_setCell (World.grownBy.refl w _) (.inl rfl) z
      exact ⟨hg.os.trans g1.os, hg.tape.trans g1.tape, hg.output.trans g1.output, Nat.le_trans g1.size hg.size, fun k hk hne => (hg.block k (Nat.lt_of_lt_of_le hk g1.size) hne).trans (g1.block k hk hne)⟩
theorem zeroCells_byte (k : Nat) : Builtin.zeroCells (Value.int .u8 0).cells k = (List.replicate k (Value.int .u8 0)).toArray := by
  apply Array.ext'
  unfold Builtin.zeroCells
  apply List.ext_getElem?
  intro i
  simp [Value.cells, Nat.mod_one, List.getElem?_replicate]
  by_cases h : i < k <;> simp [h]
end
/-- 'append(b, make([]byte, m)...)' onto a row of bytes. -/
theorem run_append_zeros (w : World) (ty : TypeId) (g n cap m : Nat) (xs : List UInt8) (h : Bs w g cap xs) (hn : xs.length = n) (hc : n ≤ cap) (hb : n + m ≤ 1073741824) (hcap : cap ≤ maxLen) :
    ∃ g' cap' w', (Builtin.append_ #[42, 3] ty #[.slice (some ⟨g, 0, none⟩) n cap, .int .i64 (m : Int)]).run Tryd.prog w = .ok (.slice (some ⟨g', 0, none⟩) (n + m) cap') w' ∧ Bs w' g' (n + m) (xs ++ List.replicate m 0) ∧ w.grownBy w' (some g) ∧ (g' = g ∨ w.heap.size ≤ g') := by
  obtain ⟨i0, hi0, hz0, hz1, hz2⟩ := info_parts infoU8
  have hw : IntKind.i64.wrap (m : Int) = m := by rw [IntKind.wrap_i64]; omega
  have hneg : ¬ ((m : Int) < 0) := by omega
  have h48 : ¬ (281474976710656 < (m : Int)) := by omega
  by_cases hroom : n + m ≤ cap
  · obtain ⟨w', hr, hb', hg⟩ := run_storeZeros (P := Tryd.prog) g cap n (.int .u8 0) rfl (byF xs) m 0 w h (fun j hj _ => byF_end xs j (by omega)) (by omega)
    refine ⟨g, cap, w', ?_, (hb'.less hroom).congr fun j _ => (byF_zero xs m j).symm, hg, .inl rfl⟩
    rcases Nat.eq_zero_or_pos m with h0 | h0
    · subst h0
      have hr2 : (storeCells ⟨g, n, none⟩ [] 0).run Tryd.prog w = .ok () w' := hr
      simp [Builtin.append_, run_underlying Tryd.underlying42, run_underlying Tryd.underlying3, sizeOf, typeInfo, hi0, hz1, hz2, asInt, asIntOf, hc, Addr.add_lit, hr2, show IntKind.i64.wrap 0 = 0 from rfl]
    · have hm0 : ¬ m = 0 := by omega
      simp [Builtin.append_, run_underlying Tryd.underlying42, run_underlying Tryd.underlying3, sizeOf, typeInfo, zeroValue, hi0, hz0, hz1, hz2, asInt, asIntOf, hw, hneg, h48, hm0, hroom, Addr.add_lit, zeroCells_byte, hr]
  · have hold := run_firstCells_some (P := Tryd.prog) w.drew i0.size n ⟨g, 0, none⟩ n cap ((List.range n).map (byF xs)) (by simp [hz1]) (buf_cells (w := w.drew) h n hc)
    have hgr := Lib.run_append_grow_zeros (P := Tryd.prog) w 42 3 ty 5 i0 (.int .u8 0) .i64 .i64 Tryd.underlying42 Tryd.underlying3 hi0 hz0 (some ⟨g, 0, none⟩) n cap _ hold m (by omega) (by omega) (by omega) (by omega) (by rw [hz2]; omega) (growslice_fits (by omega) (by rw [hz2]; omega))
    refine ⟨w.heap.size, _, _, hgr, ?_, only_of_below (((Below.refl _ _).drew).alloc (Nat.le_refl _) _) _, .inr (Nat.le_refl _)⟩
    have hdz : w.drew.heap.size = w.heap.size := rfl
    refine (Buf.new w.drew _ 5 (byF xs) (n + m) ?_ ?_).congr fun j _ => (byF_zero xs m j).symm
    · simp [size_zeroCells, Value.cells]
    · intro i hi
      rw [zeroCells_byte, zeroCells_byte]
      rw [Array.getElem?_append_left (by simp; omega)]
      by_cases hin : i < n
      · rw [Array.getElem?_append_left (by simpa using hin)]
        simp [hin]
      · rw [Array.getElem?_append_right (by simp; omega)]
        rw [byF_end xs i (by omega)]
        rw [List.getElem?_toArray, List.getElem?_replicate, if_pos (by simp; omega)]
end Go.Proofs.YtiffmdfchibpaaaDoor
