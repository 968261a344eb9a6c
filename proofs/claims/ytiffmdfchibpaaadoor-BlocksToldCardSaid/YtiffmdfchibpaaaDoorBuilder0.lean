/-
  strings.Builder's copyCheck: contracts (the shelf's own proofs, at this dump, whose copyCheck the shelf's layings don't take).
-/
import Derived.Test.YtiffmdfchibpaaaDoorBytes
import Derived.Test.YtiffmdfchibpaaaDoorKept
import Derived.Lib.Builder
import Derived.Lib.UnsafeStr
import Derived.Lib.Walk
import Derived.Laws.Externs
import Derived.Shelf.Strings.BuilderX
namespace Go.Proofs.YtiffmdfchibpaaaDoor
open Go.RowKit

theorem sizeBuilder : (Tryd.prog.info? 50).map (·.size) = some 2 := by kernel_rfl
theorem liesBuilder : liesAt Tryd.prog Tryd.prog.depth 50 (2 / Tryd.prog.cellsOf 50) 0 50 1 = true := by kernel_rfl
theorem infoBuilder : (Tryd.prog.info? 50).map (fun i => (i.zero, i.size, i.bytes)) = some (some (.agg #[.pointer none, .slice none 0 0]), 2, 32) := by kernel_rfl
/-- A builder in block b, its bytes l, its buffer a row among the blocks from β on. -/
def IsBd (β b : Nat) (l : List UInt8) (w : World) : Prop :=
  b < β ∧ ∃ (p : Option Addr) (v : Value), (p = none ∨ p = some ⟨b, 0, none⟩) ∧ w.heap[b]? = some (.cells #[.pointer p, v] 50 (0, 0)) ∧ w.ownsRow β 5 1 v l.length (bv l)
theorem IsBd.lib {β b : Nat} {l : List UInt8} {w : World} (h : IsBd β b l w) : Lib.IsBuilder 50 5 b b (bv l) w := by
  obtain ⟨hb, p, v, hp, hh, hown⟩ := h
  have hne : v.ownBlock ≠ some b := fun e => by have := (hown.lt b e).1; omega
  have h2 : w.ownsRow b 5 1 v (bv l).length (bv l) := by rw [bv_length]; exact ownsRow_mono hown (by omega)
  rcases hp with rfl | rfl
  · exact .inl ⟨Nat.le_refl _, v, hh, h2, hne⟩
  · exact .inr ⟨Nat.le_refl _, v, hh, h2, hne⟩
theorem IsBd.new (w : World) (β : Nat) (hβ : w.heap.size < β) : IsBd β w.heap.size [] (w.alloc (.cells #[.pointer none, .slice none 0 0] 50)) :=
  ⟨hβ, none, .slice none 0 0, .inl rfl, heap_alloc_new w _, World.ownsRow_nil _ _ _ _⟩
theorem IsBd.below {β b B : Nat} {l : List UInt8} {w w' : World} (h : IsBd β b l w) (hb : Below B w w') (hs : B = w.heap.size) : IsBd β b l w' := by
  obtain ⟨hlt, p, v, hp, hh, hown⟩ := h
  subst hs
  exact ⟨hlt, p, v, hp, (hb.block b (Array.getElem?_eq_some_iff.1 hh).1).trans hh, own_below hown hb⟩

set_option maxHeartbeats 1000000 in
set_option maxRecDepth 100000 in
theorem copyCheck_used (b : Nat) (w : World) (h0 : w.cell? ⟨b, 0, none⟩ = some (.pointer (some ⟨b, 0, none⟩))) :
    Calls Tryd.prog 29 #[.pointer (some ⟨b, 0, none⟩)] w fun e w' => e = .returned (.tuple #[]) ∧ w = w' := by
  obtain ⟨j, hj, _⟩ := Option.map_eq_some_iff.1 sizeBuilder
  go_enter Tryd.func29, Tryd.ntmps29
  go_wp2
  rw [Lib.run_neq_ptr_same w _ Tryd.underlying48 hj]
  go_wp2
  go_end0
  exact ⟨rfl, rfl⟩

set_option maxHeartbeats 1000000 in
set_option maxRecDepth 100000 in
theorem copyCheck_fresh (b : Nat) (w : World) (h0 : w.cell? ⟨b, 0, none⟩ = some (.pointer none)) (hsh : w.shape? b = some (50, 2)) (hfz : w.frozen? ⟨b, 0, none⟩ = false) :
    Calls Tryd.prog 29 #[.pointer (some ⟨b, 0, none⟩)] w fun e w' => e = .returned (.tuple #[]) ∧ w' = w.setCell ⟨b, 0, none⟩ (.pointer (some ⟨b, 0, none⟩)) := by
  obtain ⟨j, hj, hjs⟩ := Option.map_eq_some_iff.1 sizeBuilder
  go_enter Tryd.func29, Tryd.ntmps29
  go_wp2
  rw [Lib.run_to_unsafe w ⟨b, 0, none⟩ Tryd.underlying48 Tryd.underlying80 hj (by rw [hjs]; decide) hsh (Nat.zero_lt_succ 1)]
  simp only [Result.andThen]
  rw [Oper.upon_value]
  go_wp2
  rw [run_callFunc_extern Tryd.func44 (by kernel_rfl) (by kernel_rfl) (by kernel_rfl) (e := Extern.AbiNoEscape.same) (by kernel_rfl)]
  rw [Lib.run_noEscape]
  simp only [Result.andThen]
  rw [Oper.upon_value]
  go_wp2
  rw [Lib.run_from_unsafe w ⟨b, 0, none⟩ Tryd.underlying80 Tryd.underlying48 hj hsh liesBuilder]
  simp only [Result.andThen]
  rw [Oper.upon_value]
  go_wp2
  go_end0
  exact ⟨rfl, rfl⟩

set_option maxHeartbeats 1000000 in
theorem copyCheck_any (β b : Nat) (l : List UInt8) (w : World) (h : IsBd β b l w) :
    Calls Tryd.prog 29 #[.pointer (some ⟨b, 0, none⟩)] w fun e w' => e = .returned (.tuple #[]) ∧ KeptX β b w w' ∧ b < β ∧ ∃ v, w'.heap[b]? = some (.cells #[.pointer (some ⟨b, 0, none⟩), v] 50 (0, 0)) ∧ w'.ownsRow β 5 1 v l.length (bv l) := by
  obtain ⟨hb, p, v, hp, hh, hown⟩ := h
  have c0 : w.cell? ⟨b, 0, none⟩ = some (.pointer p) := by rw [Lib.cell_of_heap hh]; rfl
  rcases hp with rfl | rfl
  · refine (copyCheck_fresh b w c0 (by simp [World.shape?, hh]) (Lib.frozen_of_heap hh 0)).mono ?_
    rintro e w' ⟨rfl, rfl⟩
    refine ⟨rfl, (KeptX.refl β b w).setCell (p := ⟨b, 0, none⟩) (.inl rfl) _, hb, v, ?_, ?_⟩
    · simp [World.setCell, Array.getElem?_modify, hh]
    · exact hown.kept (row := some b) (only_setCell (World.grownBy.refl _ _) (.inl rfl) _) (.inr fun e => by have := (hown.lt b e).1; omega)
  · refine (copyCheck_used b w c0).mono ?_
    rintro e w' ⟨rfl, rfl⟩
    exact ⟨rfl, KeptX.refl _ _ _, hb, v, hh, hown⟩
end Go.Proofs.YtiffmdfchibpaaaDoor
