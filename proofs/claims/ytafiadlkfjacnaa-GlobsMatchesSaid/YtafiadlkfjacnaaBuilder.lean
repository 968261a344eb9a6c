/-
  strings.Builder's copyCheck and WriteByte: contracts (the shelf's own proofs, at this dump, whose copyCheck the shelf's layings don't take).
-/
import Derived.Test.YtafiadlkfjacnaaBytes
import Derived.Test.YtafiadlkfjacnaaKept
import Derived.Lib.Builder
import Derived.Lib.UnsafeStr
import Derived.Lib.Walk
import Derived.Laws.Externs
import Derived.Shelf.Strings.BuilderX
namespace Go.Proofs.Ytafiadlkfjacnaa
open Go.RowKit

theorem sizeBuilder : (Try.prog.info? 34).map (·.size) = some 2 := by kernel_rfl
theorem liesBuilder : liesAt Try.prog Try.prog.depth 34 (2 / Try.prog.cellsOf 34) 0 34 1 = true := by kernel_rfl
theorem infoBuilder : (Try.prog.info? 34).map (fun i => (i.zero, i.size, i.bytes)) = some (some (.agg #[.pointer none, .slice none 0 0]), 2, 32) := by kernel_rfl
/-- A builder in block b, its bytes l, its buffer a row among the blocks from β on. -/
def IsBd (β b : Nat) (l : List UInt8) (w : World) : Prop :=
  b < β ∧ ∃ (p : Option Addr) (v : Value), (p = none ∨ p = some ⟨b, 0, none⟩) ∧ w.heap[b]? = some (.cells #[.pointer p, v] 34 (0, 0)) ∧ w.ownsRow β 5 1 v l.length (bv l)
theorem IsBd.lib {β b : Nat} {l : List UInt8} {w : World} (h : IsBd β b l w) : Lib.IsBuilder 34 5 b b (bv l) w := by
  obtain ⟨hb, p, v, hp, hh, hown⟩ := h
  have hne : v.ownBlock ≠ some b := fun e => by have := (hown.lt b e).1; omega
  have h2 : w.ownsRow b 5 1 v (bv l).length (bv l) := by rw [bv_length]; exact ownsRow_mono hown (by omega)
  rcases hp with rfl | rfl
  · exact .inl ⟨Nat.le_refl _, v, hh, h2, hne⟩
  · exact .inr ⟨Nat.le_refl _, v, hh, h2, hne⟩
theorem IsBd.new (w : World) (β : Nat) (hβ : w.heap.size < β) : IsBd β w.heap.size [] (w.alloc (.cells #[.pointer none, .slice none 0 0] 34)) :=
  ⟨hβ, none, .slice none 0 0, .inl rfl, heap_alloc_new w _, World.ownsRow_nil _ _ _ _⟩
theorem IsBd.below {β b B : Nat} {l : List UInt8} {w w' : World} (h : IsBd β b l w) (hb : Below B w w') (hs : B = w.heap.size) : IsBd β b l w' := by
  obtain ⟨hlt, p, v, hp, hh, hown⟩ := h
  subst hs
  exact ⟨hlt, p, v, hp, (hb.block b (Array.getElem?_eq_some_iff.1 hh).1).trans hh, own_below hown hb⟩

set_option maxHeartbeats 1000000 in
set_option maxRecDepth 100000 in
theorem copyCheck_used (b : Nat) (w : World) (h0 : w.cell? ⟨b, 0, none⟩ = some (.pointer (some ⟨b, 0, none⟩))) :
    Calls Try.prog 25 #[.pointer (some ⟨b, 0, none⟩)] w fun e w' => e = .returned (.tuple #[]) ∧ w = w' := by
  obtain ⟨j, hj, _⟩ := Option.map_eq_some_iff.1 sizeBuilder
  go_enter Try.func25, Try.ntmps25
  go_wp2
  rw [Lib.run_neq_ptr_same w _ Try.underlying32 hj]
  go_wp2
  go_end0
  exact ⟨rfl, rfl⟩

set_option maxHeartbeats 1000000 in
set_option maxRecDepth 100000 in
theorem copyCheck_fresh (b : Nat) (w : World) (h0 : w.cell? ⟨b, 0, none⟩ = some (.pointer none)) (hsh : w.shape? b = some (34, 2)) (hfz : w.frozen? ⟨b, 0, none⟩ = false) :
    Calls Try.prog 25 #[.pointer (some ⟨b, 0, none⟩)] w fun e w' => e = .returned (.tuple #[]) ∧ w' = w.setCell ⟨b, 0, none⟩ (.pointer (some ⟨b, 0, none⟩)) := by
  obtain ⟨j, hj, hjs⟩ := Option.map_eq_some_iff.1 sizeBuilder
  go_enter Try.func25, Try.ntmps25
  go_wp2
  rw [Lib.run_to_unsafe w ⟨b, 0, none⟩ Try.underlying32 Try.underlying62 hj (by rw [hjs]; decide) hsh (Nat.zero_lt_succ 1)]
  simp only [Result.andThen]
  rw [Oper.upon_value]
  go_wp2
  rw [run_callFunc_extern Try.func32 (by kernel_rfl) (by kernel_rfl) (by kernel_rfl) (e := Extern.AbiNoEscape.same) (by kernel_rfl)]
  rw [Lib.run_noEscape]
  simp only [Result.andThen]
  rw [Oper.upon_value]
  go_wp2
  rw [Lib.run_from_unsafe w ⟨b, 0, none⟩ Try.underlying62 Try.underlying32 hj hsh liesBuilder]
  simp only [Result.andThen]
  rw [Oper.upon_value]
  go_wp2
  go_end0
  exact ⟨rfl, rfl⟩

set_option maxHeartbeats 1000000 in
theorem copyCheck_any (β b : Nat) (l : List UInt8) (w : World) (h : IsBd β b l w) :
    Calls Try.prog 25 #[.pointer (some ⟨b, 0, none⟩)] w fun e w' => e = .returned (.tuple #[]) ∧ KeptX β b w w' ∧ b < β ∧ ∃ v, w'.heap[b]? = some (.cells #[.pointer (some ⟨b, 0, none⟩), v] 34 (0, 0)) ∧ w'.ownsRow β 5 1 v l.length (bv l) := by
  obtain ⟨hb, p, v, hp, hh, hown⟩ := h
  have c0 : w.cell? ⟨b, 0, none⟩ = some (.pointer p) := by rw [Lib.cell_of_heap hh]; rfl
  rcases hp with rfl | rfl
  · refine (copyCheck_fresh b w c0 (by simp [World.shape?, hh]) (Lib.frozen_of_heap hh 0)).mono ?_
    rintro e w' ⟨rfl, rfl⟩
    refine ⟨rfl, (KeptX.refl β b w).setCell (p := ⟨b, 0, none⟩) (.inl rfl) _, hb, v, ?_, ?_⟩
    · simp [World.setCell, Array.getElem?_modify, hh]
    · exact hown.kept (row := some b) (only_setCell (World.grownBy.refl _ _) (.inl rfl) _) (.inr fun e => by have := (hown.lt b e).1; omega)
  · refine (copyCheck_used b w c0).mono ?_
    rintro e w' ⟨rfl, rfl⟩
    exact ⟨rfl, KeptX.refl _ _ _, hb, v, hh, hown⟩

set_option maxHeartbeats 1000000 in
set_option maxRecDepth 100000 in
theorem writeByte_any (β b : Nat) (l : List UInt8) (c : UInt8) (w : World) (h : IsBd β b l w) (hlen : l.length + 1 ≤ 140737488355328) (hβ : β ≤ w.heap.size) :
    Calls Try.prog 20 #[.pointer (some ⟨b, 0, none⟩), .int .u8 (c.toNat : Int)] w fun e w' => e = .returned .nilIface ∧ IsBd β b (l ++ [c]) w' ∧ KeptX β b w w' := by
  obtain ⟨i0, hi, hz0, hz1, hz2⟩ := info_parts infoU8
  go_enter Try.func20, Try.ntmps20
  go_wp2_with fail
  refine (copyCheck_any β b l w h).mono ?_
  rintro e w1 ⟨rfl, hk1, hb, v, hbk, hown⟩
  have c0 : w1.cell? ⟨b, 0, none⟩ = some (.pointer (some ⟨b, 0, none⟩)) := by rw [Lib.cell_of_heap hbk]; rfl
  have c1 : w1.cell? ⟨b, 1, none⟩ = some v := by rw [Lib.cell_of_heap hbk]; rfl
  have hs1 := hk1.size
  go_wp2_with (at_builtin; refine wpList_append_own _ rfl _ _ 29 rfl β 5 i0 (.int .u8 0) 1 1 Try.underlying29 hi hz0 hz1 hz2 rfl (by decide) _ _ _ rfl (hown.alloc _) ⟨w1.heap.size, 0, none⟩ 1 1 [.int .u8 (c.toNat : Int)] rfl rfl (cell_one_new _ _ _) (by intro u hu; simp at hu; subst hu; rfl) (by unfold maxLen; omega) (by omega) (by simp; omega) ?_)
  intro v' w2 hown' hgrow _
  have hlt : b < w1.heap.size := (Array.getElem?_eq_some_iff.1 hbk).1
  have hb2 : w2.heap[b]? = some (.cells #[.pointer (some ⟨b, 0, none⟩), v] 34 (0, 0)) := by
    rw [hgrow.block b (by simp; omega) (fun e => by have := (hown.lt b e.symm).1; omega), Below.heap_alloc w1 _ b hlt]
    exact hbk
  have d0 : w2.cell? ⟨b, 0, none⟩ = some (.pointer (some ⟨b, 0, none⟩)) := by rw [Lib.cell_of_heap hb2]; rfl
  have d1 : w2.cell? ⟨b, 1, none⟩ = some v := by rw [Lib.cell_of_heap hb2]; rfl
  have f1 : w2.frozen? ⟨b, 1, none⟩ = false := Lib.frozen_of_heap hb2 1
  obtain ⟨g, cap, rfl⟩ : ∃ g cap, v' = .slice (some ⟨g, 0, none⟩) (l.length + 1) cap := by
    rcases hown'.2 with ⟨_, h0⟩ | ⟨g, cap, cur, hv, _⟩
    · omega
    · exact ⟨g, cap, hv⟩
  go_wp2
  go_ret
  refine ⟨rfl, ⟨hb, _, _, .inr rfl, by simp [World.setCell, Array.getElem?_modify, hb2]; rfl, ?_⟩, ?_⟩
  · have e : bv (l ++ [c]) = bv l ++ [.int .u8 (c.toNat : Int)] := by simp [bv]
    rw [e, List.length_append]
    exact hown'.kept (row := some b) (only_setCell (World.grownBy.refl _ _) (.inl rfl) _) (.inr fun e => by have := (hown'.lt b e).1; omega)
  · have k2 : Below β w1 w2 := ((Below.refl β w1).alloc (by omega) _).grown hgrow (by simp; omega) (fun k hk => (hown.lt k hk).1)
    exact (hk1.trans (KeptX.of_below k2)).setCell (p := ⟨b, 1, none⟩) (.inl rfl) _
end Go.Proofs.Ytafiadlkfjacnaa
