/-
  strings.Builder's WriteString and Write: contracts.
-/
import Derived.Test.YtiffmdfchibpaaaDoorBuilder0
import Derived.Test.YtiffmdfchibpaaaDoorAppendStr
import Derived.Test.YtiffmdfchibpaaaDoorStr
namespace Go.Proofs.YtiffmdfchibpaaaDoor
open Go.RowKit

theorem strCells_str (l : List UInt8) : Lib.strCells (str l) = bv l := by
  simp [Lib.strCells, str, bv]
set_option maxHeartbeats 1000000 in
set_option maxRecDepth 100000 in
theorem writeString_any (β b : Nat) (l m : List UInt8) (w : World) (h : IsBd β b l w) (hlen : l.length + m.length ≤ 140737488355328) (hβ : β ≤ w.heap.size) :
    Calls Tryd.prog 16 #[.pointer (some ⟨b, 0, none⟩), .string (str m)] w fun e w' => (∃ v, e = .returned v) ∧ IsBd β b (l ++ m) w' ∧ KeptX β b w w' := by
  obtain ⟨i0, hi, hz0, hz1, hz2⟩ := info_parts infoU8
  have hsz := str_size m
  have hcl := strCells_str m
  go_enter Tryd.func16, Tryd.ntmps16
  go_wp2_with fail
  refine (copyCheck_any β b l w h).mono ?_
  rintro e w1 ⟨rfl, hk1, hb, v, hbk, hown⟩
  have c0 : w1.cell? ⟨b, 0, none⟩ = some (.pointer (some ⟨b, 0, none⟩)) := by rw [Lib.cell_of_heap hbk]; rfl
  have c1 : w1.cell? ⟨b, 1, none⟩ = some v := by rw [Lib.cell_of_heap hbk]; rfl
  have hs1 := hk1.size
  have HCL := Lib.hid hcl
  have HSZ := Lib.hid hsz
  clear hcl
  go_wp2_with (at_builtin; (refine wpList_append_str_at _ rfl _ _ 42 9 rfl β 5 i0 Tryd.underlying42 Tryd.underlying9 hi hz0 hz1 hz2 _ _ _ rfl hown (str m) rfl (by rw [HSZ.out]; unfold maxLen; omega) (by rw [HSZ.out]; omega) (by omega) ?_; intro v' w2 hown' hgrow _; rw [HCL.out, HSZ.out] at hown'; obtain ⟨A2, c2, rfl⟩ := own_slice hown'; have hb2 : w2.heap[b]? = some (.cells #[.pointer (some ⟨b, 0, none⟩), v] 50 (0, 0)) := (hgrow.block b (Array.getElem?_eq_some_iff.1 hbk).1 (fun e => by have := (hown.lt b e.symm).1; omega)).trans hbk; have d0 : w2.cell? ⟨b, 0, none⟩ = some (.pointer (some ⟨b, 0, none⟩)) := (by rw [Lib.cell_of_heap hb2]; rfl); have d1 : w2.cell? ⟨b, 1, none⟩ = some v := (by rw [Lib.cell_of_heap hb2]; rfl); have f1 : w2.frozen? ⟨b, 1, none⟩ = false := Lib.frozen_of_heap hb2 1))
  go_ret2
  refine ⟨⟨_, rfl⟩, ⟨hb, _, _, .inr rfl, by simp [World.setCell, Array.getElem?_modify, hb2]; rfl, ?_⟩, ?_⟩
  · rw [show bv (l ++ m) = bv l ++ bv m from by simp [bv], List.length_append]
    exact hown'.kept (row := some b) (only_setCell (World.grownBy.refl _ _) (.inl rfl) _) (by
      cases hv : (Value.slice A2 (l.length + m.length) c2).ownBlock with
      | none => exact .inl rfl
      | some q => exact .inr fun e => by have := (hown'.lt q hv).1; injection e with e; omega)
  · have k2 : Below β w1 w2 := (Below.refl β w1).grown hgrow (by omega) (fun k hk => (hown.lt k hk).1)
    exact (hk1.trans (KeptX.of_below k2)).setCell (p := ⟨b, 1, none⟩) (.inl rfl) _
set_option maxHeartbeats 1000000 in
set_option maxRecDepth 100000 in
theorem write_any (β b B : Nat) (l m : List UInt8) (A : Option Addr) (n c : Nat) (w : World) (h : IsBd β b l w) (hr : Reads w B 1 A n (bv m)) (hBb : B ≤ β) (hAb : ∀ ad, A = some ad → ad.block ≠ b) (hlen : l.length + n ≤ 140737488355328) (hβ : β ≤ w.heap.size) :
    Calls Tryd.prog 19 #[.pointer (some ⟨b, 0, none⟩), .slice A n c] w fun e w' => (∃ v, e = .returned v) ∧ IsBd β b (l ++ m) w' ∧ KeptX β b w w' := by
  obtain ⟨i0, hi, hz0, hz1, hz2⟩ := info_parts infoU8
  have hml : m.length = n := by have := hr.1; rw [bv_length] at this; omega
  go_enter Tryd.func19, Tryd.ntmps19
  go_wp2_with fail
  refine (copyCheck_any β b l w h).mono ?_
  rintro e w1 ⟨rfl, hk1, hb, v, hbk, hown⟩
  have hr1 : Reads w1 B 1 A n (bv m) := by
    refine ⟨hr.1, fun hn => ?_⟩
    obtain ⟨ad, e, hlt, hc⟩ := hr.2 hn
    exact ⟨ad, e, hlt, fun j u hu => (World.cell?_of_block (hk1.block (ad.add j).block (by rw [block_of_add]; omega) (by rw [block_of_add]; exact hAb ad e))).trans (hc j u hu)⟩
  have c0 : w1.cell? ⟨b, 0, none⟩ = some (.pointer (some ⟨b, 0, none⟩)) := by rw [Lib.cell_of_heap hbk]; rfl
  have c1 : w1.cell? ⟨b, 1, none⟩ = some v := by rw [Lib.cell_of_heap hbk]; rfl
  have hs1 := hk1.size
  have HML := Lib.hid hml
  clear hml
  go_wp2_with (at_builtin; (refine wpList_append_any _ rfl _ _ 42 rfl β 5 i0 (.int .u8 0) 1 1 Tryd.underlying42 hi hz0 hz1 hz2 rfl (by decide) _ _ _ rfl hown B A n c (bv m) rfl hr1 (bv_one m) (by unfold maxLen; omega) (by omega) (by omega) ?_; intro v' w2 hown' hgrow _; obtain ⟨A2, c2, rfl⟩ := own_slice hown'; have hb2 : w2.heap[b]? = some (.cells #[.pointer (some ⟨b, 0, none⟩), v] 50 (0, 0)) := (hgrow.block b (Array.getElem?_eq_some_iff.1 hbk).1 (fun e => by have := (hown.lt b e.symm).1; omega)).trans hbk; have d0 : w2.cell? ⟨b, 0, none⟩ = some (.pointer (some ⟨b, 0, none⟩)) := (by rw [Lib.cell_of_heap hb2]; rfl); have d1 : w2.cell? ⟨b, 1, none⟩ = some v := (by rw [Lib.cell_of_heap hb2]; rfl); have f1 : w2.frozen? ⟨b, 1, none⟩ = false := Lib.frozen_of_heap hb2 1))
  go_ret2
  refine ⟨⟨_, rfl⟩, ⟨hb, _, _, .inr rfl, by simp [World.setCell, Array.getElem?_modify, hb2]; rfl, ?_⟩, ?_⟩
  · rw [show bv (l ++ m) = bv l ++ bv m from by simp [bv], List.length_append, HML.out]
    exact hown'.kept (row := some b) (only_setCell (World.grownBy.refl _ _) (.inl rfl) _) (by
      cases hv : (Value.slice A2 (l.length + n) c2).ownBlock with
      | none => exact .inl rfl
      | some q => exact .inr fun e => by have := (hown'.lt q hv).1; injection e with e; omega)
  · have k2 : Below β w1 w2 := (Below.refl β w1).grown hgrow (by omega) (fun k hk => (hown.lt k hk).1)
    exact (hk1.trans (KeptX.of_below k2)).setCell (p := ⟨b, 1, none⟩) (.inl rfl) _
end Go.Proofs.YtiffmdfchibpaaaDoor
