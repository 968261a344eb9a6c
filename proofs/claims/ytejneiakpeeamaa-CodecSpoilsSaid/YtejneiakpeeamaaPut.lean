/-
  codec.Put: its contract.
-/
import Derived.Test.YtejneiakpeeamaaWText
namespace Go.Proofs.Ytejneiakpeeamaa
open Go.RowKit

/-- A call, as it lies. -/
structure CallV where
  kind : UInt8
  path : ByteArray
  other : ByteArray
  mode : Int
  user : Int
  group : Int
  time : Int
  A : Option Addr
  n : Nat
  c : Nat
  eu : Int
  eg : Int
  em : Int
  ed : Int
def callC (x : CallV) : Array Value := #[.int .u8 (x.kind.toNat : Int), .string x.path, .string x.other, .int .i64 x.mode, .int .i64 x.user, .int .i64 x.group, .int .i64 x.time, .slice x.A x.n x.c, .int .i64 x.eu, .int .i64 x.eg, .int .i64 x.em, .int .i64 x.ed]
def encT (s : List UInt8) : List UInt8 := leb 4 s.length ++ s
def encCall (x : CallV) (data : List UInt8) : List UInt8 :=
  [x.kind] ++ encT x.path.data.toList ++ encT x.other.data.toList ++ nums [x.mode, x.user, x.group, x.time] ++ encT data ++ nums [x.eu, x.eg, x.em, x.ed]
def callBad (x : CallV) : Bool := (decide (65536 < x.path.size) || decide (65536 < x.other.size)) || decide (65536 < x.n)
theorem infoCall : (Try.prog.info? 33).map (fun i => (i.size, i.bytes)) = some (12, 128) := by kernel_rfl

theorem WK.alloc {g : Nat} {r r' : Option Nat} {w w' : World} (h : WK g r w w' r') (o : Obj) : WK g r w (w'.alloc o) r' :=
  ⟨h.os, h.tape, h.output, by have := h.size; simp; omega, fun k hk hg hr => (Below.heap_alloc w' o k (Nat.lt_of_lt_of_le hk h.size)).trans (h.block k hk hg hr), h.row⟩
theorem IsW.alloc {r : Option Nat} {β g : Nat} {l : List UInt8} {bad : Bool} {w : World} (h : IsW r β g l bad w) (o : Obj) : IsW r β g l bad (w.alloc o) := by
  obtain ⟨v, hh, hown, hr, hne⟩ := h
  exact ⟨v, (Below.heap_alloc w o g (Array.getElem?_eq_some_iff.1 hh).1).trans hh, hown.alloc o, hr, hne⟩
theorem IsW.row_lt {r : Option Nat} {β g b : Nat} {l : List UInt8} {bad : Bool} {w : World} (h : IsW r β g l bad w) (hb : r = some b) : β ≤ b ∧ b < w.heap.size := by
  obtain ⟨v, hh, hown, hr, hne⟩ := h
  exact hown.lt b (hr.trans hb)
/-- Four numbers in a new block. -/
theorem ints_reads (w : World) (ns : List Int) (t : TypeId) (k : Nat) (hk : ns.length = k) : Reads (w.alloc (.cells (ns.map fun x => (.int .i64 x : Value)).toArray t)) (w.alloc (.cells (ns.map fun x => (.int .i64 x : Value)).toArray t)).heap.size 1 (some ⟨w.heap.size, 0, none⟩) k (ns.map fun x => (.int .i64 x : Value)) :=
  ⟨by simp [hk], fun _ => ⟨_, rfl, by simp, fun j x hx => by
    rw [Addr.add_lit, Nat.zero_add]
    simpa using hx⟩⟩

set_option maxHeartbeats 2000000 in
set_option maxRecDepth 100000 in
theorem put_any (x : CallV) (data : List UInt8) (w : World) (hr : Reads w w.heap.size 1 x.A x.n (bv data)) (h1 : x.path.size ≤ 1125899906842) (h2 : x.other.size ≤ 1125899906842) (h3 : x.n ≤ 1125899906842) :
    Calls Try.prog 13 #[.agg (callC x)] w fun e w' => (∃ v, e = .returned v ∧ DoneV w.heap.size (encCall x data) (callBad x) w' v) ∧ Below w.heap.size w w' := by
  obtain ⟨i0, hi, hz0, hz1, hz2⟩ := info_parts infoU8
  obtain ⟨iw, hiw, hw0, hw1, hw2⟩ := info_parts infoWriter
  obtain ⟨kind, path, other, mode, user, group, time, A, n, c, eu, eg, em, ed⟩ := x
  simp only [callC]
  go_enter Try.func13, Try.ntmps13
  go_wp2_with fail
  obtain ⟨w0, hw0e⟩ : ∃ w0, w0 = ((w.alloc (.cells (callC ⟨kind, path, other, mode, user, group, time, A, n, c, eu, eg, em, ed⟩) 33)).alloc (.cells #[.int .u8 (kind.toNat : Int)] 5)).alloc (.cells #[.slice (some ⟨w.heap.size + 1, 0, none⟩) 1 1, .bool false] 56) := ⟨_, rfl⟩
  have hsz0 : w0.heap.size = w.heap.size + 3 := by rw [hw0e]; simp
  have hBox : Blk w0 w.heap.size 33 (callC ⟨kind, path, other, mode, user, group, time, A, n, c, eu, eg, em, ed⟩) := by rw [hw0e]; exact ((Blk.new w _ _).alloc _).alloc _
  have hB0 : Below w.heap.size w w0 := by rw [hw0e]; exact (((Below.refl _ _).alloc (Nat.le_refl _) _).alloc (by simp) _).alloc (by simp; omega) _
  have hW0 : IsW (some (w.heap.size + 1)) w.heap.size (w.heap.size + 2) [kind] false w0 := by
    refine ⟨.slice (some ⟨w.heap.size + 1, 0, none⟩) 1 1, ?_, ?_, rfl, by intro h; injection h with h; omega⟩
    · rw [hw0e]
      have h := heap_alloc_new ((w.alloc (.cells (callC ⟨kind, path, other, mode, user, group, time, A, n, c, eu, eg, em, ed⟩) 33)).alloc (.cells #[.int .u8 (kind.toNat : Int)] 5)) (.cells #[.slice (some ⟨w.heap.size + 1, 0, none⟩) 1 1, .bool false] 56)
      simpa using h
    · rw [hw0e]
      refine World.ownsRow.alloc ?_ _
      refine ⟨rfl, .inr ⟨w.heap.size + 1, 1, #[.int .u8 (kind.toNat : Int)], rfl, by omega, ?_, Nat.le_refl _, by decide, rfl, rfl⟩⟩
      have h := heap_alloc_new (w.alloc (.cells (callC ⟨kind, path, other, mode, user, group, time, A, n, c, eu, eg, em, ed⟩) 33)) (.cells #[.int .u8 (kind.toNat : Int)] 5)
      simpa using h
  simp only [callC] at hw0e
  rw [← hw0e]
  clear hw0e
  have hkept : ∀ {wi : World} {ri : Option Nat}, WK (w.heap.size + 2) (some (w.heap.size + 1)) w0 wi ri → Blk wi w.heap.size 33 (callC ⟨kind, path, other, mode, user, group, time, A, n, c, eu, eg, em, ed⟩) := fun h =>
    (h.block w.heap.size (by omega) (by omega) (by intro e; injection e with e; omega)).trans hBox
  have HKEPT := Lib.hid (fun (wi : World) (ri : Option Nat) (h : WK (w.heap.size + 2) (some (w.heap.size + 1)) w0 wi ri) => hkept h)
  have HB0 := Lib.hid hB0
  clear hkept hBox hB0
  -- the path
  refine (wtext_any (some (w.heap.size + 1)) w.heap.size (w.heap.size + 2) [kind] false path w0 hW0 (by omega) (by simp; omega) (by omega)).mono ?_
  rintro e w1 ⟨rfl, r1, hW1, hK1⟩
  have hb1 := HKEPT.out w1 r1 hK1
  have q1 : w1.cell? ⟨w.heap.size, 2, none⟩ = some (.string other) := hb1.cell 2
  have hs1 := hK1.size
  clear hW0 hb1
  go_wp2_with fail
  -- the other
  refine (wtext_any r1 w.heap.size (w.heap.size + 2) _ _ other w1 hW1 (by omega) (by simp [leb_length]; omega) (by omega)).mono ?_
  rintro e w2 ⟨rfl, r2, hW2, hK2⟩
  have hk02 := hK1.trans hK2
  have hb2 := HKEPT.out w2 r2 hk02
  have q3 : w2.cell? ⟨w.heap.size, 3, none⟩ = some (.int .i64 mode) := hb2.cell 3
  have q4 : w2.cell? ⟨w.heap.size, 4, none⟩ = some (.int .i64 user) := hb2.cell 4
  have q5 : w2.cell? ⟨w.heap.size, 5, none⟩ = some (.int .i64 group) := hb2.cell 5
  have q6 : w2.cell? ⟨w.heap.size, 6, none⟩ = some (.int .i64 time) := hb2.cell 6
  have hs2 := hk02.size
  clear hW1 hb2 q1 hK1 hK2
  go_wp2_with fail
  have hA2 : ∀ ad : Addr, some (⟨w2.heap.size, 0, none⟩ : Addr) = some ad → ad.block ≠ w.heap.size + 2 ∧ some ad.block ≠ r2 := by
    intro ad h
    cases h
    refine ⟨by show w2.heap.size ≠ _; omega, fun h => ?_⟩
    have := (hW2.row_lt h.symm).2
    exact absurd this (Nat.lt_irrefl _)
  refine (wnumbers_any r2 w.heap.size (w.heap.size + 2) _ _ (some ⟨w2.heap.size, 0, none⟩) 4 4 [mode, user, group, time] _ (hW2.alloc _) (ints_reads w2 [mode, user, group, time] 3 4 rfl) hA2 (by omega) (by simp [leb_length]; omega) (by simp; omega)).mono ?_
  rintro e w3 ⟨rfl, r3, hW3, hK3⟩
  have hk03 := (hk02.alloc _).trans hK3
  have hb3 := HKEPT.out w3 r3 hk03
  have q7 : w3.cell? ⟨w.heap.size, 7, none⟩ = some (.slice A n c) := hb3.cell 7
  have hs3 := hk03.size
  have hB3 := HB0.out.trans (hk03.below (B := w.heap.size) (by omega) (by intro b hb; injection hb with hb; omega) (by omega))
  have hr3 := (hr.below hB3).more (B' := w3.heap.size) hB3.size
  clear hA2 hW2 hb3 q3 q4 q5 q6 hk02 hK3 hB3
  go_wp2_with (refine wpList_string_of_bytes _ rfl (.tmp 31) 22 9 5 rfl Try.underlying22 Try.underlying5 Try.underlying9 _ _ _ _ data rfl hr3 ?_)
  have hdl : data.length = n := by have := hr.1; simp [bv] at this; exact this
  have hds : (ByteArray.mk data.toArray).size = n := by show data.toArray.size = n; rw [List.size_toArray]; exact hdl
  have HDL := Lib.hid hdl
  have HDS := Lib.hid hds
  clear hr3 q7
  refine (wtext_any r3 w.heap.size (w.heap.size + 2) _ _ ⟨data.toArray⟩ w3 hW3 (by rw [HDS.out]; omega) (by rw [HDS.out]; simp [leb_length, nums_length]; omega) (by omega)).mono ?_
  rintro e w4 ⟨rfl, r4, hW4, hK4⟩
  clear hdl hds
  have hk04 := hk03.trans hK4
  have hb4 := HKEPT.out w4 r4 hk04
  have q8 : w4.cell? ⟨w.heap.size, 8, none⟩ = some (.int .i64 eu) := hb4.cell 8
  have q9 : w4.cell? ⟨w.heap.size, 9, none⟩ = some (.int .i64 eg) := hb4.cell 9
  have q10 : w4.cell? ⟨w.heap.size, 10, none⟩ = some (.int .i64 em) := hb4.cell 10
  have q11 : w4.cell? ⟨w.heap.size, 11, none⟩ = some (.int .i64 ed) := hb4.cell 11
  have hs4 := hk04.size
  clear hW3 hb4 hK4 hk03
  go_wp2_with fail
  have hA4 : ∀ ad : Addr, some (⟨w4.heap.size, 0, none⟩ : Addr) = some ad → ad.block ≠ w.heap.size + 2 ∧ some ad.block ≠ r4 := by
    intro ad h
    cases h
    refine ⟨by show w4.heap.size ≠ _; omega, fun h => ?_⟩
    have := (hW4.row_lt h.symm).2
    exact absurd this (Nat.lt_irrefl _)
  refine (wnumbers_any r4 w.heap.size (w.heap.size + 2) _ _ (some ⟨w4.heap.size, 0, none⟩) 4 4 [eu, eg, em, ed] _ (hW4.alloc _) (ints_reads w4 [eu, eg, em, ed] 3 4 rfl) hA4 (by omega) (by have := HDL.out; simp [leb_length, nums_length]; omega) (by simp; omega)).mono ?_
  rintro e w5 ⟨rfl, r5, hW5, hK5⟩
  have hk05 := (hk04.alloc _).trans hK5
  clear hA4 hW4 q8 q9 q10 q11 hK5
  go_wp2_with fail
  refine (wdone_any r5 w.heap.size (w.heap.size + 2) _ _ w5 hW5).mono ?_
  rintro e w' ⟨⟨v, rfl, hv⟩, rfl⟩
  have hfin : DoneV w.heap.size (encCall ⟨kind, path, other, mode, user, group, time, A, n, c, eu, eg, em, ed⟩ data) (callBad ⟨kind, path, other, mode, user, group, time, A, n, c, eu, eg, em, ed⟩) w5 v := by
    have e1 : callBad ⟨kind, path, other, mode, user, group, time, A, n, c, eu, eg, em, ed⟩ = (((false || decide (65536 < path.size)) || decide (65536 < other.size)) || decide (65536 < (ByteArray.mk data.toArray).size)) := by
      rw [HDS.out, Bool.false_or]; rfl
    rw [e1]
    have e2 : encCall ⟨kind, path, other, mode, user, group, time, A, n, c, eu, eg, em, ed⟩ data = (((([kind] ++ leb 4 path.size ++ path.data.toList) ++ leb 4 other.size ++ other.data.toList) ++ nums [mode, user, group, time]) ++ leb 4 (ByteArray.mk data.toArray).size ++ data) ++ nums [eu, eg, em, ed] := by
      unfold encCall encT
      have ep : path.data.toList.length = path.size := Array.length_toList
      have eo : other.data.toList.length = other.size := Array.length_toList
      have ed : (ByteArray.mk data.toArray).size = data.length := List.size_toArray
      simp only [ep, eo, ed, List.append_assoc]
    rw [e2]
    exact hv
  have hBf := HB0.out.trans (hk05.below (B := w.heap.size) (by omega) (by intro b hb; injection hb with hb; omega) (by omega))
  rcases hfin with ⟨hbad, rfl⟩ | ⟨hbad, A', c', rfl, hown⟩
  · clear hv
    go_wp2
    go_ret2
    exact ⟨⟨_, rfl, .inl ⟨hbad, rfl⟩⟩, hBf⟩
  · clear hv
    go_wp2
    go_ret2
    exact ⟨⟨_, rfl, .inr ⟨hbad, A', c', rfl, hown⟩⟩, hBf⟩
end Go.Proofs.Ytejneiakpeeamaa
