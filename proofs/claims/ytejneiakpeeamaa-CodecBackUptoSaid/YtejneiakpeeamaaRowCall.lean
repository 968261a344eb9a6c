/-
  What the rows of the second form share: an argument that is a slice of bytes, or a call, opened; no more of it than its bulk. No condition of a claim stands here.
-/
import Derived.Test.YtejneiakpeeamaaRows
import Derived.Test.YtejneiakpeeamaaRowKit
import Derived.Test.YtejneiakpeeamaaRowBits
import Derived.Test.YtejneiakpeeamaaCodecBackWalk
import Derived.JoinedCond
namespace Go.Proofs.Ytejneiakpeeamaa
open Go.ChangeShapes Go.WideShapes Go.ChangeAt Go.RowKit
set_option linter.unusedVariables false

theorem bulk_one {H : Type} (d : DataW H) : 1 ≤ Rows.uptoBulk d := by
  cases d with
  | lit l => cases l <;> simp [Rows.uptoBulk]
  | nil => simp [Rows.uptoBulk]
  | ptr d => simp [Rows.uptoBulk]
  | slice elems spare => simp [Rows.uptoBulk]
  | agg parts => simp [Rows.uptoBulk]
  | iface t d => simp [Rows.uptoBulk]
  | map entries => simp [Rows.uptoBulk]
  | held h => simp [Rows.uptoBulk]
theorem bulk_length {H : Type} (l : List (DataW H)) : l.length ≤ Rows.uptoBulkAll l := by
  induction l with
  | nil => simp [Rows.uptoBulkAll]
  | cons x r ih => have := bulk_one x; simp only [Rows.uptoBulkAll, List.length_cons]; omega
theorem bulk_part {H : Type} {d : DataW H} {l : List (DataW H)} (h : d ∈ l) : Rows.uptoBulk d ≤ Rows.uptoBulkAll l := by
  induction l with
  | nil => cases h
  | cons x r ih =>
    simp only [Rows.uptoBulkAll]
    cases List.mem_cons.1 h with
    | inl e => subst e; omega
    | inr e => have := ih e; omega
theorem bulk_bound {H : Type} {l : List (DataW H)} (hk : Rows.uptoSmall H l = true) : Rows.uptoBulkAll l ≤ 1048576 := of_decide_eq_true hk
theorem open_bytes_bulk {H : Type} {enc : TypeId × Value → H} {P : Program} {W : World} {base : Nat} {spare : Nat → Bool} {held : Bool} {t e : TypeId} {fuel : Nat} {cs : List Value} {y : DataW H × List MemPlace}
    (hu : P.underlying t = some (.slice e)) (he : P.underlying e = some (.int .u8)) (hc : P.cellsOf e = 1) (hf : DataW.trod enc P W base spare held fuel t cs = some y) :
    ∃ (a : Option Addr) (len cap : Nat) (l : List UInt8), cs = [.slice a len cap] ∧ Reads W W.heap.size 1 a len (bv l) ∧ len ≤ Rows.uptoBulk y.1 := by
  rcases open_ints hu he hc hf with ⟨hcs, _⟩ | ⟨x, len, cap, zs, hcs, _, hl, hm, hz, hx, hcell, hwz⟩
  · exact ⟨none, 0, 0, [], hcs, Reads.none_, by omega⟩
  · have hl2 : len ≤ zs.length := by
      rw [hz]
      split
      · exact hl
      · exact Nat.le_refl _
    obtain ⟨bl, hbl, hbv⟩ := bv_of_ints (zs.take len) (fun n hn => hwz n (List.mem_of_mem_take hn))
    have hbn : bl.length = len := by rw [hbl, List.length_take]; omega
    refine ⟨some x, len, cap, bl, hcs, ⟨by rw [bv_length]; omega, fun hpos => ⟨x, rfl, ?_, fun k u hu => ?_⟩⟩, ?_⟩
    · have := block_lt_of_cell (hcell 0 (by omega))
      rwa [block_of_add] at this
    · rw [hbv, List.getElem?_map] at hu
      cases hk : (zs.take len)[k]? with
      | none => rw [hk] at hu; simp at hu
      | some y =>
        rw [hk] at hu
        simp at hu
        subst hu
        rw [List.getElem?_take] at hk
        split at hk
        · have hk' := (List.getElem?_eq_some_iff.1 hk).1
          rw [hcell k hk', List.getD_eq_getElem?_getD, hk]; rfl
        · simp at hk
    · rw [hx]
      simp only [Rows.uptoBulk]
      have := bulk_length (lits (H := H) .u8 (zs.take len))
      have e : (lits (H := H) .u8 (zs.take len)).length = len := by simp [lits]; omega
      omega
theorem open_bytes_arg {H : Type} {enc : TypeId × Value → H} {P : Program} {W : World} {base : Nat} {spare : Nat → Bool} {held : Bool} {t e : TypeId} {a : Option Addr} {len cap : Nat} {d : DataW H} {ps : List MemPlace}
    (hu : P.underlying t = some (.slice e)) (he : P.underlying e = some (.int .u8)) (hc : P.cellsOf e = 1) (h : DataW.Trod enc P W base spare held t (.slice a len cap) d ps) :
    ∃ l : List UInt8, Reads W W.heap.size 1 a len (bv l) ∧ len ≤ Rows.uptoBulk d := by
  obtain ⟨fuel, hf⟩ := h
  obtain ⟨a', len', cap', l, hcs, hr, hl⟩ := open_bytes_bulk hu he hc hf
  simp [Value.cells] at hcs
  obtain ⟨rfl, rfl, rfl⟩ := hcs
  exact ⟨l, hr, hl⟩
theorem i64_wf {z : Int} (h : (Lit.int .i64 z).wf = true) : isI64 z := by
  have hmin : IntKind.i64.min = -9223372036854775808 := rfl
  have hmax : IntKind.i64.max = 9223372036854775807 := rfl
  simp only [Lit.wf, Bool.and_eq_true, decide_eq_true_eq, hmin, hmax] at h
  exact h
theorem array12 {α : Type} {cs : Array α} (h : cs.size = 12) : ∃ c0 c1 c2 c3 c4 c5 c6 c7 c8 c9 c10 c11, cs = #[c0, c1, c2, c3, c4, c5, c6, c7, c8, c9, c10, c11] := by
  obtain ⟨l⟩ := cs
  match l, h with
  | [c0, c1, c2, c3, c4, c5, c6, c7, c8, c9, c10, c11], _ => exact ⟨c0, c1, c2, c3, c4, c5, c6, c7, c8, c9, c10, c11, rfl⟩
theorem trod_fld {H : Type} {enc : TypeId × Value → H} {P : Program} {W : World} {base n : Nat} {spare : Nat → Bool} {held : Bool} {fs : Array Field} {cs : List Value} {xs : List (DataW H × List MemPlace)}
    (hfd : ∀ (i : Nat) (f : Field), fs[i]? = some f → DataW.trod enc P W base spare held n f.type ((cs.drop f.offset).take (P.cellsOf f.type)) = xs[i]?) (i : Nat) (f : Field) (hf : fs[i]? = some f) (t : TypeId) (ht : f.type = t) (o : Nat) (ho : f.offset = o) (k : Nat) (hk : P.cellsOf t = k) (l : List Value) (hl : (cs.drop o).take k = l) :
    DataW.trod enc P W base spare held n t l = xs[i]? := by
  subst ht; subst ho; subst hk; subst hl
  exact hfd i f hf
set_option maxRecDepth 100000 in
theorem open_call {H : Type} {enc : TypeId × Value → H} {W : World} {r : Reach} {b0 base : Nat} {spare : Nat → Bool} {held : Bool} {v : Value} {d : DataW H} {ps : List MemPlace}
    (hv : Value.okWide Try.prog W r b0 33 v) (h : DataW.Trod enc Try.prog W base spare held 33 v d ps) :
    ∃ (x : CallV) (data : List UInt8), v = .agg (callC x) ∧ IntsOk x ∧ Reads W W.heap.size 1 x.A x.n (bv data) ∧ x.path.size ≤ Rows.uptoBulk d ∧ x.other.size ≤ Rows.uptoBulk d ∧ x.n ≤ Rows.uptoBulk d := by
  obtain ⟨cs, rfl, hsz⟩ := okWide_struct Try.underlying33 hv
  obtain ⟨c0, c1, c2, c3, c4, c5, c6, c7, c8, c9, c10, c11, rfl⟩ := array12 (hsz.trans (by kernel_rfl))
  obtain ⟨fuel, hf⟩ := h
  obtain ⟨xs, n, rfl, hx, _, hxl, hfd⟩ := DataW.trod_struct Try.underlying33 hf
  obtain ⟨y0, y1, y2, y3, y4, y5, y6, y7, y8, rfl⟩ : ∃ y0 y1 y2 y3 y4 y5 y6 y7 y8, xs = [y0, y1, y2, y3, y4, y5, y6, y7, y8] := by
    match xs, hxl with
    | [y0, y1, y2, y3, y4, y5, y6, y7, y8], _ => exact ⟨y0, y1, y2, y3, y4, y5, y6, y7, y8, rfl⟩
  have g0 := trod_fld hfd 0 _ rfl 29 rfl 0 rfl 1 (by kernel_rfl) [c0] rfl
  have g1 := trod_fld hfd 1 _ rfl 9 rfl 1 rfl 1 (by kernel_rfl) [c1] rfl
  have g2 := trod_fld hfd 2 _ rfl 9 rfl 2 rfl 1 (by kernel_rfl) [c2] rfl
  have g3 := trod_fld hfd 3 _ rfl 3 rfl 3 rfl 1 (by kernel_rfl) [c3] rfl
  have g4 := trod_fld hfd 4 _ rfl 3 rfl 4 rfl 1 (by kernel_rfl) [c4] rfl
  have g5 := trod_fld hfd 5 _ rfl 3 rfl 5 rfl 1 (by kernel_rfl) [c5] rfl
  have g6 := trod_fld hfd 6 _ rfl 3 rfl 6 rfl 1 (by kernel_rfl) [c6] rfl
  have g7 := trod_fld hfd 7 _ rfl 22 rfl 7 rfl 1 (by kernel_rfl) [c7] rfl
  have g8 := trod_fld hfd 8 _ rfl 31 rfl 8 rfl 4 (by kernel_rfl) [c8, c9, c10, c11] rfl
  simp only [List.getElem?_cons_zero, List.getElem?_cons_succ] at g0 g1 g2 g3 g4 g5 g6 g7 g8
  obtain ⟨z0, e0, _, w0⟩ := DataW.trod_int Try.underlying29 g0
  obtain ⟨s1, e1, p1, _⟩ := DataW.trod_string Try.underlying9 g1
  obtain ⟨s2, e2, p2, _⟩ := DataW.trod_string Try.underlying9 g2
  obtain ⟨z3, e3, _, w3⟩ := DataW.trod_int Try.underlying3 g3
  obtain ⟨z4, e4, _, w4⟩ := DataW.trod_int Try.underlying3 g4
  obtain ⟨z5, e5, _, w5⟩ := DataW.trod_int Try.underlying3 g5
  obtain ⟨z6, e6, _, w6⟩ := DataW.trod_int Try.underlying3 g6
  obtain ⟨a7, n7, k7, l7, e7, r7, b7⟩ := open_bytes_bulk Try.underlying22 Try.underlying5 (by kernel_rfl) g7
  obtain ⟨us, m, rfl, hu, _, hul, hfe⟩ := DataW.trod_struct Try.underlying31 g8
  obtain ⟨u0, u1, u2, u3, rfl⟩ : ∃ u0 u1 u2 u3, us = [u0, u1, u2, u3] := by
    match us, hul with
    | [u0, u1, u2, u3], _ => exact ⟨u0, u1, u2, u3, rfl⟩
  have v0 := trod_fld hfe 0 _ rfl 3 rfl 0 rfl 1 (by kernel_rfl) [c8] rfl
  have v1 := trod_fld hfe 1 _ rfl 3 rfl 1 rfl 1 (by kernel_rfl) [c9] rfl
  have v2 := trod_fld hfe 2 _ rfl 3 rfl 2 rfl 1 (by kernel_rfl) [c10] rfl
  have v3 := trod_fld hfe 3 _ rfl 3 rfl 3 rfl 1 (by kernel_rfl) [c11] rfl
  simp only [List.getElem?_cons_zero, List.getElem?_cons_succ] at v0 v1 v2 v3
  obtain ⟨x0, f0, _, q0⟩ := DataW.trod_int Try.underlying3 v0
  obtain ⟨x1, f1, _, q1⟩ := DataW.trod_int Try.underlying3 v1
  obtain ⟨x2, f2, _, q2⟩ := DataW.trod_int Try.underlying3 v2
  obtain ⟨x3, f3, _, q3⟩ := DataW.trod_int Try.underlying3 v3
  simp at e0 e1 e2 e3 e4 e5 e6 e7 f0 f1 f2 f3
  subst e0 e1 e2 e3 e4 e5 e6 e7 f0 f1 f2 f3
  obtain ⟨kd, rfl⟩ := byte_of w0
  simp only [Prod.mk.injEq] at hx
  obtain ⟨rfl, _⟩ := hx
  refine ⟨⟨kd, s1, s2, z3, z4, z5, z6, a7, n7, k7, x0, x1, x2, x3⟩, l7, rfl, ⟨i64_wf w3, i64_wf w4, i64_wf w5, i64_wf w6, i64_wf q0, i64_wf q1, i64_wf q2, i64_wf q3⟩, r7, ?_, ?_, ?_⟩
  · have h := bulk_part (d := y1.1) (l := [y0, y1, y2, y3, y4, y5, y6, y7, y8].map (·.1)) (by simp)
    have e : Rows.uptoBulk y1.1 = s1.size + 1 := by rw [p1]; simp only [Rows.uptoBulk, Array.length_toList]; rfl
    rw [e] at h
    show s1.size ≤ _
    rw [Rows.uptoBulk]
    omega
  · have h := bulk_part (d := y2.1) (l := [y0, y1, y2, y3, y4, y5, y6, y7, y8].map (·.1)) (by simp)
    have e : Rows.uptoBulk y2.1 = s2.size + 1 := by rw [p2]; simp only [Rows.uptoBulk, Array.length_toList]; rfl
    rw [e] at h
    show s2.size ≤ _
    rw [Rows.uptoBulk]
    omega
  · have h := bulk_part (d := y7.1) (l := [y0, y1, y2, y3, y4, y5, y6, y7, y8].map (·.1)) (by simp)
    simp only [Rows.uptoBulk] at h ⊢
    exact Nat.le_trans b7 (Nat.le_trans h (Nat.le_succ _))
end Go.Proofs.Ytejneiakpeeamaa
