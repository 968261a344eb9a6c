/-
  An argument that is a Plan, an array of two numbers of 16 bits, a number of 16 bits, opened. No condition of a claim stands here.
-/
import Derived.Test.YtiffmdfchibpaaaDoorRowOpen
import Derived.Test.YtiffmdfchibpaaaDoorBlkCheck
import Derived.Lib.SmallJoins
import Derived.Laws.IdiomArrays
namespace Go.Proofs.YtiffmdfchibpaaaDoor
open Go.ChangeShapes Go.WideShapes Go.ChangeAt Go.RowKit Go.Deep
set_option linter.unusedVariables false

theorem u16_of {a : Int} (h : (Lit.int .u16 a).wf = true) : ∃ x : Nat, a = (x : Int) ∧ x < 65536 := by
  have hmin : IntKind.u16.min = 0 := rfl
  have hmax : IntKind.u16.max = 65535 := rfl
  simp only [Lit.wf, Bool.and_eq_true, decide_eq_true_eq, hmin, hmax] at h
  exact ⟨a.toNat, by omega, by omega⟩
theorem list2 {α : Type} (l : List α) (h : (⟨l⟩ : Array α).size = 2) : ∃ a b, l = [a, b] := by
  match l, h with
  | [a, b], _ => exact ⟨a, b, rfl⟩
theorem trod_array2 {H : Type} {enc : TypeId × Value → H} {P : Program} {w : World} {base : Nat} {spare : Nat → Bool} {held : Bool} {t e : TypeId} {fuel : Nat} {c0 c1 : Value} {x : DataW H × List MemPlace} (ht : P.underlying t = some (.array 2 e)) (hce : P.cellsOf e = 1)
    (h : DataW.trod enc P w base spare held fuel t [c0, c1] = some x) :
    ∃ y0 y1 n, DataW.trod enc P w base spare held n e [c0] = some y0 ∧ DataW.trod enc P w base spare held n e [c1] = some y1 := by
  cases fuel with
  | zero => simp [DataW.trod] at h
  | succ n =>
    unfold DataW.trod at h
    rw [ht] at h
    have r2 : List.range 2 = [0, 1] := rfl
    simp [r2, hce] at h
    obtain ⟨_, h⟩ := h
    cases h0 : DataW.trod enc P w base spare held n e [c0] with
    | none => simp [h0] at h
    | some y0 =>
      cases h1 : DataW.trod enc P w base spare held n e [c1] with
      | none => simp [h0, h1] at h
      | some y1 => exact ⟨y0, y1, n, h0, h1⟩
theorem open_u16s {H : Type} {enc : TypeId × Value → H} {P : Program} {W : World} {r : Reach} {base b0 : Nat} {spare : Nat → Bool} {held : Bool} {t e : TypeId} {v : Value} {d : DataW H} {ps : List MemPlace}
    (hu : P.underlying t = some (.array 2 e)) (he : P.underlying e = some (.int .u16)) (hc : P.cellsOf t = 2) (hce : P.cellsOf e = 1) (hok : Value.okWide P W r b0 t v) (h : DataW.Trod enc P W base spare held t v d ps) :
    ∃ a b : Nat, v = .agg #[.int .u16 (a : Int), .int .u16 (b : Int)] ∧ a < 65536 ∧ b < 65536 := by
  obtain ⟨cs, rfl, hsz, _⟩ : ∃ cs, v = .agg cs ∧ cs.size = P.cellsOf t ∧ Row.okWide P W r b0 t cs := by
    simpa [Value.okWide, hu] using hok
  rw [hc] at hsz
  obtain ⟨l⟩ := cs
  obtain ⟨c0, c1, rfl⟩ := list2 l hsz
  obtain ⟨fuel, hf⟩ := h
  obtain ⟨y0, y1, m, hy0, hy1⟩ := trod_array2 hu hce hf
  obtain ⟨x0, e0, _, w0⟩ := DataW.trod_int he hy0
  obtain ⟨x1, e1, _, w1⟩ := DataW.trod_int he hy1
  simp at e0 e1
  subst e0 e1
  obtain ⟨d0, rfl, u0⟩ := u16_of w0
  obtain ⟨d1, rfl, u1⟩ := u16_of w1
  exact ⟨d0, d1, rfl, u0, u1⟩
theorem array10 {α : Type} {cs : Array α} (h : cs.size = 10) : ∃ c0 c1 c2 c3 c4 c5 c6 c7 c8 c9, cs = #[c0, c1, c2, c3, c4, c5, c6, c7, c8, c9] := by
  obtain ⟨l⟩ := cs
  match l, h with
  | [c0, c1, c2, c3, c4, c5, c6, c7, c8, c9], _ => exact ⟨c0, c1, c2, c3, c4, c5, c6, c7, c8, c9, rfl⟩
theorem open_plan {H : Type} {enc : TypeId × Value → H} {P : Program} {W : World} {base b0 : Nat} {r : Reach} {spare : Nat → Bool} {held : Bool} {t : TypeId} {f0 f1 f2 f3 f4 f5 f6 f7 f8 f9 : Field} {v : Value} {d : DataW H} {ps : List MemPlace}
    (hs : P.underlying t = some (.struct #[f0, f1, f2, f3, f4, f5, f6, f7, f8, f9])) (hone : oneCellFields P #[f0, f1, f2, f3, f4, f5, f6, f7, f8, f9] = true) (hC : P.cellsOf t = 10)
    (h0 : P.underlying f0.type = some (.int .i64)) (h1 : P.underlying f1.type = some (.int .i64)) (h2 : P.underlying f2.type = some (.int .i64)) (h3 : P.underlying f3.type = some (.int .i64)) (h4 : P.underlying f4.type = some (.int .i64)) (h5 : P.underlying f5.type = some .bool) (h6 : P.underlying f6.type = some .bool) (h7 : P.underlying f7.type = some .bool) (h8 : P.underlying f8.type = some .bool) (h9 : P.underlying f9.type = some .bool)
    (hv : Value.okWide P W r b0 t v) (h : DataW.Trod enc P W base spare held t v d ps) : ∃ x : PlanV, v = x.val := by
  obtain ⟨cs, rfl, hsz⟩ := okWide_struct hs hv
  obtain ⟨c0, c1, c2, c3, c4, c5, c6, c7, c8, c9, rfl⟩ := array10 (hsz.trans hC)
  obtain ⟨fuel, hf⟩ := h
  obtain ⟨ys, n, hn, hy, hlen, hyl, hff⟩ := DataW.trod_struct hs hf
  have hyl5 : ys.length = 10 := hyl
  have get : ∀ j (hj : j < 10), ∃ y, ys[j]? = some y := fun j hj => ⟨ys[j], List.getElem?_eq_getElem (by omega)⟩
  obtain ⟨o0, k0⟩ := hone_of hone 0 f0 rfl
  have t0 := hff 0 f0 rfl
  obtain ⟨y0, e0⟩ := get 0 (by omega)
  rw [o0, k0, e0] at t0
  obtain ⟨o1, k1⟩ := hone_of hone 1 f1 rfl
  have t1 := hff 1 f1 rfl
  obtain ⟨y1, e1⟩ := get 1 (by omega)
  rw [o1, k1, e1] at t1
  obtain ⟨o2, k2⟩ := hone_of hone 2 f2 rfl
  have t2 := hff 2 f2 rfl
  obtain ⟨y2, e2⟩ := get 2 (by omega)
  rw [o2, k2, e2] at t2
  obtain ⟨o3, k3⟩ := hone_of hone 3 f3 rfl
  have t3 := hff 3 f3 rfl
  obtain ⟨y3, e3⟩ := get 3 (by omega)
  rw [o3, k3, e3] at t3
  obtain ⟨o4, k4⟩ := hone_of hone 4 f4 rfl
  have t4 := hff 4 f4 rfl
  obtain ⟨y4, e4⟩ := get 4 (by omega)
  rw [o4, k4, e4] at t4
  obtain ⟨o5, k5⟩ := hone_of hone 5 f5 rfl
  have t5 := hff 5 f5 rfl
  obtain ⟨y5, e5⟩ := get 5 (by omega)
  rw [o5, k5, e5] at t5
  obtain ⟨o6, k6⟩ := hone_of hone 6 f6 rfl
  have t6 := hff 6 f6 rfl
  obtain ⟨y6, e6⟩ := get 6 (by omega)
  rw [o6, k6, e6] at t6
  obtain ⟨o7, k7⟩ := hone_of hone 7 f7 rfl
  have t7 := hff 7 f7 rfl
  obtain ⟨y7, e7⟩ := get 7 (by omega)
  rw [o7, k7, e7] at t7
  obtain ⟨o8, k8⟩ := hone_of hone 8 f8 rfl
  have t8 := hff 8 f8 rfl
  obtain ⟨y8, e8⟩ := get 8 (by omega)
  rw [o8, k8, e8] at t8
  obtain ⟨o9, k9⟩ := hone_of hone 9 f9 rfl
  have t9 := hff 9 f9 rfl
  obtain ⟨y9, e9⟩ := get 9 (by omega)
  rw [o9, k9, e9] at t9
  obtain ⟨z0, hz0, _, _⟩ := DataW.trod_int h0 t0
  obtain ⟨z1, hz1, _, _⟩ := DataW.trod_int h1 t1
  obtain ⟨z2, hz2, _, _⟩ := DataW.trod_int h2 t2
  obtain ⟨z3, hz3, _, _⟩ := DataW.trod_int h3 t3
  obtain ⟨z4, hz4, _, _⟩ := DataW.trod_int h4 t4
  obtain ⟨z5, hz5, _⟩ := DataW.trod_bool h5 t5
  obtain ⟨z6, hz6, _⟩ := DataW.trod_bool h6 t6
  obtain ⟨z7, hz7, _⟩ := DataW.trod_bool h7 t7
  obtain ⟨z8, hz8, _⟩ := DataW.trod_bool h8 t8
  obtain ⟨z9, hz9, _⟩ := DataW.trod_bool h9 t9
  simp [Value.cells] at hz0 hz1 hz2 hz3 hz4 hz5 hz6 hz7 hz8 hz9
  subst hz0 hz1 hz2 hz3 hz4 hz5 hz6 hz7 hz8 hz9
  exact ⟨⟨z0, z1, z2, z3, z4, z5, z6, z7, z8, z9⟩, rfl⟩
end Go.Proofs.YtiffmdfchibpaaaDoor
