/-
  An argument that is an api.Change, opened. No condition of a claim stands here.
-/
import Derived.Test.YtnpaddakkniliaaDoorRowChange2
namespace Go.Proofs.YtnpaddakkniliaaDoor
open Go.ChangeShapes Go.WideShapes Go.ChangeAt Go.RowKit Go.Deep
set_option linter.unusedVariables false

theorem array5 {α : Type} {cs : Array α} (h : cs.size = 5) : ∃ c0 c1 c2 c3 c4, cs = #[c0, c1, c2, c3, c4] := by
  obtain ⟨l⟩ := cs
  match l, h with
  | [c0, c1, c2, c3, c4], _ => exact ⟨c0, c1, c2, c3, c4, rfl⟩
theorem open_chg {H : Type} {enc : TypeId × Value → H} {P : Program} {W : World} {base b0 : Nat} {r : Reach} {spare : Nat → Bool} {held : Bool} {t : TypeId} {f0 f1 f2 f3 f4 : Field} {v : Value} {d : DataW H} {ps : List MemPlace}
    (hs : P.underlying t = some (.struct #[f0, f1, f2, f3, f4])) (hone : oneCellFields P #[f0, f1, f2, f3, f4] = true) (hC : P.cellsOf t = 5)
    (h0 : P.underlying f0.type = some (.int .i64)) (h1 : P.underlying f1.type = some (.int .u8)) (h2 : P.underlying f2.type = some (.int .i64)) (h3 : P.underlying f3.type = some (.int .u8)) (h4 : P.underlying f4.type = some .bool)
    (hv : Value.okWide P W r b0 t v) (h : DataW.Trod enc P W base spare held t v d ps) : ∃ x : Chg, v = .agg #[.int .i64 x.who, .int .u8 (x.op.toNat : Int), .int .i64 x.bits, .int .u8 (x.copy.toNat : Int), .bool x.dirs] := by
  obtain ⟨cs, rfl, hsz⟩ := okWide_struct hs hv
  obtain ⟨c0, c1, c2, c3, c4, rfl⟩ := array5 (hsz.trans hC)
  obtain ⟨fuel, hf⟩ := h
  obtain ⟨ys, n, hn, hy, hlen, hyl, hff⟩ := DataW.trod_struct hs hf
  have hyl5 : ys.length = 5 := hyl
  have get : ∀ j (hj : j < 5), ∃ y, ys[j]? = some y := fun j hj => ⟨ys[j], List.getElem?_eq_getElem (by omega)⟩
  obtain ⟨o0, k0⟩ := hone_of hone 0 f0 rfl
  obtain ⟨o1, k1⟩ := hone_of hone 1 f1 rfl
  obtain ⟨o2, k2⟩ := hone_of hone 2 f2 rfl
  obtain ⟨o3, k3⟩ := hone_of hone 3 f3 rfl
  obtain ⟨o4, k4⟩ := hone_of hone 4 f4 rfl
  have t0 := hff 0 f0 rfl
  have t1 := hff 1 f1 rfl
  have t2 := hff 2 f2 rfl
  have t3 := hff 3 f3 rfl
  have t4 := hff 4 f4 rfl
  obtain ⟨y0, e0⟩ := get 0 (by omega)
  obtain ⟨y1, e1⟩ := get 1 (by omega)
  obtain ⟨y2, e2⟩ := get 2 (by omega)
  obtain ⟨y3, e3⟩ := get 3 (by omega)
  obtain ⟨y4, e4⟩ := get 4 (by omega)
  rw [o0, k0, e0] at t0
  rw [o1, k1, e1] at t1
  rw [o2, k2, e2] at t2
  rw [o3, k3, e3] at t3
  rw [o4, k4, e4] at t4
  obtain ⟨z0, hz0, _, _⟩ := DataW.trod_int h0 t0
  obtain ⟨z1, hz1, _, w1⟩ := DataW.trod_int h1 t1
  obtain ⟨z2, hz2, _, _⟩ := DataW.trod_int h2 t2
  obtain ⟨z3, hz3, _, w3⟩ := DataW.trod_int h3 t3
  obtain ⟨z4, hz4, _⟩ := DataW.trod_bool h4 t4
  simp [Value.cells] at hz0 hz1 hz2 hz3 hz4
  subst hz0 hz1 hz2 hz3 hz4
  obtain ⟨u1, rfl⟩ := u8_ofG w1
  obtain ⟨u3, rfl⟩ := u8_ofG w3
  exact ⟨⟨z0, u1, z2, u3, z4⟩, rfl⟩
end Go.Proofs.YtnpaddakkniliaaDoor
