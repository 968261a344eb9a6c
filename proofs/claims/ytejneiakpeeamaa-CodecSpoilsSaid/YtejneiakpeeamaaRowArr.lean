/-
  An argument that is an array of four bytes, and one that is a number of 16 bits, opened. No condition of a claim stands here.
-/
import Derived.Test.YtejneiakpeeamaaRowBits
import Derived.Laws.IdiomArrays
namespace Go.Proofs.Ytejneiakpeeamaa
open Go.ChangeShapes Go.WideShapes Go.ChangeAt Go.RowKit
set_option linter.unusedVariables false
theorem list4 {α : Type} (l : List α) (h : (⟨l⟩ : Array α).size = 4) : ∃ a b c d, l = [a, b, c, d] := by
  match l, h with
  | [a, b, c, d], _ => exact ⟨a, b, c, d, rfl⟩
theorem open_arr4 {H : Type} {enc : TypeId × Value → H} {P : Program} {W : World} {r : Reach} {base b0 : Nat} {spare : Nat → Bool} {held : Bool} {t e : TypeId} {v : Value} {d : DataW H} {ps : List MemPlace}
    (hu : P.underlying t = some (.array 4 e)) (he : P.underlying e = some (.int .u8)) (hc : P.cellsOf t = 4) (hce : P.cellsOf e = 1) (hok : Value.okWide P W r b0 t v) (h : DataW.Trod enc P W base spare held t v d ps) :
    ∃ d0 d1 d2 d3 : UInt8, v = .agg #[.int .u8 (d0.toNat : Int), .int .u8 (d1.toNat : Int), .int .u8 (d2.toNat : Int), .int .u8 (d3.toNat : Int)] := by
  obtain ⟨cs, rfl, hsz, _⟩ : ∃ cs, v = .agg cs ∧ cs.size = P.cellsOf t ∧ Row.okWide P W r b0 t cs := by
    simpa [Value.okWide, hu] using hok
  rw [hc] at hsz
  obtain ⟨l⟩ := cs
  obtain ⟨c0, c1, c2, c3, rfl⟩ := list4 l hsz
  obtain ⟨fuel, hf⟩ := h
  obtain ⟨y0, y1, y2, y3, m, hx, hy0, hy1, hy2, hy3⟩ := trod_array4 hu hce hf
  obtain ⟨x0, e0, _, w0⟩ := DataW.trod_int he hy0
  obtain ⟨x1, e1, _, w1⟩ := DataW.trod_int he hy1
  obtain ⟨x2, e2, _, w2⟩ := DataW.trod_int he hy2
  obtain ⟨x3, e3, _, w3⟩ := DataW.trod_int he hy3
  simp at e0 e1 e2 e3
  subst e0 e1 e2 e3
  obtain ⟨d0, rfl⟩ := byte_of w0
  obtain ⟨d1, rfl⟩ := byte_of w1
  obtain ⟨d2, rfl⟩ := byte_of w2
  obtain ⟨d3, rfl⟩ := byte_of w3
  exact ⟨d0, d1, d2, d3, rfl⟩
theorem u16_of {a : Int} (h : (Lit.int .u16 a).wf = true) : ∃ x : Nat, a = (x : Int) ∧ x < 65536 := by
  have hmin : IntKind.u16.min = 0 := rfl
  have hmax : IntKind.u16.max = 65535 := rfl
  simp only [Lit.wf, Bool.and_eq_true, decide_eq_true_eq, hmin, hmax] at h
  exact ⟨a.toNat, by omega, by omega⟩
end Go.Proofs.Ytejneiakpeeamaa
