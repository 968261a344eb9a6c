/-
  An argument that is a slice of api.Change, opened as a list. No condition of a claim stands here.
-/
import Derived.Test.YtnpaddakkniliaaDoorRowOpen
import Derived.Test.YtnpaddakkniliaaDoorLstChanges
import Derived.Lib.SmallJoins
namespace Go.Proofs.YtnpaddakkniliaaDoor
open Go.ChangeShapes Go.WideShapes Go.ChangeAt Go.RowKit Go.Deep
set_option linter.unusedVariables false

theorem u8_ofG {a : Int} (h : (Lit.int .u8 a).wf = true) : ∃ x : UInt8, a = (x.toNat : Int) := by
  have hmin : IntKind.u8.min = 0 := rfl
  have hmax : IntKind.u8.max = 255 := rfl
  simp only [Lit.wf, Bool.and_eq_true, decide_eq_true_eq, hmin, hmax] at h
  refine ⟨UInt8.ofNat a.toNat, ?_⟩
  rw [show (UInt8.ofNat a.toNat).toNat = a.toNat from by simp; omega]
  omega

theorem open_changes2 {H : Type} {enc : TypeId × Value → H} {P : Program} {W : World} {spare : Nat → Bool} {held : Bool} {t e : TypeId} {f0 f1 f2 f3 f4 : Field} {a : Option Addr} {len cap : Nat} {d : DataW H} {ps : List MemPlace} {ts : List TypeId} {ds : List (DataW H)} {j : Nat}
    (hsz : (DataW.weightsEach P ts ds).all (· ≤ reachBytes) = true) (ht : ts[j]? = some t) (hd : ds[j]? = some d) (hu : P.underlying t = some (.slice e)) (he : P.underlying e = some (.struct #[f0, f1, f2, f3, f4]))
    (hone : oneCellFields P #[f0, f1, f2, f3, f4] = true) (hC : P.cellsOf e = 5) (hB : P.bytesOf e = 32) (h0 : P.underlying f0.type = some (.int .i64)) (h1 : P.underlying f1.type = some (.int .u8)) (h2 : P.underlying f2.type = some (.int .i64)) (h3 : P.underlying f3.type = some (.int .u8)) (h4 : P.underlying f4.type = some .bool)
    (h : DataW.Trod enc P W 0 spare held t (.slice a len cap) d ps) : ∃ l : List Chg, Reads W W.heap.size 5 a len (chgv l) ∧ len * 32 ≤ 140737488351232 ∧ (a = none → cap = 0) := by
  obtain ⟨fuel, hf⟩ := h
  rcases open_slice_fields hu he hone hC hf with ⟨hcs, _⟩ | ⟨x, l', c', m, D, Pl, hcs, _, hle, hm, hmm, hx, hi⟩
  · simp [Value.cells] at hcs
    obtain ⟨rfl, rfl, rfl⟩ := hcs
    exact ⟨[], Reads.none_, by omega, fun _ => rfl⟩
  · simp [Value.cells] at hcs
    obtain ⟨rfl, rfl, rfl⟩ := hcs
    obtain ⟨hx, _⟩ := Prod.mk.inj hx
    have hlm : len ≤ m := by rw [hmm]; split <;> omega
    obtain ⟨l, hl, _, hr⟩ := list_of chg1 5 chg1_len (by decide) W x (fun _ => True) len (fun i hil => by
      obtain ⟨ys, n, hD, _, hlen, hfd⟩ := hi i (by omega)
      obtain ⟨v0, y0, hc0, hy0, ht0⟩ := hfd 0 f0 rfl
      obtain ⟨v1, y1, hc1, hy1, ht1⟩ := hfd 1 f1 rfl
      obtain ⟨v2, y2, hc2, hy2, ht2⟩ := hfd 2 f2 rfl
      obtain ⟨v3, y3, hc3, hy3, ht3⟩ := hfd 3 f3 rfl
      obtain ⟨v4, y4, hc4, hy4, ht4⟩ := hfd 4 f4 rfl
      obtain ⟨z0, hz0, _, _⟩ := DataW.trod_int h0 ht0
      obtain ⟨z1, hz1, _, w1⟩ := DataW.trod_int h1 ht1
      obtain ⟨z2, hz2, _, _⟩ := DataW.trod_int h2 ht2
      obtain ⟨z3, hz3, _, w3⟩ := DataW.trod_int h3 ht3
      obtain ⟨z4, hz4, _⟩ := DataW.trod_bool h4 ht4
      simp at hz0 hz1 hz2 hz3 hz4
      subst hz0 hz1 hz2 hz3 hz4
      obtain ⟨u1, rfl⟩ := u8_ofG w1
      obtain ⟨u3, rfl⟩ := u8_ofG w3
      refine ⟨⟨z0, u1, z2, u3, z4⟩, trivial, fun j u hu => ?_⟩
      match j, hu with
      | 0, hu => cases hu; exact hc0
      | 1, hu => cases hu; exact hc1
      | 2, hu => cases hu; exact hc2
      | 3, hu => cases hu; exact hc3
      | 4, hu => cases hu; exact hc4)
    refine ⟨l, hr, ?_, fun h => by cases h⟩
    have z := sized_slice hsz ht (by rw [hd, hx]) hu
    rw [hB] at z
    simp at z
    have hr : reachBytes = 140737488351232 := rfl
    rw [hr] at z
    omega
end Go.Proofs.YtnpaddakkniliaaDoor
