/-
  An argument that is a slice of api.Range, opened as a list. No condition of a claim stands here.
-/
import Derived.Test.YtgibhlpocmppjaaDoorRowOpen
import Derived.Test.YtgibhlpocmppjaaDoorLstRanges
namespace Go.Proofs.YtgibhlpocmppjaaDoor
open Go.ChangeShapes Go.WideShapes Go.ChangeAt Go.RowKit Go.Deep
set_option linter.unusedVariables false

theorem open_rngs {H : Type} {enc : TypeId × Value → H} {P : Program} {W : World} {spare : Nat → Bool} {held : Bool} {t e : TypeId} {f0 f1 : Field} {a : Option Addr} {len cap : Nat} {d : DataW H} {ps : List MemPlace} {ts : List TypeId} {ds : List (DataW H)} {j : Nat}
    (hsz : (DataW.weightsEach P ts ds).all (· ≤ reachBytes) = true) (ht : ts[j]? = some t) (hd : ds[j]? = some d) (hu : P.underlying t = some (.slice e)) (he : P.underlying e = some (.struct #[f0, f1]))
    (hone : oneCellFields P #[f0, f1] = true) (hC : P.cellsOf e = 2) (hB : P.bytesOf e = 16) (h0 : P.underlying f0.type = some (.int .i64)) (h1 : P.underlying f1.type = some (.int .i64))
    (h : DataW.Trod enc P W 0 spare held t (.slice a len cap) d ps) : ∃ l : List Rng, Reads W W.heap.size 2 a len (rngv l) ∧ len * 16 ≤ 140737488351232 := by
  obtain ⟨fuel, hf⟩ := h
  rcases open_slice_fields hu he hone hC hf with ⟨hcs, _⟩ | ⟨x, l', c', m, D, Pl, hcs, _, hle, hm, hmm, hx, hi⟩
  · simp [Value.cells] at hcs
    obtain ⟨rfl, rfl, rfl⟩ := hcs
    exact ⟨[], Reads.none_, by omega⟩
  · simp [Value.cells] at hcs
    obtain ⟨rfl, rfl, rfl⟩ := hcs
    obtain ⟨hx, _⟩ := Prod.mk.inj hx
    have hlm : len ≤ m := by rw [hmm]; split <;> omega
    obtain ⟨l, hl, _, hr⟩ := list_of rng1 2 rng1_len (by decide) W x (fun _ => True) len (fun i hil => by
      obtain ⟨ys, n, hD, _, hlen, hfd⟩ := hi i (by omega)
      obtain ⟨v0, y0, hc0, hy0, ht0⟩ := hfd 0 f0 rfl
      obtain ⟨v1, y1, hc1, hy1, ht1⟩ := hfd 1 f1 rfl
      obtain ⟨z0, hz0, _, _⟩ := DataW.trod_int h0 ht0
      obtain ⟨z1, hz1, _, _⟩ := DataW.trod_int h1 ht1
      simp at hz0 hz1
      subst hz0 hz1
      refine ⟨⟨z0, z1⟩, trivial, fun j u hu => ?_⟩
      match j, hu with
      | 0, hu => cases hu; exact hc0
      | 1, hu => cases hu; exact hc1)
    refine ⟨l, hr, ?_⟩
    have z := sized_slice hsz ht (by rw [hd, hx]) hu
    rw [hB] at z
    simp at z
    have hr : reachBytes = 140737488351232 := rfl
    rw [hr] at z
    omega
end Go.Proofs.YtgibhlpocmppjaaDoor
