/-
  An argument that is a slice of flags, opened as a list. No condition of a claim stands here. (First block: the guide's extra-structs page, as it bids.)
-/
import Derived.Test.YtghkdfjmahmolaaDoorFlag1
import Derived.Test.YtghkdfjmahmolaaDoorRowOpen
import Derived.Deep.Slices
import Derived.Deep.Fields
import Derived.ProofKit
import Derived.OpenShut
import Derived.ShutString
import Derived.ChangeOld
import Derived.SizedLaws
import Derived.ChangeSlices
namespace Go.Proofs.YtghkdfjmahmolaaDoor
open Go.ChangeShapes Go.WideShapes Go.ChangeAt Go.RowKit Go.Deep
set_option linter.unusedVariables false
theorem open_flags2 {H : Type} {enc : TypeId × Value → H} {P : Program} {W : World} {spare : Nat → Bool} {held : Bool} {t e tl ta : TypeId} {f0 f1 : Field} {a : Option Addr} {len cap : Nat} {d : DataW H} {ps : List MemPlace} {ts : List TypeId} {ds : List (DataW H)} {j : Nat}
    (hsz : (DataW.weightsEach P ts ds).all (· ≤ reachBytes) = true) (ht : ts[j]? = some t) (hd : ds[j]? = some d) (hu : P.underlying t = some (.slice e)) (he : P.underlying e = some (.struct #[f0, f1]))
    (hone : oneCellFields P #[f0, f1] = true) (hC : P.cellsOf e = 2) (hB : P.bytesOf e = 24) (h0 : f0.type = tl) (h1 : f1.type = ta) (hl : P.underlying tl = some (.int .u8)) (ha : P.underlying ta = some .string)
    (h : DataW.Trod enc P W 0 spare held t (.slice a len cap) d ps) : ∃ l : List Flag2, Reads W W.heap.size 2 a len (fv l) ∧ len * 24 ≤ 140737488351232 ∧ (∀ k (hk : k < l.length), (l[k]).2.size ≤ 140737488351232) ∧ (a = none → cap = 0) := by
  obtain ⟨fuel, hf⟩ := h
  rcases open_slice_fields hu he hone hC hf with ⟨hcs, _⟩ | ⟨x, l', c', m, D, Pl, hcs, _, hle, hm, hmm, hx, hi⟩
  · simp [Value.cells] at hcs
    obtain ⟨rfl, rfl, rfl⟩ := hcs
    exact ⟨[], Reads.none_, by omega, fun k hk => by simp at hk, fun _ => rfl⟩
  · simp [Value.cells] at hcs
    obtain ⟨rfl, rfl, rfl⟩ := hcs
    obtain ⟨hx, _⟩ := Prod.mk.inj hx
    have hlm : len ≤ m := by rw [hmm]; split <;> omega
    -- each element: its two cells, and its text's size
    have hel : ∀ i, i < len → ∃ y : Flag2, W.cell? (x.add (i * 2)) = some (.int .u8 (y.1.toNat : Int)) ∧ W.cell? (x.add (i * 2 + 1)) = some (.string y.2) ∧ y.2.size ≤ 140737488351232 := by
      intro i hil
      obtain ⟨ys, n, hD, _, hlen, hfd⟩ := hi i (by omega)
      obtain ⟨v0, y0, hc0, hy0, ht0⟩ := hfd 0 f0 rfl
      obtain ⟨v1, y1, hc1, hy1, ht1⟩ := hfd 1 f1 rfl
      rw [h0] at ht0
      rw [h1] at ht1
      obtain ⟨z, hz, _, hw⟩ := DataW.trod_int hl ht0
      obtain ⟨s, hs, hys, _⟩ := DataW.trod_string ha ht1
      simp at hz hs
      subst hz hs
      have hw' : 0 ≤ z ∧ z ≤ 255 := by
        have hmin : IntKind.u8.min = 0 := rfl
        have hmax : IntKind.u8.max = 255 := rfl
        simpa only [Lit.wf, Bool.and_eq_true, decide_eq_true_eq, hmin, hmax] using hw
      refine ⟨(UInt8.ofNat z.toNat, s), ?_, hc1, ?_⟩
      · show W.cell? (x.add (i * 2 + 0)) = _
        have hc0' : W.cell? (x.add (i * 2 + 0)) = some (.int .u8 z) := hc0
        rw [hc0', show (UInt8.ofNat z.toNat).toNat = z.toNat from by simp; omega, show ((z.toNat : Nat) : Int) = z from by omega]
      · have hmem : D i ∈ (List.range len).map D := List.mem_map.2 ⟨i, List.mem_range.2 hil, rfl⟩
        have hwt : s.data.toList.length ∈ (D i).weights P e := by
          rw [hD]
          simp only [DataW.weights, he]
          refine DataW.weights_mem_each (j := 1) (t := f1.type) (d := y1.1) rfl (by rw [List.getElem?_map, hy1]; rfl) _ ?_
          rw [hys]
          simp [DataW.weights]
        have := List.all_eq_true.1 hsz _ (DataW.weights_mem_each ht hd _ (by
          rw [hx]
          simp only [DataW.weights, hu]
          exact List.mem_cons_of_mem _ (List.mem_append.2 (.inl (mem_weightsAll hmem _ hwt)))))
        have hr : reachBytes = 140737488351232 := rfl
        simp at this
        have e2 : s.size = s.data.size := rfl
        show s.size ≤ _
        omega
    have hbx : 0 < len → x.block < W.heap.size := fun hp => by
      obtain ⟨y, hy, _⟩ := hel 0 hp
      have := block_lt_of_cell hy
      rwa [block_of_add] at this
    have hbuild : ∀ k, k ≤ len → ∃ l : List Flag2, l.length = k ∧ ∀ i (hi : i < l.length), W.cell? (x.add (i * 2)) = some (.int .u8 ((l[i]).1.toNat : Int)) ∧ W.cell? (x.add (i * 2 + 1)) = some (.string (l[i]).2) ∧ (l[i]).2.size ≤ 140737488351232 := by
      intro k
      induction k with
      | zero => exact fun _ => ⟨[], rfl, fun i hi => by simp at hi⟩
      | succ k ih =>
        intro hk
        obtain ⟨l, hl1, hl2⟩ := ih (by omega)
        obtain ⟨y, hy⟩ := hel k (by omega)
        refine ⟨l ++ [y], by simp [hl1], fun i hi => ?_⟩
        by_cases e : i < l.length
        · simp only [List.getElem_append_left e]; exact hl2 i e
        · have : i = l.length := by simp at hi; omega
          subst this
          simp only [List.getElem_concat_length]
          rw [hl1]; exact hy
    obtain ⟨l, hl1, hl2⟩ := hbuild len (Nat.le_refl _)
    refine ⟨l, ⟨by rw [fv_length, hl1], fun hp => ⟨x, rfl, hbx hp, fun k u hu => ?_⟩⟩, ?_, fun k hk => (hl2 k hk).2.2, fun h => by cases h⟩
    · have hk : k < l.length * 2 := by have := (List.getElem?_eq_some_iff.1 hu).1; rw [fv_length] at this; exact this
      rcases Nat.mod_two_eq_zero_or_one k with h2 | h2
      · obtain ⟨i, rfl⟩ : ∃ i, k = i * 2 := ⟨k / 2, by omega⟩
        rw [fv_get0 l i (by omega)] at hu
        rw [(hl2 i (by omega)).1]; exact hu
      · obtain ⟨i, rfl⟩ : ∃ i, k = i * 2 + 1 := ⟨k / 2, by omega⟩
        rw [fv_get1 l i (by omega)] at hu
        rw [(hl2 i (by omega)).2.1]; exact hu
    · have z := sized_slice hsz ht (by rw [hd, hx]) hu
      rw [hB] at z
      simp at z
      have hr : reachBytes = 140737488351232 := rfl
      rw [hr] at z
      omega
end Go.Proofs.YtghkdfjmahmolaaDoor
