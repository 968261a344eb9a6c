/-
  What the rows' last steps share: an argument that is a slice of bytes, opened as a list of bytes. No condition of a claim stands here.
-/
import Derived.Test.YtghkdfjmahmolaaDoorBytes
import Derived.ProofKit
import Derived.OpenShut
import Derived.ShutString
import Derived.ChangeOld
import Derived.Below
import Derived.SizedLaws
import Derived.ChangeSlices
namespace Go.Proofs.YtghkdfjmahmolaaDoor
open Go.ChangeShapes Go.WideShapes Go.ChangeAt Go.RowKit
set_option linter.unusedVariables false

theorem bv_of_ints (zs : List Int) (h : ∀ n ∈ zs, (Lit.int .u8 n).wf = true) : ∃ l : List UInt8, l.length = zs.length ∧ bv l = zs.map (Value.int .u8) := by
  refine ⟨zs.map fun n => UInt8.ofNat n.toNat, by simp, ?_⟩
  unfold bv
  rw [List.map_map]
  refine List.map_congr_left fun n hn => ?_
  have hw := h n hn
  have hmin : IntKind.u8.min = 0 := rfl
  have hmax : IntKind.u8.max = 255 := rfl
  simp only [Lit.wf, Bool.and_eq_true, decide_eq_true_eq, hmin, hmax] at hw
  show Value.int .u8 (((UInt8.ofNat n.toNat).toNat : Nat) : Int) = _
  rw [show (UInt8.ofNat n.toNat).toNat = n.toNat from by simp; omega, show ((n.toNat : Nat) : Int) = n from by omega]

theorem open_bytes {H : Type} {enc : TypeId × Value → H} {P : Program} {W : World} {base : Nat} {spare : Nat → Bool} {held : Bool} {t e : TypeId} {a : Option Addr} {len cap : Nat} {d : DataW H} {ps : List MemPlace} {ts : List TypeId} {ds : List (DataW H)} {j : Nat}
    (hsz : (DataW.weightsEach P ts ds).all (· ≤ reachBytes) = true) (ht : ts[j]? = some t) (hd : ds[j]? = some d) (hu : P.underlying t = some (.slice e)) (he : P.underlying e = some (.int .u8)) (hc : P.cellsOf e = 1) (hB : P.bytesOf e = 1)
    (h : DataW.Trod enc P W base spare held t (.slice a len cap) d ps) : ∃ l : List UInt8, Reads W W.heap.size 1 a len (bv l) ∧ len ≤ 140737488351232 := by
  obtain ⟨fuel, hf⟩ := h
  rcases open_ints hu he hc hf with ⟨hcs, _⟩ | ⟨x, l, c, zs, hcs, _, hl, hm, hz, hx, hcell, hwz⟩
  · simp [Value.cells] at hcs
    obtain ⟨rfl, rfl, rfl⟩ := hcs
    exact ⟨[], Reads.none_, by omega⟩
  · simp [Value.cells] at hcs
    obtain ⟨rfl, rfl, rfl⟩ := hcs
    obtain ⟨hx, _⟩ := Prod.mk.inj hx
    subst hx
    have z := sized_slice hsz ht hd hu
    rw [hB] at z
    have hl2 : len ≤ zs.length := by
      rw [hz]
      split
      · exact hl
      · exact Nat.le_refl _
    have h1 : (lits (H := H) .u8 (zs.take len)).length + (lits (H := H) .u8 (zs.drop len)).length = zs.length := by
      simp [lits]
      omega
    rw [h1] at z
    obtain ⟨bl, hbl, hbv⟩ := bv_of_ints (zs.take len) (fun n hn => hwz n (List.mem_of_mem_take hn))
    have hbn : bl.length = len := by rw [hbl, List.length_take]; omega
    refine ⟨bl, ⟨by rw [bv_length]; omega, fun hpos => ⟨x, rfl, ?_, fun k u hu => ?_⟩⟩, ?_⟩
    · have := block_lt_of_cell (hcell 0 (by omega))
      rwa [block_of_add] at this
    · rw [hbv, List.getElem?_map] at hu
      cases hk : (zs.take len)[k]? with
      | none => rw [hk] at hu; simp at hu
      | some y =>
        rw [hk] at hu
        simp at hu
        subst hu
        rw [List.getElem?_take] at hk
        split at hk
        · have hk' := (List.getElem?_eq_some_iff.1 hk).1
          rw [hcell k hk', List.getD_eq_getElem?_getD, hk]; rfl
        · simp at hk
    · have : reachBytes = 140737488351232 := rfl
      omega
end Go.Proofs.YtghkdfjmahmolaaDoor
