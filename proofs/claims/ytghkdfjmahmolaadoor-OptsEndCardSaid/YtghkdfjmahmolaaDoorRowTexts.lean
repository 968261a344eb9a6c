/-
  An argument that is a slice of texts, opened as a list. No condition of a claim stands here.
-/
import Derived.Test.YtghkdfjmahmolaaDoorRowOpen
import Derived.Test.YtghkdfjmahmolaaDoorOptsNext
import Derived.Deep.Strs
namespace Go.Proofs.YtghkdfjmahmolaaDoor
open Go.ChangeShapes Go.WideShapes Go.ChangeAt Go.RowKit Go.Deep
set_option linter.unusedVariables false

theorem open_texts {H : Type} {enc : TypeId × Value → H} {P : Program} {W : World} {spare : Nat → Bool} {held : Bool} {t e : TypeId} {a : Option Addr} {len cap : Nat} {d : DataW H} {ps : List MemPlace} {ts : List TypeId} {ds : List (DataW H)} {j : Nat}
    (hsz : (DataW.weightsEach P ts ds).all (· ≤ reachBytes) = true) (ht : ts[j]? = some t) (hd : ds[j]? = some d) (hu : P.underlying t = some (.slice e)) (he : P.underlying e = some .string)
    (hC : P.cellsOf e = 1) (hB : P.bytesOf e = 16) (h : DataW.Trod enc P W 0 spare held t (.slice a len cap) d ps) :
    ∃ l : List (List UInt8), Reads W W.heap.size 1 a len (txv l) ∧ len * 16 ≤ 140737488351232 ∧ len ≤ cap ∧ ∀ k (hk : k < l.length), l[k].length ≤ 140737488351232 := by
  obtain ⟨fuel, hf⟩ := h
  rcases open_strs hu he hC hf with ⟨hcs, _⟩ | ⟨x, l', c', m, Sx, hcs, _, hle, hm, hmm, hx, hi⟩
  · simp [Value.cells] at hcs
    obtain ⟨rfl, rfl, rfl⟩ := hcs
    exact ⟨[], Reads.none_, by omega, by omega, fun k hk => by simp at hk⟩
  · simp [Value.cells] at hcs
    obtain ⟨rfl, rfl, rfl⟩ := hcs
    obtain ⟨hx, _⟩ := Prod.mk.inj hx
    have hlm : len ≤ m := by rw [hmm]; split <;> omega
    have hlen : ((List.range len).map fun i => (Sx i).data.toList).length = len := by simp
    have hget : ∀ k (hk : k < len), ((List.range len).map fun i => (Sx i).data.toList)[k]'(by rw [hlen]; exact hk) = (Sx k).data.toList := fun k hk => by simp
    refine ⟨(List.range len).map fun i => (Sx i).data.toList, ⟨by rw [txv_length, hlen]; omega, fun hp => ⟨x, rfl, ?_, fun k u hu2 => ?_⟩⟩, ?_, hle, fun k hk => ?_⟩
    · have hc := (hi 0 (by omega)).1
      have := block_lt_of_cell hc
      rwa [block_of_add] at this
    · have hk : k < len := by have := (List.getElem?_eq_some_iff.1 hu2).1; rw [txv_length, hlen] at this; exact this
      rw [txv_at _ k (by rw [hlen]; exact hk), hget k hk] at hu2
      injection hu2 with hu2
      rw [(hi k (by omega)).1, ← hu2, ← str_of]
    · have z := sized_slice hsz ht (by rw [hd, hx]) hu
      rw [hB] at z
      simp at z
      have hr : reachBytes = 140737488351232 := rfl
      rw [hr] at z
      omega
    · rw [hlen] at hk
      rw [hget k hk]
      have hmem : (.lit (.string (Sx k).data.toList) : DataW H) ∈ (List.range len).map fun i => (.lit (.string (Sx i).data.toList) : DataW H) := List.mem_map.2 ⟨k, List.mem_range.2 hk, rfl⟩
      have hwt : (Sx k).data.toList.length ∈ (.lit (.string (Sx k).data.toList) : DataW H).weights P e := by simp [DataW.weights]
      have := List.all_eq_true.1 hsz _ (DataW.weights_mem_each ht hd _ (by
        rw [hx]
        simp only [DataW.weights, hu]
        exact List.mem_cons_of_mem _ (List.mem_append.2 (.inl (mem_weightsAll hmem _ hwt)))))
      have hr : reachBytes = 140737488351232 := rfl
      rw [hr] at this
      exact of_decide_eq_true this
theorem open_texts2 {H : Type} {enc : TypeId × Value → H} {P : Program} {W : World} {spare : Nat → Bool} {held : Bool} {t e : TypeId} {a : Option Addr} {len cap : Nat} {d : DataW H} {ps : List MemPlace} {ts : List TypeId} {ds : List (DataW H)} {j : Nat}
    (hsz : (DataW.weightsEach P ts ds).all (· ≤ reachBytes) = true) (ht : ts[j]? = some t) (hd : ds[j]? = some d) (hu : P.underlying t = some (.slice e)) (he : P.underlying e = some .string)
    (hC : P.cellsOf e = 1) (hB : P.bytesOf e = 16) (h : DataW.Trod enc P W 0 spare held t (.slice a len cap) d ps) :
    ∃ l : List (List UInt8), Reads W W.heap.size 1 a len (txv l) ∧ len * 16 ≤ 140737488351232 ∧ len ≤ cap ∧ (∀ k (hk : k < l.length), l[k].length ≤ 140737488351232) ∧ (a = none → cap = 0) := by
  obtain ⟨fuel, hf⟩ := h
  rcases open_strs hu he hC hf with ⟨hcs, _⟩ | ⟨x, l', c', m, Sx, hcs, _, hle, hm, hmm, hx, hi⟩
  · simp [Value.cells] at hcs
    obtain ⟨rfl, rfl, rfl⟩ := hcs
    exact ⟨[], Reads.none_, by omega, by omega, fun k hk => by simp at hk, fun _ => rfl⟩
  · simp [Value.cells] at hcs
    obtain ⟨rfl, rfl, rfl⟩ := hcs
    obtain ⟨hx, _⟩ := Prod.mk.inj hx
    have hlm : len ≤ m := by rw [hmm]; split <;> omega
    have hlen : ((List.range len).map fun i => (Sx i).data.toList).length = len := by simp
    have hget : ∀ k (hk : k < len), ((List.range len).map fun i => (Sx i).data.toList)[k]'(by rw [hlen]; exact hk) = (Sx k).data.toList := fun k hk => by simp
    refine ⟨(List.range len).map fun i => (Sx i).data.toList, ⟨by rw [txv_length, hlen]; omega, fun hp => ⟨x, rfl, ?_, fun k u hu2 => ?_⟩⟩, ?_, hle, fun k hk => ?_, fun h => by cases h⟩
    · have hc := (hi 0 (by omega)).1
      have := block_lt_of_cell hc
      rwa [block_of_add] at this
    · have hk : k < len := by have := (List.getElem?_eq_some_iff.1 hu2).1; rw [txv_length, hlen] at this; exact this
      rw [txv_at _ k (by rw [hlen]; exact hk), hget k hk] at hu2
      injection hu2 with hu2
      rw [(hi k (by omega)).1, ← hu2, ← str_of]
    · have z := sized_slice hsz ht (by rw [hd, hx]) hu
      rw [hB] at z
      simp at z
      have hr : reachBytes = 140737488351232 := rfl
      rw [hr] at z
      omega
    · rw [hlen] at hk
      rw [hget k hk]
      have hmem : (.lit (.string (Sx k).data.toList) : DataW H) ∈ (List.range len).map fun i => (.lit (.string (Sx i).data.toList) : DataW H) := List.mem_map.2 ⟨k, List.mem_range.2 hk, rfl⟩
      have hwt : (Sx k).data.toList.length ∈ (.lit (.string (Sx k).data.toList) : DataW H).weights P e := by simp [DataW.weights]
      have := List.all_eq_true.1 hsz _ (DataW.weights_mem_each ht hd _ (by
        rw [hx]
        simp only [DataW.weights, hu]
        exact List.mem_cons_of_mem _ (List.mem_append.2 (.inl (mem_weightsAll hmem _ hwt)))))
      have hr : reachBytes = 140737488351232 := rfl
      rw [hr] at this
      exact of_decide_eq_true this
end Go.Proofs.YtghkdfjmahmolaaDoor
