/-
  An argument that is a slice of structs of one-cell fields, opened. No condition of a claim stands here. (First block: the guide's extra-structs page, as it bids.)
-/
import Derived.Test.YtiffmdfchibpaaaDoorBase
import Derived.Deep.Slices
import Derived.Deep.Fields
import Derived.ProofKit
import Derived.OpenShut
import Derived.ShutString
import Derived.ChangeOld
import Derived.SizedLaws
import Derived.ChangeSlices
namespace Go.Proofs.YtiffmdfchibpaaaDoor
open Go.ChangeShapes Go.WideShapes Go.ChangeAt Go.RowKit Go.Deep
set_option linter.unusedVariables false
section
variable {H : Type} {enc : TypeId × Value → H} {P : Program} {w : World} {base : Nat} {spare : Nat → Bool} {held : Bool}
theorem open_slice_fields {t e : TypeId} {fs : Array Field} {fuel : Nat} {cs : List Value} {x : DataW H × List MemPlace} (ht : P.underlying t = some (.slice e)) (he : P.underlying e = some (.struct fs))
    (hone : oneCellFields P fs = true) (hC : P.cellsOf e = fs.size) (h : DataW.trod enc P w base spare held fuel t cs = some x) :
    (cs = [.slice none 0 0] ∧ x = (.nil, [])) ∨
    ∃ (a : Addr) (len cap m : Nat) (D : Nat → DataW H) (Pl : Nat → List MemPlace), cs = [.slice (some a) len cap] ∧ base ≤ a.block ∧ len ≤ cap ∧ cap ≤ maxLen ∧ m = (if spare a.block then cap else len) ∧
      x = (.slice ((List.range len).map D) ((List.range (m - len)).map fun j => D (len + j)), MemPlace.row a (m * fs.size) ++ (List.range m).flatMap Pl) ∧
      ∀ i, i < m → ∃ (ys : List (DataW H × List MemPlace)) (n : Nat), D i = .agg (ys.map (·.1)) ∧ Pl i = ys.flatMap (·.2) ∧ ys.length = fs.size ∧
        ∀ (j : Nat) (f : Field), fs[j]? = some f → ∃ (v : Value) (y : DataW H × List MemPlace), w.cell? (a.add (i * fs.size + j)) = some v ∧ ys[j]? = some y ∧ DataW.trod enc P w base spare held n f.type [v] = some y := by
  rcases open_slice ht h with h0 | ⟨a, len, cap, m, n, D, Pl, hcs, hb, hl, hm, hmm, hx, hi⟩
  · exact .inl h0
  · refine .inr ⟨a, len, cap, m, D, Pl, hcs, hb, hl, hm, hmm, by rw [hC] at hx; exact hx, fun i him => ?_⟩
    obtain ⟨cs', hc, ht'⟩ := hi i him
    rw [hC] at hc
    obtain ⟨ys, n', hn', hy, hlen, hyl, hf⟩ := DataW.trod_struct he ht'
    obtain ⟨_, hcl, hat⟩ := World.cells?_some hc
    simp only [Prod.mk.injEq] at hy
    refine ⟨ys, n', hy.1, hy.2, hyl, fun j f hj => ?_⟩
    obtain ⟨ho, hk⟩ := hone_of hone j f hj
    have hjl : j < fs.size := (Array.getElem?_eq_some_iff.1 hj).1
    have hcell := hat j hjl
    have hv : cs'[j]? = some (cs'[j]'(by omega)) := List.getElem?_eq_getElem (by omega)
    have h1 := hf j f hj
    rw [ho, hk] at h1
    have hone' : (cs'.drop j).take 1 = [cs'[j]'(by omega)] := by
      rw [List.drop_eq_getElem_cons (by omega)]
      rfl
    rw [hone'] at h1
    have hys : ys[j]? = some (ys[j]'(by omega)) := List.getElem?_eq_getElem (by omega)
    refine ⟨_, _, ?_, hys, h1.trans hys⟩
    rw [← Go.Deep.add_add, hcell, hv]
end

theorem mem_weightsAll {H : Type} {P : Program} {e : TypeId} {d : DataW H} : ∀ {l : List (DataW H)}, d ∈ l → ∀ n ∈ d.weights P e, n ∈ DataW.weightsAll P e l
  | x :: l, hd, n, hn => by
    simp only [DataW.weightsAll, List.mem_append]
    rcases List.mem_cons.1 hd with rfl | hd
    · exact .inl hn
    · exact .inr (mem_weightsAll hd n hn)


/-- Elements that can each be read are a list that can be read. -/
theorem list_of {α : Type} (f : α → List Value) (k : Nat) (hf : ∀ x, (f x).length = k) (hk : 0 < k) (W : World) (x : Addr) (Pr : α → Prop) :
    ∀ len, (∀ i, i < len → ∃ y, Pr y ∧ ∀ j u, (f y)[j]? = some u → W.cell? (x.add (i * k + j)) = some u) →
      ∃ l : List α, l.length = len ∧ (∀ y ∈ l, Pr y) ∧ Reads W W.heap.size k (some x) len (sv f l) := by
  intro len
  induction len with
  | zero => exact fun _ => ⟨[], rfl, fun y hy => by simp at hy, ⟨by simp [sv], fun h => absurd h (by omega)⟩⟩
  | succ n ih =>
    intro h
    obtain ⟨l, hl, hp, hr⟩ := ih fun i hi => h i (by omega)
    obtain ⟨y, hy, hc⟩ := h n (by omega)
    have hfy : 0 < (f y).length := by rw [hf]; exact hk
    have hb : x.block < W.heap.size := by
      have h0 := hc 0 _ (List.getElem?_eq_getElem hfy)
      have := block_lt_of_cell h0
      rwa [block_of_add] at this
    refine ⟨l ++ [y], by simp [hl], fun z hz => ?_, ⟨by rw [sv_length f k hf]; simp [hl], fun _ => ⟨x, rfl, hb, fun j u hu => ?_⟩⟩⟩
    · rcases List.mem_append.1 hz with hz | hz
      · exact hp z hz
      · simp at hz; rw [hz]; exact hy
    · rw [sv_append] at hu
      have hsl : (sv f l).length = n * k := by rw [sv_length f k hf, hl]
      by_cases e : j < n * k
      · rw [List.getElem?_append_left (by omega)] at hu
        have hn : 0 < n := by
          rcases Nat.eq_zero_or_pos n with h0 | h0
          · rw [h0] at e; omega
          · exact h0
        obtain ⟨x', hx', _, hcell⟩ := hr.2 hn
        cases hx'
        exact hcell j u hu
      · rw [List.getElem?_append_right (by omega), hsl] at hu
        have hsy : sv f [y] = f y := by simp [sv]
        rw [hsy] at hu
        have := hc (j - n * k) u hu
        rwa [show n * k + (j - n * k) = j from by omega] at this
end Go.Proofs.YtiffmdfchibpaaaDoor
