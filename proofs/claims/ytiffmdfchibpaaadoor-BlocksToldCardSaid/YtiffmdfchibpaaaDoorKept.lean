/-
  What is kept by a function that writes one block and makes others. No program.
-/
import Derived.Test.YtiffmdfchibpaaaDoorBytes
namespace Go.Proofs.YtiffmdfchibpaaaDoor
open Go.RowKit

/-- What a write leaves: every block below β but b. -/
structure KeptX (β b : Nat) (w w' : World) : Prop where
  os : w'.os = w.os
  tape : w'.tape = w.tape
  output : w'.output = w.output
  size : w.heap.size ≤ w'.heap.size
  block : ∀ k, k < β → k ≠ b → w'.heap[k]? = w.heap[k]?
theorem KeptX.refl (β b : Nat) (w : World) : KeptX β b w w := ⟨rfl, rfl, rfl, Nat.le_refl _, fun _ _ _ => rfl⟩
theorem KeptX.trans {β b : Nat} {x y z : World} (h : KeptX β b x y) (k : KeptX β b y z) : KeptX β b x z :=
  ⟨k.os.trans h.os, k.tape.trans h.tape, k.output.trans h.output, Nat.le_trans h.size k.size, fun i hi hn => (k.block i hi hn).trans (h.block i hi hn)⟩
theorem KeptX.below {β b B : Nat} {w w' : World} (h : KeptX β b w w') (h1 : B ≤ b) (h2 : B ≤ β) : Below B w w' :=
  ⟨h.os, h.tape, h.output, h.size, fun k hk => h.block k (by omega) (by omega)⟩
theorem Buf.keptX {β b g n : Nat} {f : Nat → Value} {w w' : World} (h : Buf w g n f) (k : KeptX β b w w') (h1 : g < β) (h2 : g ≠ b) : Buf w' g n f := h.of_block (k.block g h1 h2)
theorem KeptX.of_below {β b : Nat} {w w' : World} (h : Below β w w') : KeptX β b w w' := ⟨h.os, h.tape, h.output, h.size, fun k hk _ => h.block k hk⟩
theorem KeptX.setCell {β b : Nat} {a w : World} (h : KeptX β b a w) {p : Addr} (hp : p.block = b ∨ β ≤ p.block) (u : Value) : KeptX β b a (w.setCell p u) :=
  ⟨h.os, h.tape, h.output, by simpa [World.setCell] using h.size, fun k hk hn => (Below.heap_setCell w p u k (by omega)).trans (h.block k hk hn)⟩
theorem ownsRow_mono {w : World} {base base' : Nat} {e : TypeId} {size n : Nat} {v : Value} {xs : List Value} (h : w.ownsRow base e size v n xs) (hb : base' ≤ base) : w.ownsRow base' e size v n xs := by
  refine ⟨h.1, ?_⟩
  rcases h.2 with h2 | ⟨g, cap, cur, hv, hg, r⟩
  · exact .inl h2
  · exact .inr ⟨g, cap, cur, hv, Nat.le_trans hb hg, r⟩
end Go.Proofs.YtiffmdfchibpaaaDoor
