/-
  A range over a function whose iterator hands rows of its own: the statement's law, the body never left early. (Over the kit's laws of the statement and of a round.)
-/
import Derived.Test.YtiffmdfchibpaaaDoorBlkIter
set_option linter.unusedVariables false
set_option linter.unusedSimpArgs false
namespace Go.Proofs.YtiffmdfchibpaaaDoor
open Go.RowKit Go.Shelf

theorem keep_put {b l : Nat} (W : World) (o : Obj) (h : b < l) : KeepB b W (W.putObj l o) :=
  ⟨by simp, World.putObj_heap_other (by omega)⟩
theorem Handed.put {tot : List (List UInt8)} {base k l : Nat} {s s' : List (List UInt8)} {args : Array Value} {W : World} {r : Loop} (o : Obj) (h : Handed tot base k s s' args W) (hl : W.heap[l]? = some (.loop r)) : Handed tot base k s s' args (W.putObj l o) := by
  obtain ⟨x, t, g, cap, e1, e2, e3, hb, r1, r2, r3, r4, r5, r6⟩ := h
  have hne : g ≠ l := by
    obtain ⟨c, t, lo, hh, hc, _⟩ := hb
    intro e
    rw [e, hl] at hc
    injection hc with hc
    cases hc
  exact ⟨x, t, g, cap, e1, e2, e3, Buf.of_block hb (World.putObj_heap_other hne), r1, r2, r3, r4, r5, fun c t => by rw [World.putObj_heap_other hne]; exact r6 c t⟩
/-- The loop's record. -/
def recV (fn : FuncId) (tmps : Array Value) (ps : Array Tmp) (assign body : Code) (D : Nat) (st : LoopState) : Obj := .loop { state := st, pending := none, fn := fn, tmps := tmps, params := ps, assign := assign, body := body, defers := D }
theorem rangeFunc_gives {n : Nat} {P : Program} {g : Operand} {ps : Array Tmp} {assign body : Code} {Q : Exit → Act → World → Prop} {a : Act} {w : World} {gf : Nat} {lb : Array Value}
    (hg : a.eval g = .func (.func gf) #[] lb) (eg : ∀ args w, (callFunc gf args).run P w = .ok (.enter gf args) w)
    {tot : List (List UInt8)} {base k b : Nat} (hb : b < w.heap.size) (hit : Gives n P gf lb tot base k b w) (hps : ps.size = 1)
    (J : List (List UInt8) → World → Prop) (hJ : OwnFrom w.heap.size J) (h0 : J [] w)
    (hround : ∀ (l : Nat) (s s' : List (List UInt8)) (args : Array Value) (W : World), J s W → Handed tot base k s s' args W →
      ∃ a₁ : Act, (∀ K : Act → World → Prop, K a₁ W → assign.wpIn (Fence.wide.inRound l) (n - 1) P (Exit.then K (fun _ _ _ => False))
        { tmps := (ps.zip args).foldl (fun t (p, v) => t.setIfInBounds p v) a.tmps, defers := [] } W) ∧
        ∀ W₂ : World, J s W₂ → Handed tot base k s s' args W₂ → body.wpIn (Fence.wide.inRound l) (n - 1) P (fun e _ W' => e = .normal ∧ KeepsFrom w.heap.size W₂ W' ∧ J s' W' ∧ KeepB b W₂ W') a₁ W₂)
    (hdone : ∀ (D : Nat) (W : World), w.heap.size ≤ D → J tot W → W.heap[D]? = some (.deferred (some [])) → Q .normal { a with defers := { target := .collected D, args := #[] } :: a.defers } W) :
    (Code.rangeFunc g ps assign body).wp P Q a w := by
  refine (wpIn_wide (n := n + 1)).1 (wpIn_rangeFunc fun fn hfn => ?_)
  obtain ⟨W1, hW1⟩ : ∃ W1, W1 = (w.alloc (.deferred (some []))).alloc (recV fn a.tmps ps assign body w.heap.size .ready) := ⟨_, rfl⟩
  have hs1 : W1.heap.size = w.heap.size + 2 := by rw [hW1]; simp
  have hrec : W1.heap[w.heap.size + 1]? = some (recV fn a.tmps ps assign body w.heap.size .ready) := by
    have := World.alloc_heap_new (w.alloc (.deferred (some []))) (recV fn a.tmps ps assign body w.heap.size .ready)
    rw [World.size_alloc] at this
    rw [hW1]; exact this
  have hdef : W1.heap[w.heap.size]? = some (.deferred (some [])) := by
    rw [hW1]; exact (Below.heap_alloc _ _ _ (by simp)).trans (World.alloc_heap_new w _)
  have hB1 : Below w.heap.size w W1 := by rw [hW1]; exact ((Below.refl _ w).alloc (Nat.le_refl _) _).alloc (by simp) _
  have hJ1 : J [] W1 := by rw [hW1]; exact hJ.alloc _ (hJ.alloc _ h0)
  refine ⟨w.heap.size + 1, [{ target := .collected w.heap.size, args := #[] }], W1, { target := .fn (.func gf) lb, args := #[.func (.yield (w.heap.size + 1)) #[] #[]] }, W1, gf, #[.func (.yield (w.heap.size + 1)) #[] #[]] ++ lb, W1, ?_, ?_, fun f' hf' => trivial, ?_, fun h => (by cases h), ?_⟩
  · rw [hW1]; exact run_enterLoop_outer _ _ _ _ _
  · simp only [resolve, hg]
    simp [go_sem]
  · simp [invoke, go_sem, eg]
  have hcall := hit (w.heap.size + 1) (fun s W => J s W ∧ W.heap[w.heap.size + 1]? = some (recV fn a.tmps ps assign body w.heap.size .ready) ∧ W.heap[w.heap.size]? = some (.deferred (some []))) W1 hB1 ?_ ?_ ⟨hJ1, hrec, hdef⟩
  · refine hcall.mono ?_
    rintro e W ⟨⟨v, rfl⟩, hj, hl, hd⟩
    refine ⟨none, _, run_endLoop (P := P) hl (by intro h; cases h), ?_⟩
    exact hdone _ _ (Nat.le_refl _) (hJ.putObj _ hj (by omega) hl rfl) ((World.putObj_heap_other (by omega)).trans hd)
  · rintro s A B row ⟨hj, hl, hd⟩ hgr hr
    refine ⟨hJ s A B row hj hgr (fun r e => ?_), ?_, ?_⟩
    · obtain ⟨hle, o, ho, hw⟩ := hr r e
      exact ⟨by omega, o, ho, by cases o <;> first | rfl | (simp [Obj.isWalk] at hw)⟩
    · exact (grownBy_keeps hgr (fun r e => (hr r e).2) hl rfl).trans hl
    · exact (grownBy_keeps hgr (fun r e => (hr r e).2) hd rfl).trans hd
  · rintro s s' args W ⟨hj, hl, hd⟩ hh
    have hlt : w.heap.size + 1 < W.heap.size := (Array.getElem?_eq_some_iff.1 hl).1
    have hsz : args.size = 1 := by
      obtain ⟨x, t, g, cap, _, _, e3, _⟩ := hh
      rw [e3]; rfl
    have hy := run_yield (P := P) (args := args) hl (by show args.size = ps.size; rw [hsz, hps])
    obtain ⟨a₁, hassign, hbody⟩ := hround (w.heap.size + 1) s s' args W hj hh
    refine ⟨_, _, _, _, hy, roundIn_of_wpIn (F := Fence.wide) trivial (hassign _ ⟨_, run_beginRound (P := P) hl rfl, ?_⟩)⟩
    have hl2 : (W.putObj (w.heap.size + 1) (recV fn a.tmps ps assign body w.heap.size .busy)).heap[w.heap.size + 1]? = some (recV fn a.tmps ps assign body w.heap.size .busy) := World.putObj_heap_same hlt
    have hd2 : (W.putObj (w.heap.size + 1) (recV fn a.tmps ps assign body w.heap.size .busy)).heap[w.heap.size]? = some (.deferred (some [])) := (World.putObj_heap_other (by omega)).trans hd
    have hb2 := keep_put W (recV fn a.tmps ps assign body w.heap.size .busy) (show b < w.heap.size + 1 by omega)
    refine wpIn_mono (hbody _ (hJ.putObj _ hj (by omega) hl rfl) (hh.put _ hl)) ?_
    rintro e a2 W3 ⟨rfl, hk, hj3, hb3⟩
    have hl3 := hk.same _ _ (by omega) hl2 rfl
    have hd3 := hk.same _ _ (Nat.le_refl _) hd2 rfl
    refine ⟨_, _, run_endRound (P := P) none hl3, rfl, ⟨hJ.putObj _ hj3 (by omega) hl3 rfl, World.putObj_heap_same (Array.getElem?_eq_some_iff.1 hl3).1, (World.putObj_heap_other (by omega)).trans hd3⟩, ?_⟩
    have hb4 := keep_put W3 (recV fn a.tmps ps assign body w.heap.size .ready) (show b < w.heap.size + 1 by omega)
    exact ⟨Nat.le_trans hb2.1 (Nat.le_trans hb3.1 hb4.1), hb4.2.trans (hb3.2.trans hb2.2)⟩
end Go.Proofs.YtiffmdfchibpaaaDoor
