/-
  codec.writer.text, done; slices.Clip: contracts.
-/
import Derived.Test.YtejneiakpeeamaaWriter
import Derived.Test.YtejneiakpeeamaaAppendStr
namespace Go.Proofs.Ytejneiakpeeamaa
open Go.RowKit

theorem IsW.put0 {β g m : Nat} {l more : List UInt8} {bad : Bool} {wr w2 : World} {v v' : Value} (hh : wr.heap[g]? = some (.cells #[v, .bool bad] 56 (0, 0))) (hne : v.ownBlock ≠ some g) (hm : more.length = m)
    (hown' : w2.ownsRow β 5 1 v' (l.length + m) (bv l ++ bv more)) (hgrow : wr.grownBy w2 v.ownBlock) (hat : v'.ownBlock = v.ownBlock ∨ v'.ownBlock = some wr.heap.size) :
    w2.heap[g]? = some (.cells #[v, .bool bad] 56 (0, 0)) ∧ IsW v'.ownBlock β g (l ++ more) bad (w2.setCell ⟨g, 0, none⟩ v') ∧ WK g v.ownBlock wr (w2.setCell ⟨g, 0, none⟩ v') v'.ownBlock := by
  have hlt := (Array.getElem?_eq_some_iff.1 hh).1
  have hkeep : ∀ k, k < wr.heap.size → some k ≠ v.ownBlock → w2.heap[k]? = wr.heap[k]? := fun k hk hne => hgrow.block k hk hne
  have hb2 : w2.heap[g]? = some (.cells #[v, .bool bad] 56 (0, 0)) := (hkeep g hlt (fun e => hne e.symm)).trans hh
  have hne' : v'.ownBlock ≠ some g := by
    rcases hat with e | e
    · rw [e]; exact hne
    · rw [e]; intro h; injection h with h; omega
  refine ⟨hb2, ⟨v', by simp [World.setCell, Array.getElem?_modify, hb2], ?_, rfl, hne'⟩, ⟨hgrow.os, hgrow.tape, hgrow.output, ?_, fun k hk hg hr => ?_, ?_⟩⟩
  · have e : bv (l ++ more) = bv l ++ bv more := by simp [bv]
    rw [e, List.length_append, hm]
    exact hown'.kept (row := some g) (only_setCell (World.grownBy.refl _ _) (.inl rfl) _) (.inr hne')
  · have := hgrow.size
    simp [World.setCell]
    omega
  · exact (Below.heap_setCell w2 ⟨g, 0, none⟩ v' k hg).trans (hkeep k hk hr)
  · rcases hat with e | e
    · exact .inl e
    · exact .inr ⟨_, e, Nat.le_refl _⟩
theorem IsW.mark {r : Option Nat} {β g : Nat} {l : List UInt8} {bad : Bool} {w : World} (h : IsW r β g l bad w) (bad' : Bool) :
    IsW r β g l bad' (w.setCell ⟨g, 1, none⟩ (.bool bad')) ∧ WK g r w (w.setCell ⟨g, 1, none⟩ (.bool bad')) r := by
  obtain ⟨v, hh, hown, hr, hne⟩ := h
  refine ⟨⟨v, by simp [World.setCell, Array.getElem?_modify, hh], hown.kept (row := some g) (only_setCell (World.grownBy.refl _ _) (.inl rfl) _) (.inr (by rw [hr]; exact hne)), hr, hne⟩, ⟨rfl, rfl, rfl, by simp [World.setCell], fun k _ hg _ => Below.heap_setCell w ⟨g, 1, none⟩ _ k hg, .inl rfl⟩⟩

set_option maxHeartbeats 1000000 in
set_option maxRecDepth 100000 in
theorem wtext_any (r : Option Nat) (β g : Nat) (l : List UInt8) (bad : Bool) (s : ByteArray) (w : World) (h : IsW r β g l bad w) (hs : s.size ≤ 140737488351232) (hlen : l.length + 4 + s.size ≤ 140737488355328) (hβ : β ≤ w.heap.size) :
    Calls Try.prog 21 #[.pointer (some ⟨g, 0, none⟩), .string s] w fun e w' => e = .returned (.tuple #[]) ∧ ∃ r', IsW r' β g (l ++ leb 4 s.size ++ s.data.toList) (bad || decide (65536 < s.size)) w' ∧ WK g r w w' r' := by
  obtain ⟨i0, hi, hz0, hz1, hz2⟩ := info_parts infoU8
  have hm := h.mark (bad || decide (65536 < s.size))
  obtain ⟨v, hh, hown, hr1, hne⟩ := h
  have c1 : w.cell? ⟨g, 1, none⟩ = some (.bool bad) := heap_cell hh 1
  have f1 := heap_frozen hh 1
  clear hh hown hr1 hne
  obtain ⟨hw1, hk1⟩ := hm
  obtain ⟨w1, hw1e⟩ : ∃ w1, w1 = w.setCell ⟨g, 1, none⟩ (.bool (bad || decide (65536 < s.size))) := ⟨_, rfl⟩
  rw [← hw1e] at hw1 hk1
  have hs1 := hk1.size
  have hcount := wcount_any r β g l (bad || decide (65536 < s.size)) s.size w1 hw1 hs (by omega) (by omega)
  have HCT := Lib.hid hcount
  have HW1 := Lib.hid hw1e
  clear hcount hw1e
  go_enter Try.func21, Try.ntmps21
  cases bad
  all_goals
    go_wp2_with fail
    first
      | rw [show w.setCell ⟨g, 1, none⟩ (.bool (decide ((65536 : Int) < (s.size : Int)))) = w1 from by rw [HW1.out, Bool.false_or, show decide ((65536 : Int) < (s.size : Int)) = decide (65536 < s.size) from decide_eq_decide.2 (by omega)]]
      | rw [show w.setCell ⟨g, 1, none⟩ (.bool true) = w1 from by rw [HW1.out]; simp]
    refine HCT.out.mono ?_
    rintro e w2 ⟨rfl, r2, ⟨v2, hh2, hown2, hr2, hne2⟩, hk2⟩
    subst hr2
    have hs2 := hk2.size
    have d0 : w2.cell? ⟨g, 0, none⟩ = some v2 := heap_cell hh2 0
    have hl2 : (l ++ leb 4 s.size).length = l.length + 4 := by rw [List.length_append, leb_length]
    generalize hLe : l ++ leb 4 s.size = L2 at hown2 hl2
    have HLE := Lib.hid hLe
    have HH2 := Lib.hid hh2
    have HL2 := Lib.hid hl2
    clear hh2 hl2 hLe
    go_wp2_with (at_builtin; refine wpList_append_str_at _ rfl (.tmp 24) (.tmp 25) 22 9 rfl β 5 i0 Try.underlying22 Try.underlying9 hi hz0 hz1 hz2 v2 _ _ rfl hown2 s rfl (by rw [HL2.out]; unfold maxLen; omega) (by rw [HL2.out]; omega) (by omega) ?_)
    intro v' w3 hown3 hgrow hat
    obtain ⟨hb3, hw3, hk3⟩ := IsW.put0 (more := s.data.toList) HH2.out hne2 (by simp) hown3 hgrow hat
    obtain ⟨gg, cap, rfl⟩ := own_form hown3 (by rw [HL2.out]; omega)
    have c3 : w3.cell? ⟨g, 0, none⟩ = some v2 := heap_cell hb3 0
    have f3 := heap_frozen hb3 0
    go_wp2
    go_end0
    rw [HLE.out]
    exact ⟨rfl, _, hw3, (hk1.trans hk2).trans hk3⟩

set_option maxHeartbeats 400000 in
theorem clip_any (A : Option Addr) (n c : Nat) (w : World) (hc : n ≤ c) :
    Calls Try.prog 28 #[.slice A n c] w fun e w' => e = .returned (.slice A n n) ∧ w = w' := by
  go_enter Try.func28, Try.ntmps28
  go_wp2
  go_ret
  exact ⟨rfl, rfl⟩

/-- What done tells: nothing, and that it may not be; or the bytes, with no room behind them. -/
def DoneV (β : Nat) (l : List UInt8) (bad : Bool) (w : World) (v : Value) : Prop :=
  (bad = true ∧ v = .tuple #[.slice none 0 0, .int .i64 1]) ∨ (bad = false ∧ ∃ A c, v = .tuple #[.slice A l.length l.length, .int .i64 0] ∧ w.ownsRow β 5 1 (.slice A l.length c) l.length (bv l))
set_option maxHeartbeats 400000 in
theorem wdone_any (r : Option Nat) (β g : Nat) (l : List UInt8) (bad : Bool) (w : World) (h : IsW r β g l bad w) :
    Calls Try.prog 23 #[.pointer (some ⟨g, 0, none⟩)] w fun e w' => (∃ v, e = .returned v ∧ DoneV β l bad w v) ∧ w = w' := by
  obtain ⟨v, hh, hown, hr1, hne⟩ := h
  have c0 : w.cell? ⟨g, 0, none⟩ = some v := heap_cell hh 0
  have c1 : w.cell? ⟨g, 1, none⟩ = some (.bool bad) := heap_cell hh 1
  obtain ⟨A, c, rfl⟩ := own_slice hown
  have hc : l.length ≤ c := by
    rcases hown.2 with ⟨e, h0⟩ | ⟨g', cap, cur, hv, _, _, hnc, _⟩
    · omega
    · cases hv; exact hnc
  clear hh hne hr1
  go_enter Try.func23, Try.ntmps23
  cases bad with
  | true =>
    go_wp2
    go_ret2
    exact ⟨⟨_, rfl, .inl ⟨rfl, rfl⟩⟩, rfl⟩
  | false =>
    go_wp2_with (go_at_call 28; refine (clip_any A l.length c _ hc).mono ?_; rintro e w' ⟨rfl, rfl⟩)
    go_ret2
    exact ⟨⟨_, rfl, .inr ⟨rfl, A, c, rfl, hown⟩⟩, rfl⟩
end Go.Proofs.Ytejneiakpeeamaa
