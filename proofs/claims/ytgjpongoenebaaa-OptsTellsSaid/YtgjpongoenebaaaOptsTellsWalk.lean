/-
  OptsTells: the law's walk.
-/
import Derived.Test.YtgjpongoenebaaaLast
import Derived.Test.YtgjpongoenebaaaBeyond
namespace Go.Proofs.Ytgjpongoenebaaa
open Go.RowKit

set_option maxRecDepth 100000 in
set_option maxHeartbeats 1000000 in
theorem optsTells_walk (A : Option Addr) (n c : Nat) (l : List Flag2) (x : UInt8) (w : World) (hr : Reads w w.heap.size 2 A n (fv l)) (hn : n ≤ 140737488351232) (hs : ∀ k (h : k < l.length), (l[k]).2.size ≤ 140737488351232) :
    Calls Try.prog 3 #[.slice A n c, .int .u8 (x.toNat : Int)] w fun e w' => e = .returned (.bool true) ∧ Below w.heap.size w w' := by
  have hl : l.length = n := by have := hr.1; rw [fv_length] at this; omega
  have HL := Lib.hid hl
  clear hl
  go_enter Try.func3, Try.ntmps3
  go_wp2_with fail
  refine (flagsSize_any A n c w.heap.size l w hr hn hs).mono ?_
  rintro e w' ⟨⟨z, rfl, hz, hz2⟩, rfl⟩
  clear hs
  obtain ⟨w0, hw0⟩ : ∃ w0, w0 = w.alloc (.cells #[.int .i64 (z : Int)] 3) := ⟨_, rfl⟩
  have hbuf : Buf w0 w.heap.size 1 (fun j => (iv [z]).getD j undef) := by
    rw [hw0]
    refine Buf.new w _ _ _ 1 (by simp) fun i hi => ?_
    match i, hi with
    | 0, _ => rfl
  have hrd : Reads w0 w0.heap.size 1 (some ⟨w.heap.size, 0, none⟩) 1 (iv [z]) := hbuf.reads rfl (Nat.le_refl _) (fun j hj => by
    match j, hj with
    | 0, _ => rfl) hbuf.lt
  have hB0 : Below w.heap.size w w0 := by rw [hw0]; exact (Below.refl _ _).alloc (Nat.le_refl _) _
  have hby := fun c => beyond_any (some ⟨w.heap.size, 0, none⟩) 1 c w0.heap.size [z] w0 hrd (by
    intro k h
    match k, h with
    | 0, _ => show z ≤ _; omega) (by omega)
  clear hbuf hrd
  by_cases hbd : 1048576 < z
  · have hbb : bydB [z] = true := decide_eq_true (by show 1048576 < z + 0; omega)
    rw [hbb] at hby
    clear hbb
    go_wp2_with fail
    rw [← hw0]
    refine (hby _).mono ?_
    rintro e w' ⟨rfl, rfl⟩
    clear hby hw0
    go_wp2_with fail
    go_ret
    exact ⟨rfl, hB0⟩
  · have hbb : bydB [z] = false := decide_eq_false (by show ¬ 1048576 < z + 0; omega)
    rw [hbb] at hby
    have hn2 := (hz2 (by omega)).1
    clear hbb hz2
    go_wp2_with fail
    rw [← hw0]
    refine (hby _).mono ?_
    rintro e w' ⟨rfl, rfl⟩
    clear hby hw0
    go_wp2_with fail
    have hr1 := (hr.below hB0).more hB0.size
    refine (twinFlags_any A n c l w0 hr1 (by omega)).mono ?_
    rintro e w1 ⟨rfl, hown1, hB1⟩
    go_wp2_with fail
    have hlt1 := hown1.lt w0.heap.size rfl
    have ht1 := twinF_reads (B := w1.heap.size) hown1 HL.out hlt1.2
    refine (last_any _ n (n + 1) l x w1 ht1 (by omega)).mono ?_
    rintro e w2 ⟨rfl, hB2⟩
    obtain ⟨s, hs⟩ : ∃ s, s = (flast l x).getD ⟨#[]⟩ := ⟨_, rfl⟩
    obtain ⟨b, hb⟩ : ∃ b, b = (flast l x).isSome := ⟨_, rfl⟩
    have HS := Lib.hid hs
    have HBB := Lib.hid hb
    rw [← hs, ← hb]
    clear hs hb
    go_wp2_with fail
    have hB02 := below_then hB1 hB1.size hB2
    have hr2 := (hr1.below hB02).more hB02.size
    refine (refLast_any A n c w2.heap.size l x w2 hr2 (by omega)).mono ?_
    rintro e w' ⟨rfl, rfl⟩
    rw [← HS.out, ← HBB.out]
    go_wp2_with fail
    have ho2 := own_below hown1 hB2
    have ht2 := twinF_reads (B := w2.heap.size) ho2 HL.out (by have := hB2.size; omega)
    refine (has_any _ n (n + 1) l x w2 ht2 (by omega)).mono ?_
    rintro e w3 ⟨rfl, hB3⟩
    go_wp2_with fail
    have hr3 := (hr2.below hB3).more hB3.size
    refine (refHas_any A n c w3.heap.size l x w3 hr3 (by omega)).mono ?_
    rintro e w' ⟨rfl, rfl⟩
    go_wp2_with fail
    have ho3 := own_below ho2 hB3
    refine (leftFlags_any A w0.heap.size n c w0.heap.size l w3 hr3 (by omega) ho3).mono ?_
    rintro e w4 ⟨rfl, hB4⟩
    go_wp2_with fail
    go_ret
    have hB03 := below_then hB02 hB02.size hB3
    exact ⟨rfl, below_then hB0 hB0.size (below_then hB03 hB03.size hB4)⟩
end Go.Proofs.Ytgjpongoenebaaa
