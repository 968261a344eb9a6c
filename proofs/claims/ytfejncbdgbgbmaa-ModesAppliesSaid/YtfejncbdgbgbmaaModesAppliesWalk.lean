/-
  ModesApplies: the law's walk.
-/
import Derived.Test.YtfejncbdgbgbmaaApply
import Derived.Test.YtfejncbdgbgbmaaRefMode
import Derived.Test.YtfejncbdgbgbmaaBeyond
import Derived.Deep.RegionHeld3
namespace Go.Proofs.Ytfejncbdgbgbmaa
open Go.RowKit

theorem reads_up {w w' : World} {A : Option Addr} {n : Nat} {xs : List Value} {k : Nat} (h : Reads w w.heap.size k A n xs) (hB : Below w.heap.size w w') : Reads w' w'.heap.size k A n xs := (h.below hB).more hB.size

theorem chain {w w1 w' : World} (k : Below w1.heap.size w1 w') (h : Below w.heap.size w w1) : Below w.heap.size w w' := below_then h h.size k
theorem st_of {w2 W' : World} {g : Nat} {x y z : Option Value} (hg : g < w2.heap.size) (h0 : w2.cell? ⟨g, 0, none⟩ = x) (h1 : w2.cell? ⟨g, 1, none⟩ = y) (h2 : w2.cell? ⟨g, 2, none⟩ = z) (h3 : Below w2.heap.size w2 W') :
    W'.cell? ⟨g, 0, none⟩ = x ∧ W'.cell? ⟨g, 1, none⟩ = y ∧ W'.cell? ⟨g, 2, none⟩ = z ∧ Below w2.heap.size w2 W' :=
  ⟨(h3.cell hg).trans h0, (h3.cell hg).trans h1, (h3.cell hg).trans h2, h3⟩
set_option maxRecDepth 100000 in
set_option maxHeartbeats 2000000 in
theorem modesApplies_walk (A : Option Addr) (n c : Nat) (l : List Chg) (mode mask : Int) (dir : Bool) (w : World) (hr : Reads w w.heap.size 5 A n (chgv l)) (hn : n ≤ 140737488351232) :
    Calls Try.prog 3 #[.slice A n c, .agg #[.int .i64 mode, .int .i64 mask, .bool dir]] w fun e w' => e = .returned (.bool true) ∧ Below w.heap.size w w' := by
  have hl : l.length = n := by have := hr.1; rw [sv_length _ 5 chg1_len] at this; omega
  have HL := Lib.hid hl
  clear hl
  go_enter Try.func3, Try.ntmps3
  have hby := beyond_one n 1 (w.alloc (.cells #[.int .i64 mode, .int .i64 mask, .bool dir] 24)) (by omega)
  rw [show (w.alloc (.cells #[.int .i64 mode, .int .i64 mask, .bool dir] 24)).heap.size = w.heap.size + 1 from by simp] at hby
  have HBY := Lib.hid hby
  clear hby
  by_cases hbd : 1048576 < n
  · rw [show decide (1048576 < n) = true from decide_eq_true hbd] at HBY
    go_wp2_with fail
    refine HBY.out.mono ?_
    rintro e w' ⟨rfl, rfl⟩
    clear HBY
    go_wp2_with fail
    go_ret
    exact ⟨rfl, ((Below.refl _ _).alloc (Nat.le_refl _) _).alloc (by simp) _⟩
  · rw [show decide (1048576 < n) = false from decide_eq_false hbd] at HBY
    have hn2 : n ≤ 2097152 := by omega
    go_wp2_with fail
    refine HBY.out.mono ?_
    rintro e w' ⟨rfl, rfl⟩
    clear HBY
    go_wp2_with fail
    obtain ⟨w0, hw0⟩ : ∃ w0, w0 = ((w.alloc (.cells #[.int .i64 mode, .int .i64 mask, .bool dir] 24)).alloc (.cells #[.int .i64 (n : Int)] 3)) := ⟨_, rfl⟩
    rw [← hw0]
    have hX0 : Blk w0 w.heap.size 24 #[.int .i64 mode, .int .i64 mask, .bool dir] := by rw [hw0]; exact (Blk.new w _ _).alloc _
    have hB0 : Below w.heap.size w w0 := by rw [hw0]; exact ((Below.refl _ _).alloc (Nat.le_refl _) _).alloc (by simp) _
    clear hw0
    have hr0 := reads_up hr hB0
    refine (twinChanges_any A n c l w0 hr0 hn2).mono ?_
    rintro e w2 ⟨rfl, hown2, hB2⟩
    have hlt := hown2.lt w0.heap.size rfl
    have ht2 := own_reads (B := w2.heap.size) chg1_len hown2 HL.out (by omega) hlt.2
    have hX2 := hX0.below hB2 hX0.lt
    have hr2 := reads_up hr0 hB2
    have hB02 := below_then hB0 hB0.size hB2
    have c0 := hX2.cell 0
    have c1 := hX2.cell 1
    have c2 := hX2.cell 2
    simp at c0 c1 c2
    have hX := hX2.lt
    clear hr hr0 hB0 hB2 hlt hX0 hX2
    go_wp2_with fail
    have hBd : Below w2.heap.size w2 w2.drew := below_drewN (Below.refl _ _) 1
    go_region_held3 (fun w' => w'.cell? ⟨w.heap.size, 0, none⟩ = some (.int .i64 mode) ∧ w'.cell? ⟨w.heap.size, 1, none⟩ = some (.int .i64 mask) ∧ w'.cell? ⟨w.heap.size, 2, none⟩ = some (.bool dir) ∧ Below w2.heap.size w2 w')
      ((refine st_of hX c0 c1 c2 ?_; assumption))
      (first
       | (go_at_call 6; refine (apply_any _ n _ l mode mask dir _ (reads_up ht2 ?_) hn2).mono ?_; (first | assumption | exact below_drewN (Below.refl _ _) 1); rintro e w' ⟨rfl, hb⟩; have hbk := chain (w := w2) hb (by assumption))
       | (go_at_call 7; refine (refApply_any _ n _ l mode mask dir _ (reads_up hr2 ?_) hn2).mono ?_; (first | assumption | exact below_drewN (Below.refl _ _) 1); rintro e w' ⟨rfl, hb⟩; have hbk := chain (w := w2) hb (by assumption))
       | (go_at_call 8; refine (leftChanges_any A w0.heap.size n c w0.heap.size l _ (reads_up hr2 ?_) hn2 (own_below hown2 ?_)).mono ?_; (first | assumption | exact below_drewN (Below.refl _ _) 1); (first | assumption | exact below_drewN (Below.refl _ _) 1); rintro e w' ⟨rfl, hb⟩; have hbk := chain (w := w2) hb (by assumption)))
    go_wp2_with fail
    go_ret
    exact ⟨rfl, below_then hB02 hB02.size hbk⟩
end Go.Proofs.Ytfejncbdgbgbmaa
