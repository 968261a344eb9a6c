/-
  ListsBack: the law's walk.
-/
import Derived.Test.YtgibhlpocmppjaaDoorLstAliveWalk
namespace Go.Proofs.YtgibhlpocmppjaaDoor
open Go.RowKit

set_option maxRecDepth 100000 in
set_option maxHeartbeats 1000000 in
theorem listsBack_walk (B : Nat) (A : Option Addr) (n c : Nat) (l : List Rng) (w : World) (hr : Reads w w.heap.size 2 A n (rngv l)) (hn : n ≤ 140737488351232) (hE : Env B w) :
    Calls Tryd.prog 4 #[.slice A n c] w fun e w' => e = .returned (.bool true) ∧ Below w.heap.size w w' := by
  have hl : l.length = n := by have := hr.1; rw [sv_length _ 2 rng1_len] at this; omega
  have HL := Lib.hid hl
  have HE := Lib.hid hE
  clear hl hE
  go_enter Tryd.func4, Tryd.ntmps4
  go_wp2_with fail
  refine (alive_any B w HE.out).mono ?_
  rintro e w1 ⟨rfl, hB1⟩
  have hs1 := hB1.size
  have E1 := Lib.hid (HE.out.up hB1)
  have hr1 := (hr.below hB1).more hs1
  by_cases hbd : 1048576 < n
  · have hby := fun c => beyond_one n c w1 (by omega)
    rw [decide_eq_true hbd] at hby
    have hB2 : Below w1.heap.size w1 (w1.alloc (.cells #[.int .i64 (n : Int)] 3)) := (Below.refl _ _).alloc (Nat.le_refl _) _
    go_wp2_with fail
    refine (hby _).mono ?_
    rintro e w2 ⟨rfl, hw2⟩
    rw [hw2] at hB2
    have hB02 := below_then hB1 hs1 hB2
    have E2 := Lib.hid (E1.out.up hB2)
    clear hby hw2
    go_wp2_with fail
    refine (alive_any B w2 E2.out).mono ?_
    rintro e w3 ⟨rfl, hB3⟩
    go_wp2_with fail
    go_ret
    exact ⟨rfl, below_then hB02 hB02.size hB3⟩
  · have hby := fun c => beyond_one n c w1 (by omega)
    rw [decide_eq_false hbd] at hby
    have hB2 : Below w1.heap.size w1 (w1.alloc (.cells #[.int .i64 (n : Int)] 3)) := (Below.refl _ _).alloc (Nat.le_refl _) _
    go_wp2_with fail
    refine (hby _).mono ?_
    rintro e w2 ⟨rfl, hw2⟩
    rw [hw2] at hB2
    have hB02 := below_then hB1 hs1 hB2
    have hs2 := hB02.size
    have E2 := Lib.hid (E1.out.up hB2)
    have hr2 := (hr1.below hB2).more hB2.size
    clear hby hw2 hr1
    go_wp2_with fail
    refine (text_ok B A n c l w2 hr2 (by omega) E2.out).mono ?_
    rintro e w3 ⟨rfl, hB3⟩
    have hB03 := below_then hB02 hs2 hB3
    have hs3 := hB03.size
    have E3 := Lib.hid (E2.out.up hB3)
    have hr3 := (hr2.below hB3).more hB3.size
    clear hr2
    by_cases h1 : l = [] ∨ l.any badV = true
    · rw [show textV l = ([], 1) from by unfold textV; rw [if_pos h1]]
      rw [show str ([], (1 : Int)).1 = ({ data := #[] } : ByteArray) from rfl]
      clear h1
      go_wp2_with fail
      go_ret
      exact ⟨rfl, hB03⟩
    by_cases h2 : 4097 < (catT l).length
    · rw [show textV l = ([], 3) from by unfold textV; rw [if_neg h1, if_pos h2]]
      rw [show str ([], (3 : Int)).1 = ({ data := #[] } : ByteArray) from rfl]
      clear h1 h2
      go_wp2_with fail
      go_ret
      exact ⟨rfl, hB03⟩
    · rw [show textV l = (joinT l, 0) from by unfold textV; rw [if_neg h1, if_neg h2]]
      have hne : l ≠ [] := fun e => h1 (.inl e)
      have hjl := joinT_len l hne
      have hb : l.any badV = false := by cases hx : l.any badV with | false => rfl | true => exact absurd (.inr hx) h1
      have HP := Lib.hid (parse_join l hne ((any_ok l).2 hb))
      have HJ := Lib.hid (show (joinT l).length ≤ 4096 by omega)
      clear h1 h2 hne hjl hb
      go_wp2_with fail
      refine (parse_some B (joinT l) l w3 E3.out HJ.out HP.out).mono ?_
      rintro e w4 ⟨A4, c4, rfl, ho4, hB4⟩
      rw [HL.out] at ho4 ⊢
      have hs4 := hB4.size
      have hr4 := (hr3.below hB4).more hs4
      go_wp2_with fail
      refine (sameRanges_any A4 A n c4 c w4.heap.size l w4 (Reads.of_own ho4) hr4 (by omega)).mono ?_
      rintro e w5 ⟨rfl, m, hw5⟩
      have hB5 : Below w.heap.size w w5 := by rw [hw5]; exact below_drewN (below_then hB03 hs3 hB4) m
      clear hw5
      go_wp2_with fail
      go_ret
      exact ⟨rfl, hB5⟩
end Go.Proofs.YtgibhlpocmppjaaDoor
