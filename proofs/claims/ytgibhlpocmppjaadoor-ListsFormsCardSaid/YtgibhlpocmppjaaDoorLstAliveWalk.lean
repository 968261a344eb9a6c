/-
  The law's own check of some answers: its walk.
-/
import Derived.Test.YtgibhlpocmppjaaDoorLstAlive
namespace Go.Proofs.YtgibhlpocmppjaaDoor
open Go.RowKit
theorem alloc_reads (w : World) (t : TypeId) (cs : Array Value) (k n : Nat) (xs : List Value) (h : cs.toList = xs) (hl : xs.length = n * k) : Reads (w.alloc (.cells cs t)) (w.heap.size + 1) k (some ⟨w.heap.size, 0, none⟩) n xs :=
  ⟨hl, fun _ => ⟨_, rfl, Nat.lt_succ_self _, fun j u hu => by
    rw [Addr.add_lit, Nat.zero_add, (Blk.new w t cs).cell j]
    rw [← h] at hu
    simpa using hu⟩⟩
def aliveR : List Rng := [⟨1, 1⟩, ⟨3, 5⟩, ⟨7, 0⟩]
def aliveP : List Rng := [⟨1, 1⟩, ⟨3, 5⟩, ⟨1, 2⟩, ⟨7, 0⟩]

set_option maxRecDepth 100000 in
set_option maxHeartbeats 1000000 in
theorem alive_any (B : Nat) (w : World) (hE : Env B w) :
    Calls Tryd.prog 15 #[] w fun e w' => e = .returned (.bool true) ∧ Below w.heap.size w w' := by
  have HE := Lib.hid hE
  clear hE
  go_enter Tryd.func15, Tryd.ntmps15
  go_wp2_with fail
  refine (parse_some B [49, 44, 51, 45, 53, 44, 45, 50, 44, 55, 45] aliveP w HE.out (by decide) alive_parse).mono ?_
  rintro e w1 ⟨A1, c1, rfl, ho1, hB1⟩
  rw [show aliveP.length = 4 from rfl] at ho1 ⊢
  have E1 := Lib.hid (HE.out.up hB1)
  have hs1 := hB1.size
  have hcap := own_capk ho1
  go_wp2_with fail
  have hBx : Below w1.heap.size w1 (w1.alloc (.cells #[.int .i64 1, .int .i64 1, .int .i64 3, .int .i64 5, .int .i64 7, .int .i64 0] 41)) := (Below.refl _ _).alloc (Nat.le_refl _) _
  refine (text_ok B _ 3 3 aliveR _ ((alloc_reads w1 41 _ 2 3 _ rfl rfl).more (by simp)) (by omega) (E1.out.up hBx)).mono ?_
  rintro e w2 ⟨rfl, hB2⟩
  rw [show str (textV aliveR).1 = ({ data := #[49, 44, 51, 45, 53, 44, 55, 45] } : ByteArray) from by rw [show textV aliveR = _ from alive_text]; rfl, show (textV aliveR).2 = 0 from by rw [show textV aliveR = _ from alive_text]]
  have hB12 := below_then hBx hBx.size hB2
  have ho2 := own_below ho1 hB12
  have hB02 := below_then hB1 hs1 hB12
  have hs2 := hB02.size
  have E2 := Lib.hid (E1.out.up hB12)
  clear hB2 hBx hB12 hB1 ho1
  go_wp2_with fail
  refine (parse_none B [53, 45, 51] w2 E2.out (by decide) alive_none).mono ?_
  rintro e w3 ⟨rfl, hB3⟩
  have ho3 := own_below ho2 hB3
  have hB03 := below_then hB02 hs2 hB3
  have hs3 := hB03.size
  have E3 := Lib.hid (E2.out.up hB3)
  clear hB3 hB02 ho2
  go_wp2_with fail
  refine (text_ok B none 0 0 [] w3 Reads.none_ (by omega) E3.out).mono ?_
  rintro e w4 ⟨rfl, hB4⟩
  rw [nil_text]
  have ho4 := own_below ho3 hB4
  have hB04 := below_then hB03 hs3 hB4
  have hs4 := hB04.size
  clear hB4 hB03 ho3
  have hr4 := Reads.of_own ho4
  obtain ⟨ad, rfl, had, hce⟩ := hr4.2 (by decide)
  clear hce
  go_wp2_with fail
  have hBy : Below w4.heap.size w4 (w4.alloc (.cells #[.int .i64 1, .int .i64 1, .int .i64 3, .int .i64 5, .int .i64 1, .int .i64 2, .int .i64 7, .int .i64 0] 41)) := (Below.refl _ _).alloc (Nat.le_refl _) _
  refine (sameRanges_any _ _ 4 c1 4 (w4.heap.size + 1) aliveP _ ((hr4.below hBy).more (by omega)) (alloc_reads w4 41 _ 2 4 _ rfl rfl) (by omega)).mono ?_
  rintro e w5 ⟨rfl, m, hw5⟩
  have hB5 : Below w4.heap.size w4 w5 := by rw [hw5]; exact below_drewN hBy m
  have hs5 := hB5.size
  have hr5 := (hr4.below hB5).more hs5
  clear hw5
  go_wp2_with fail
  refine (has_any _ 4 c1 aliveP 9 w5 hr5 (by omega)).mono ?_
  rintro e w6 ⟨rfl, hB6⟩
  rw [show hasV aliveP 9 = true from rfl]
  have hs6 := hB6.size
  have hr6 := ((hr5.below hB6).more hs6).takeR (m := 1) (by omega)
  go_wp2_with fail
  refine (has_any _ 1 c1 [⟨1, 1⟩] 2 w6 hr6 (by omega)).mono ?_
  rintro e w7 ⟨rfl, hB7⟩
  rw [show hasV [⟨1, 1⟩] 2 = false from rfl]
  go_wp2_with fail
  go_ret
  exact ⟨rfl, below_then hB04 hs4 (below_then (below_then hB5 hs5 hB6) (by omega) hB7)⟩
end Go.Proofs.YtgibhlpocmppjaaDoor
