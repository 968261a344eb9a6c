/-
  ListsTells: the law's walk.
-/
import Derived.Test.YtgibhlpocmppjaaDoorLstRefText
import Derived.Test.YtgibhlpocmppjaaDoorBeyond
namespace Go.Proofs.YtgibhlpocmppjaaDoor
open Go.RowKit

theorem twinR_reads {w : World} {B B' g n : Nat} {l : List Rng} (h : w.ownsRow B' 41 2 (.slice (some ⟨g, 0, none⟩) (n + 1) (n + 1)) (n + 1) (rngv l ++ rngSpare)) (hl : l.length = n) (hB : g < B) : Reads w B 2 (some ⟨g, 0, none⟩) n (rngv l) :=
  ⟨by rw [sv_length _ 2 rng1_len]; omega, fun _ => ⟨_, rfl, hB, fun j u hu => by
    have hj : j < l.length * 2 := by have := (List.getElem?_eq_some_iff.1 hu).1; rw [sv_length _ 2 rng1_len] at this; exact this
    rw [Addr.add_lit, Nat.zero_add, h.cellAt j (by omega), List.getElem?_append_left (by rw [sv_length _ 2 rng1_len]; exact hj)]
    exact hu⟩⟩
def textV (l : List Rng) : List UInt8 × Int := if l = [] ∨ l.any badV = true then ([], 1) else if 4097 < (catT l).length then ([], 3) else (joinT l, 0)
theorem textIs_eq {l : List Rng} {e : Ending} (h : TextIs l e) : e = .returned (.tuple #[.string (str (textV l).1), .int .i64 (textV l).2]) := by
  unfold TextIs at h
  unfold textV
  split
  · rename_i h0; rw [if_pos h0] at h; exact h
  · rename_i h0
    rw [if_neg h0] at h
    split
    · rename_i h1; rw [if_pos h1] at h; exact h
    · rename_i h1; rw [if_neg h1] at h; exact h

set_option maxRecDepth 100000 in
set_option maxHeartbeats 1000000 in
theorem listsTells_walk (B : Nat) (A : Option Addr) (n c : Nat) (l : List Rng) (x : Int) (w : World) (hr : Reads w w.heap.size 2 A n (rngv l)) (hn : n ≤ 140737488351232) (hE : Lib.TabBelow Tryd.prog B w "internal/strconv.uint64pow10" .u64 Lib.pow10Tab) (hBw : B ≤ w.heap.size) :
    Calls Tryd.prog 3 #[.slice A n c, .int .i64 x] w fun e w' => e = .returned (.bool true) ∧ Below w.heap.size w w' := by
  have hl : l.length = n := by have := hr.1; rw [sv_length _ 2 rng1_len] at this; omega
  have HL := Lib.hid hl
  have HE := Lib.hid hE
  clear hl hE
  go_enter Tryd.func3, Tryd.ntmps3
  by_cases hbd : 1048576 < n
  · have hby := fun c => beyond_one n c w (by omega)
    rw [decide_eq_true hbd] at hby
    go_wp2_with fail
    refine (hby _).mono ?_
    rintro e w' ⟨rfl, rfl⟩
    clear hby
    go_wp2_with fail
    go_ret
    exact ⟨rfl, (Below.refl _ _).alloc (Nat.le_refl _) _⟩
  · have hby := fun c => beyond_one n c w (by omega)
    rw [decide_eq_false hbd] at hby
    have hB0 : Below w.heap.size w (w.alloc (.cells #[.int .i64 (n : Int)] 3)) := (Below.refl _ _).alloc (Nat.le_refl _) _
    have hs0 := hB0.size
    have hr0 := (hr.below hB0).more hs0
    go_wp2_with fail
    refine (hby _).mono ?_
    rintro e w0 ⟨rfl, hw0⟩
    rw [hw0] at hB0 hs0 hr0
    clear hby hw0
    go_wp2_with fail
    refine (twinRanges_any A n c l w0 hr0 (by omega)).mono ?_
    rintro e w1 ⟨rfl, hown1, hB1⟩
    have hs1 := hB1.size
    have hlt1 := hown1.lt w0.heap.size rfl
    have hB01 := below_then hB0 hs0 hB1
    have HE1 := HE.out.on (hB01.mono hBw)
    have hb1 := hB01.size
    go_wp2_with fail
    refine (text_any B _ n (n + 1) l w1 (twinR_reads hown1 HL.out (by omega)) (by omega) HE1 (by omega)).mono ?_
    rintro e w2 ⟨ht2, hB2⟩
    rw [textIs_eq ht2]
    have hs2 := hB2.size
    have hown2 := own_below hown1 hB2
    have hB02 := below_then hB01 hb1 hB2
    have hb2 := hB02.size
    have hr2 := (hr0.below (below_then hB1 hs1 hB2)).more (B' := w2.heap.size) (by omega)
    clear ht2
    obtain ⟨s, hs⟩ : ∃ s, s = str (textV l).1 := ⟨_, rfl⟩
    obtain ⟨k, hk⟩ : ∃ k, k = (textV l).2 := ⟨_, rfl⟩
    have HS := Lib.hid hs
    have HK := Lib.hid hk
    rw [← hs, ← hk]
    clear hs hk
    go_wp2_with fail
    refine (refText_any A n c w2.heap.size l w2 hr2 (by omega) (Nat.le_refl _)).mono ?_
    rintro e w3 ⟨ht3, hB3⟩
    rw [textIs_eq ht3, ← HS.out, ← HK.out]
    have hs3 := hB3.size
    have hown3 := own_below hown2 hB3
    have hB03 := below_then hB02 hb2 hB3
    have hb3 := hB03.size
    have hr3 := (hr2.below hB3).more hs3
    clear ht3
    go_wp2_with fail
    refine (has_any _ n (n + 1) l x w3 (twinR_reads hown3 HL.out (by omega)) (by omega)).mono ?_
    rintro e w4 ⟨rfl, hB4⟩
    have hs4 := hB4.size
    have hown4 := own_below hown3 hB4
    have hB04 := below_then hB03 hb3 hB4
    have hb4 := hB04.size
    have hr4 := (hr3.below hB4).more hs4
    obtain ⟨b, hb⟩ : ∃ b, b = hasV l x := ⟨_, rfl⟩
    have HB := Lib.hid hb
    rw [← hb]
    clear hb
    go_wp2_with fail
    refine (refHas_any A n c w4.heap.size l x w4 hr4 (by omega)).mono ?_
    rintro e w' ⟨rfl, rfl⟩
    rw [← HB.out]
    go_wp2_with fail
    refine (leftRanges_any A w0.heap.size n c w0.heap.size l w4 hr4 (by omega) hown4).mono ?_
    rintro e w5 ⟨rfl, hB5⟩
    go_wp2_with fail
    go_ret
    exact ⟨rfl, below_then hB04 hb4 hB5⟩
end Go.Proofs.YtgibhlpocmppjaaDoor
