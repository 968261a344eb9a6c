/-
  Lists of api.Range: how they read; toolchestlaw01's TwinRanges, LeftRanges, SameRanges: contracts. (Written by gen_lists.py.)
-/
import Derived.Test.YtgibhlpocmppjaaDoorBase
import Derived.Test.YtgibhlpocmppjaaDoorChecked
namespace Go.Proofs.YtgibhlpocmppjaaDoor
open Go.RowKit

structure Rng where
  fr : Int
  to : Int
def rng1 (x : Rng) : List Value := [.int .i64 x.fr, .int .i64 x.to]
theorem rng1_len (x : Rng) : (rng1 x).length = 2 := rfl
theorem rng1_one (x : Rng) : ∀ u ∈ rng1 x, u.oneCell' = true := by
  intro u hu
  simp [rng1] at hu
  rcases hu with rfl | rfl <;> rfl
def rngSpare : List Value := [.int .i64 77, .int .i64 0]
theorem infoRng : (Tryd.prog.info? 41).map (fun i => (i.zero, i.size, i.bytes)) = some (some (.agg #[.int .i64 0, .int .i64 0]), 2, 16) := by kernel_rfl
abbrev rngv (l : List Rng) : List Value := sv rng1 l

set_option maxHeartbeats 400000 in
theorem twinRanges_any (A : Option Addr) (n c : Nat) (l : List Rng) (w : World) (hr : Reads w w.heap.size 2 A n (rngv l)) (hn : n ≤ 2097152) :
    Calls Tryd.prog 9 #[.slice A n c] w fun e w' => e = .returned (.slice (some ⟨w.heap.size, 0, none⟩) n (n + 1)) ∧
      w'.ownsRow w.heap.size 41 2 (.slice (some ⟨w.heap.size, 0, none⟩) (n + 1) (n + 1)) (n + 1) (rngv l ++ rngSpare) ∧ Below w.heap.size w w' := by
  obtain ⟨i0, hi0, hz0, hz1, hz2⟩ := info_parts infoRng
  have hl : l.length = n := by have := hr.1; rw [sv_length _ 2 rng1_len] at this; omega
  have HL := Lib.hid hl
  clear hl
  go_enter Tryd.func9, Tryd.ntmps9
  go_wp2_with (at_make; refine wpList_make_own _ rfl _ _ 22 rfl w.heap.size 41 i0 _ 2 Tryd.underlying22 hi0 hz0 hz1 .i64 .i64 _ (n + 1) rfl rfl (by omega) (by rw [hz2]; omega) (by unfold maxLen; omega) (Nat.le_refl _) ?_; intro w1 hown1 hgrow1)
  go_loopw [3, 4] (fun t i wr => ∃ q : Nat, q ≤ n ∧ i = .int .i64 q ∧ t = .slice (some ⟨w.heap.size, 0, none⟩) q (n + 1) ∧ wr.ownsRow w.heap.size 41 2 (.slice (some ⟨w.heap.size, 0, none⟩) q (n + 1)) q (rngv (l.take q)) ∧ Below w.heap.size w wr)
    (fun _ i _ => n - (intOf i).toNat)
  case atStart => exact ⟨0, Nat.zero_le _, rfl, rfl, by simpa [sv] using hown1, (Below.refl _ _).grown hgrow1 (Nat.le_refl _) (by simp)⟩
  case round =>
    obtain ⟨q, hk, rfl, rfl, hown, hb⟩ := hrel
    by_cases hlt : q < n
    · obtain ⟨ad, rfl, had, hce⟩ := (hr.below hb).elem rng1_len hlt HL.out (by omega)
      have hkl : q < l.length := by rw [HL.out]; exact hlt
      have hc0 := hce.1 _ rfl
      have hc1 := hce.2 0 _ rfl
      have hbs := hb.size
      clear hce
      go_wp2_with (at_builtin; refine wpList_append_fits _ rfl (.tmp 15) (.tmp 20) 22 rfl w.heap.size 41 i0 2 Tryd.underlying22 hi0 hz1 w.heap.size q (n + 1) (rngv (l.take q)) rfl (hown.alloc _) ⟨wr.heap.size, 0, none⟩ 1 1 (rng1 (l[q])) rfl rfl (cells_new _ #[.int .i64 (l[q]).fr, .int .i64 (l[q]).to] _) (rng1_one _) (by omega) ?_; intro w2 hown2 hg2)
      have hb2 := (hb.alloc hbs _).grown hg2 (by simp; omega) (by intro q e; cases e; exact Nat.le_refl _)
      clear hown hg2
      go_roundw
      case rel => exact ⟨q + 1, by omega, by go_num, rfl, by rw [show rngv (l.take (q + 1)) = _ from sv_snoc rng1 l q hkl]; exact hown2, hb2⟩
      case measure => simp [intOf]; omega
    · have hkn : q = n := by omega
      subst hkn
      have hbs := hb.size
      have htk : rngv (l.take q) = rngv l := by rw [List.take_of_length_le (by rw [HL.out]; exact Nat.le_refl _)]
      rw [htk] at hown
      clear htk
      go_wp2_with (at_builtin; refine wpList_append_fits _ rfl (.tmp 22) (.tmp 24) 22 rfl w.heap.size 41 i0 2 Tryd.underlying22 hi0 hz1 w.heap.size q (q + 1) (rngv l) rfl (hown.alloc _) ⟨wr.heap.size, 0, none⟩ 1 1 rngSpare rfl rfl (cells_new _ #[.int .i64 77, .int .i64 0] _) (by intro u hu; simp [rngSpare] at hu; rcases hu with rfl | rfl <;> rfl) (by omega) ?_; intro w2 hown2 hg2)
      go_ret
      exact ⟨rfl, hown2, (hb.alloc hbs _).grown hg2 (by simp; omega) (by intro q e; cases e; exact Nat.le_refl _)⟩

set_option maxHeartbeats 400000 in
theorem leftRanges_any (A : Option Addr) (g n c B' : Nat) (l : List Rng) (w : World) (hr : Reads w w.heap.size 2 A n (rngv l)) (hn : n ≤ 2097152)
    (hown : w.ownsRow B' 41 2 (.slice (some ⟨g, 0, none⟩) (n + 1) (n + 1)) (n + 1) (rngv l ++ rngSpare)) :
    Calls Tryd.prog 14 #[.slice (some ⟨g, 0, none⟩) n (n + 1), .slice A n c] w fun e w' => e = .returned (.bool true) ∧ Below w.heap.size w w' := by
  have hl : l.length = n := by have := hr.1; rw [sv_length _ 2 rng1_len] at this; omega
  have HL := Lib.hid hl
  clear hl
  go_enter Tryd.func14, Tryd.ntmps14
  go_wp2
  go_loopw [5] (fun i wr => ∃ q : Nat, q ≤ n ∧ i = .int .i64 q ∧ Below w.heap.size w wr) (fun i _ => n - (intOf i).toNat)
  case atStart => exact ⟨0, Nat.zero_le _, rfl, Below.refl _ _⟩
  case round =>
    obtain ⟨q, hk, rfl, hb⟩ := hrel
    have hown' := own_below hown hb
    by_cases hlt : q < n
    · have hkl : q < l.length := by rw [HL.out]; exact hlt
      obtain ⟨ad, rfl, had, hce⟩ := (hr.below hb).elem rng1_len hlt HL.out (by omega)
      have hc0 := hce.1 _ rfl
      have hc1 := hce.2 0 _ rfl
      have hd0 := own_elem rng1_len hown' hkl (by rw [HL.out]; omega) 0 _ rfl
      have hd1 := own_elem rng1_len hown' hkl (by rw [HL.out]; omega) 1 _ rfl
      rw [Nat.add_zero] at hd0
      clear hown hown' hr hce
      go_wp2
      go_quiet (fail)
      go_wp2
      go_roundw
      case rel => exact ⟨q + 1, by omega, by go_num, below_drewN hb _⟩
      case measure => simp [intOf]; omega
    · have hkn : q = n := by omega
      subst hkn
      have hs0 := own_more rng1_len hown' (by rw [HL.out]; omega) 0 (by omega)
      rw [HL.out] at hs0
      have hs1 := own_more rng1_len hown' (by rw [HL.out]; omega) 1 (by omega)
      rw [HL.out] at hs1
      rw [Nat.add_zero] at hs0
      have ht0 : _ = some ((.int .i64 77 : Value)) := hs0
      have ht1 : _ = some ((.int .i64 0 : Value)) := hs1
      clear hs0 hs1
      clear hown hown' hr
      go_wp2
      go_ret
      exact ⟨rfl, hb.alloc hb.size _⟩

set_option maxHeartbeats 400000 in
theorem sameRanges_any (A A' : Option Addr) (n c c' B : Nat) (l : List Rng) (w : World) (hr : Reads w B 2 A n (rngv l)) (hr' : Reads w B 2 A' n (rngv l)) (hn : n ≤ 140737488351232) :
    Calls Tryd.prog 17 #[.slice A n c, .slice A' n c'] w fun e w' => e = .returned (.bool true) ∧ ∃ m, w' = w.drewN m := by
  have hl : l.length = n := by have := hr.1; rw [sv_length _ 2 rng1_len] at this; omega
  have HL := Lib.hid hl
  clear hl
  go_enter Tryd.func17, Tryd.ntmps17
  go_wp2
  go_loopw [5] (fun i wr => ∃ q : Nat, q ≤ n ∧ i = .int .i64 q ∧ ∃ m, wr = w.drewN m) (fun i _ => n - (intOf i).toNat)
  case atStart => exact ⟨0, Nat.zero_le _, rfl, 0, rfl⟩
  case round =>
    obtain ⟨q, hk, rfl, m, rfl⟩ := hrel
    by_cases hlt : q < n
    · have hkl : q < l.length := by rw [HL.out]; exact hlt
      obtain ⟨ad, rfl, had, hce⟩ := hr.elem rng1_len hlt HL.out (by omega)
      obtain ⟨ad', rfl, had', hde⟩ := hr'.elem rng1_len hlt HL.out (by omega)
      have hc0 := hce.1 _ rfl
      have hc1 := hce.2 0 _ rfl
      have hd0 := hde.1 _ rfl
      have hd1 := hde.2 0 _ rfl
      clear hr hr' hce hde
      go_wp2
      go_quiet (fail)
      go_wp2
      go_roundw
      case rel => exact ⟨q + 1, by omega, by go_num, _, rfl⟩
      case measure => simp [intOf]; omega
    · have hkn : q = n := by omega
      subst hkn
      clear hr hr'
      go_wp2
      go_ret
      exact ⟨rfl, m, rfl⟩
end Go.Proofs.YtgibhlpocmppjaaDoor
