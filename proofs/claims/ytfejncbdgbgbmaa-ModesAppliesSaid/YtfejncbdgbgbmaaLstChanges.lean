/-
  Lists of api.Change: how they read; toolchestlaw01's TwinChanges, LeftChanges, SameChanges: contracts. (Written by gen_lists.py.)
-/
import Derived.Test.YtfejncbdgbgbmaaBase
import Derived.Test.YtfejncbdgbgbmaaChecked
namespace Go.Proofs.Ytfejncbdgbgbmaa
open Go.RowKit

structure Chg where
  who : Int
  op : UInt8
  bits : Int
  copy : UInt8
  dirs : Bool
def chg1 (x : Chg) : List Value := [.int .i64 x.who, .int .u8 (x.op.toNat : Int), .int .i64 x.bits, .int .u8 (x.copy.toNat : Int), .bool x.dirs]
theorem chg1_len (x : Chg) : (chg1 x).length = 5 := rfl
theorem chg1_one (x : Chg) : ∀ u ∈ chg1 x, u.oneCell' = true := by
  intro u hu
  simp [chg1] at hu
  rcases hu with rfl | rfl | rfl | rfl | rfl <;> rfl
def chgSpare : List Value := [.int .i64 0, .int .u8 0, .int .i64 77, .int .u8 0, .bool false]
theorem infoChg : (Try.prog.info? 32).map (fun i => (i.zero, i.size, i.bytes)) = some (some (.agg #[.int .i64 0, .int .u8 0, .int .i64 0, .int .u8 0, .bool false]), 5, 32) := by kernel_rfl
abbrev chgv (l : List Chg) : List Value := sv chg1 l

set_option maxHeartbeats 400000 in
theorem twinChanges_any (A : Option Addr) (n c : Nat) (l : List Chg) (w : World) (hr : Reads w w.heap.size 5 A n (chgv l)) (hn : n ≤ 2097152) :
    Calls Try.prog 5 #[.slice A n c] w fun e w' => e = .returned (.slice (some ⟨w.heap.size, 0, none⟩) n (n + 1)) ∧
      w'.ownsRow w.heap.size 32 5 (.slice (some ⟨w.heap.size, 0, none⟩) (n + 1) (n + 1)) (n + 1) (chgv l ++ chgSpare) ∧ Below w.heap.size w w' := by
  obtain ⟨i0, hi0, hz0, hz1, hz2⟩ := info_parts infoChg
  have hl : l.length = n := by have := hr.1; rw [sv_length _ 5 chg1_len] at this; omega
  have HL := Lib.hid hl
  clear hl
  go_enter Try.func5, Try.ntmps5
  go_wp2_with (at_make; refine wpList_make_own _ rfl _ _ 22 rfl w.heap.size 32 i0 _ 5 Try.underlying22 hi0 hz0 hz1 .i64 .i64 _ (n + 1) rfl rfl (by omega) (by rw [hz2]; omega) (by unfold maxLen; omega) (Nat.le_refl _) ?_; intro w1 hown1 hgrow1)
  go_loopw [3, 4] (fun t i wr => ∃ q : Nat, q ≤ n ∧ i = .int .i64 q ∧ t = .slice (some ⟨w.heap.size, 0, none⟩) q (n + 1) ∧ wr.ownsRow w.heap.size 32 5 (.slice (some ⟨w.heap.size, 0, none⟩) q (n + 1)) q (chgv (l.take q)) ∧ Below w.heap.size w wr)
    (fun _ i _ => n - (intOf i).toNat)
  case atStart => exact ⟨0, Nat.zero_le _, rfl, rfl, by simpa [sv] using hown1, (Below.refl _ _).grown hgrow1 (Nat.le_refl _) (by simp)⟩
  case round =>
    obtain ⟨q, hk, rfl, rfl, hown, hb⟩ := hrel
    by_cases hlt : q < n
    · obtain ⟨ad, rfl, had, hce⟩ := (hr.below hb).elem chg1_len hlt HL.out (by omega)
      have hkl : q < l.length := by rw [HL.out]; exact hlt
      have hc0 := hce.1 _ rfl
      have hc1 := hce.2 0 _ rfl
      have hc2 := hce.2 1 _ rfl
      have hc3 := hce.2 2 _ rfl
      have hc4 := hce.2 3 _ rfl
      have hbs := hb.size
      clear hce
      go_wp2_with (at_builtin; refine wpList_append_fits _ rfl (.tmp 15) (.tmp 20) 22 rfl w.heap.size 32 i0 5 Try.underlying22 hi0 hz1 w.heap.size q (n + 1) (chgv (l.take q)) rfl (hown.alloc _) ⟨wr.heap.size, 0, none⟩ 1 1 (chg1 (l[q])) rfl rfl (cells_new _ #[.int .i64 (l[q]).who, .int .u8 ((l[q]).op.toNat : Int), .int .i64 (l[q]).bits, .int .u8 ((l[q]).copy.toNat : Int), .bool (l[q]).dirs] _) (chg1_one _) (by omega) ?_; intro w2 hown2 hg2)
      have hb2 := (hb.alloc hbs _).grown hg2 (by simp; omega) (by intro q e; cases e; exact Nat.le_refl _)
      clear hown hg2
      go_roundw
      case rel => exact ⟨q + 1, by omega, by go_num, rfl, by rw [show chgv (l.take (q + 1)) = _ from sv_snoc chg1 l q hkl]; exact hown2, hb2⟩
      case measure => simp [intOf]; omega
    · have hkn : q = n := by omega
      subst hkn
      have hbs := hb.size
      have htk : chgv (l.take q) = chgv l := by rw [List.take_of_length_le (by rw [HL.out]; exact Nat.le_refl _)]
      rw [htk] at hown
      clear htk
      go_wp2_with (at_builtin; refine wpList_append_fits _ rfl (.tmp 22) (.tmp 24) 22 rfl w.heap.size 32 i0 5 Try.underlying22 hi0 hz1 w.heap.size q (q + 1) (chgv l) rfl (hown.alloc _) ⟨wr.heap.size, 0, none⟩ 1 1 chgSpare rfl rfl (cells_new _ #[.int .i64 0, .int .u8 0, .int .i64 77, .int .u8 0, .bool false] _) (by intro u hu; simp [chgSpare] at hu; rcases hu with rfl | rfl | rfl | rfl | rfl <;> rfl) (by omega) ?_; intro w2 hown2 hg2)
      go_ret
      exact ⟨rfl, hown2, (hb.alloc hbs _).grown hg2 (by simp; omega) (by intro q e; cases e; exact Nat.le_refl _)⟩

set_option maxHeartbeats 400000 in
theorem leftChanges_any (A : Option Addr) (g n c B' : Nat) (l : List Chg) (w : World) (hr : Reads w w.heap.size 5 A n (chgv l)) (hn : n ≤ 2097152)
    (hown : w.ownsRow B' 32 5 (.slice (some ⟨g, 0, none⟩) (n + 1) (n + 1)) (n + 1) (chgv l ++ chgSpare)) :
    Calls Try.prog 8 #[.slice (some ⟨g, 0, none⟩) n (n + 1), .slice A n c] w fun e w' => e = .returned (.bool true) ∧ Below w.heap.size w w' := by
  have hl : l.length = n := by have := hr.1; rw [sv_length _ 5 chg1_len] at this; omega
  have HL := Lib.hid hl
  clear hl
  go_enter Try.func8, Try.ntmps8
  go_wp2
  go_loopw [5] (fun i wr => ∃ q : Nat, q ≤ n ∧ i = .int .i64 q ∧ Below w.heap.size w wr) (fun i _ => n - (intOf i).toNat)
  case atStart => exact ⟨0, Nat.zero_le _, rfl, Below.refl _ _⟩
  case round =>
    obtain ⟨q, hk, rfl, hb⟩ := hrel
    have hown' := own_below hown hb
    by_cases hlt : q < n
    · have hkl : q < l.length := by rw [HL.out]; exact hlt
      obtain ⟨ad, rfl, had, hce⟩ := (hr.below hb).elem chg1_len hlt HL.out (by omega)
      have hc0 := hce.1 _ rfl
      have hc1 := hce.2 0 _ rfl
      have hc2 := hce.2 1 _ rfl
      have hc3 := hce.2 2 _ rfl
      have hc4 := hce.2 3 _ rfl
      have hd0 := own_elem chg1_len hown' hkl (by rw [HL.out]; omega) 0 _ rfl
      have hd1 := own_elem chg1_len hown' hkl (by rw [HL.out]; omega) 1 _ rfl
      have hd2 := own_elem chg1_len hown' hkl (by rw [HL.out]; omega) 2 _ rfl
      have hd3 := own_elem chg1_len hown' hkl (by rw [HL.out]; omega) 3 _ rfl
      have hd4 := own_elem chg1_len hown' hkl (by rw [HL.out]; omega) 4 _ rfl
      rw [Nat.add_zero] at hd0
      clear hown hown' hr hce
      go_wp2
      go_quiet (fail)
      go_wp2
      go_roundw
      case rel => exact ⟨q + 1, by omega, by go_num, below_drewN hb _⟩
      case measure => simp [intOf]; omega
    · have hkn : q = n := by omega
      subst hkn
      have hs0 := own_more chg1_len hown' (by rw [HL.out]; omega) 0 (by omega)
      rw [HL.out] at hs0
      have hs1 := own_more chg1_len hown' (by rw [HL.out]; omega) 1 (by omega)
      rw [HL.out] at hs1
      have hs2 := own_more chg1_len hown' (by rw [HL.out]; omega) 2 (by omega)
      rw [HL.out] at hs2
      have hs3 := own_more chg1_len hown' (by rw [HL.out]; omega) 3 (by omega)
      rw [HL.out] at hs3
      have hs4 := own_more chg1_len hown' (by rw [HL.out]; omega) 4 (by omega)
      rw [HL.out] at hs4
      rw [Nat.add_zero] at hs0
      have ht0 : _ = some ((.int .i64 0 : Value)) := hs0
      have ht1 : _ = some ((.int .u8 0 : Value)) := hs1
      have ht2 : _ = some ((.int .i64 77 : Value)) := hs2
      have ht3 : _ = some ((.int .u8 0 : Value)) := hs3
      have ht4 : _ = some ((.bool false : Value)) := hs4
      clear hs0 hs1 hs2 hs3 hs4
      clear hown hown' hr
      go_wp2
      go_ret
      exact ⟨rfl, hb.alloc hb.size _⟩

end Go.Proofs.Ytfejncbdgbgbmaa
