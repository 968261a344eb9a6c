/-
  toolchestlaw01's TwinBytes and LeftBytes: contracts. Conditions: the slice reads as a list of bytes and lies below the heap's end.
-/
import Derived.Test.YtejneiakpeeamaaBytes
namespace Go.Proofs.Ytejneiakpeeamaa
open Go.RowKit

set_option maxHeartbeats 400000 in
theorem twinBytes_any (A : Option Addr) (n c : Nat) (l : List UInt8) (w : World) (hr : Reads w w.heap.size 1 A n (bv l)) (hn : n ≤ 2097152) :
    Calls Try.prog 9 #[.slice A n c] w fun e w' => e = .returned (.slice (some ⟨w.heap.size, 0, none⟩) n (n + 1)) ∧
      w'.ownsRow w.heap.size 5 1 (.slice (some ⟨w.heap.size, 0, none⟩) (n + 1) (n + 1)) (n + 1) (bv l ++ [.int .u8 77]) ∧ Below w.heap.size w w' := by
  obtain ⟨i0, hi0, hz0, hz1, hz2⟩ := info_parts infoU8
  have hl : l.length = n := by have := hr.1; rw [bv_length] at this; omega
  have HL := Lib.hid hl
  clear hl
  go_enter Try.func9, Try.ntmps9
  go_wp2_with (at_make; refine wpList_make_own _ rfl _ _ 22 rfl w.heap.size 5 i0 (.int .u8 0) 1 Try.underlying22 hi0 hz0 hz1 .i64 .i64 _ (n + 1) rfl rfl (by omega) (by rw [hz2]; omega) (by unfold maxLen; omega) (Nat.le_refl _) ?_; intro w1 hown1 hgrow1)
  go_loopw [3, 4] (fun t i wr => ∃ k : Nat, k ≤ n ∧ i = .int .i64 k ∧ t = .slice (some ⟨w.heap.size, 0, none⟩) k (n + 1) ∧ wr.ownsRow w.heap.size 5 1 (.slice (some ⟨w.heap.size, 0, none⟩) k (n + 1)) k (bv (l.take k)) ∧ Below w.heap.size w wr)
    (fun _ i _ => n - (intOf i).toNat)
  case atStart => exact ⟨0, Nat.zero_le _, rfl, rfl, by simpa [bv] using hown1, (Below.refl _ _).grown hgrow1 (Nat.le_refl _) (by simp)⟩
  case round =>
    obtain ⟨k, hk, rfl, rfl, hown, hb⟩ := hrel
    by_cases hlt : k < n
    · obtain ⟨ad, u, rfl, had, hu, hcell⟩ := (hr.below hb).at_ hlt
      have hkl : k < l.length := by rw [HL.out]; exact hlt
      rw [bv_get l k hkl] at hu
      injection hu with hu
      subst hu
      have hbs := hb.size
      go_wp2_with (at_builtin; refine wpList_append_fits _ rfl (.tmp 15) (.tmp 20) 22 rfl w.heap.size 5 i0 1 Try.underlying22 hi0 hz1 w.heap.size k (n + 1) (bv (l.take k)) rfl (hown.alloc _) ⟨wr.heap.size, 0, none⟩ 1 1 [.int .u8 ((l[k]).toNat : Int)] rfl rfl (cell_one_new _ _ _) (by intro u hu; simp at hu; subst hu; rfl) (by omega) ?_; intro w2 hown2 hg2)
      have hb2 := (hb.alloc hbs _).grown hg2 (by simp; omega) (by intro q e; cases e; exact Nat.le_refl _)
      clear hown hcell hg2
      go_roundw
      case rel => exact ⟨k + 1, by omega, by go_num, rfl, by rw [bv_snoc l k hkl]; exact hown2, hb2⟩
      case measure => simp [intOf]; omega
    · have hkn : k = n := by omega
      subst hkn
      have hbs := hb.size
      have htk : bv (l.take k) = bv l := by rw [List.take_of_length_le (by rw [HL.out]; exact Nat.le_refl _)]
      rw [htk] at hown
      clear htk
      go_wp2_with (at_builtin; refine wpList_append_fits _ rfl (.tmp 22) (.tmp 23) 22 rfl w.heap.size 5 i0 1 Try.underlying22 hi0 hz1 w.heap.size k (k + 1) (bv l) rfl (hown.alloc _) ⟨wr.heap.size, 0, none⟩ 1 1 [.int .u8 77] rfl rfl (cell_one_new _ _ _) (by intro u hu; simp at hu; subst hu; rfl) (by omega) ?_; intro w2 hown2 hg2)
      go_ret
      exact ⟨rfl, hown2, (hb.alloc hbs _).grown hg2 (by simp; omega) (by intro q e; cases e; exact Nat.le_refl _)⟩

set_option maxHeartbeats 400000 in
theorem leftBytes_any (A : Option Addr) (g n c B B' : Nat) (l : List UInt8) (w : World) (hr : Reads w B 1 A n (bv l)) (hn : n ≤ 2097152)
    (hown : w.ownsRow B' 5 1 (.slice (some ⟨g, 0, none⟩) (n + 1) (n + 1)) (n + 1) (bv l ++ [.int .u8 77])) :
    Calls Try.prog 12 #[.slice (some ⟨g, 0, none⟩) n (n + 1), .slice A n c] w fun e w' => e = .returned (.bool true) ∧ ∃ m, w' = w.drewN m := by
  have hl : l.length = n := by have := hr.1; rw [bv_length] at this; omega
  have HL := Lib.hid hl
  clear hl
  have hlast : w.cell? ⟨g, n, none⟩ = some (.int .u8 77) := by
    rw [hown.cellAt n (by omega), List.getElem?_append_right (by rw [bv_length, HL.out]; exact Nat.le_refl _), bv_length, HL.out, Nat.sub_self]; rfl
  go_enter Try.func12, Try.ntmps12
  go_wp2
  go_loopw [5] (fun i wr => ∃ k : Nat, k ≤ n ∧ i = .int .i64 k ∧ ∃ m, wr = w.drewN m) (fun i _ => n - (intOf i).toNat)
  case atStart => exact ⟨0, Nat.zero_le _, rfl, 0, rfl⟩
  case round =>
    obtain ⟨k, hk, rfl, m, rfl⟩ := hrel
    by_cases hlt : k < n
    · obtain ⟨ad, u, rfl, had, hu, hcell⟩ := hr.at_ hlt
      have hkl : k < l.length := by rw [HL.out]; exact hlt
      rw [bv_get l k hkl] at hu
      injection hu with hu
      subst hu
      have hcell2 : w.cell? ⟨g, k, none⟩ = some (.int .u8 ((l[k]).toNat : Int)) := by
        rw [hown.cellAt k (by omega), List.getElem?_append_left (by rw [bv_length]; exact hkl), bv_get l k hkl]
      clear hown hr
      go_wp2
      go_quiet (fail)
      go_wp2
      go_roundw
      case rel => exact ⟨k + 1, by omega, by go_num, _, rfl⟩
      case measure => simp [intOf]; omega
    · have hkn : k = n := by omega
      subst hkn
      clear hown hr
      go_wp2
      go_ret
      exact ⟨rfl, m, rfl⟩
theorem twin_reads {w : World} {B B' g n : Nat} {l : List UInt8} {e : TypeId} (h : w.ownsRow B' e 1 (.slice (some ⟨g, 0, none⟩) (n + 1) (n + 1)) (n + 1) (bv l ++ [.int .u8 77])) (hl : l.length = n) (hB : g < B) : Reads w B 1 (some ⟨g, 0, none⟩) n (bv l) :=
  ⟨by rw [bv_length]; omega, fun _ => ⟨_, rfl, hB, fun j u hu => by
    have hj : j < l.length := by have := (List.getElem?_eq_some_iff.1 hu).1; rw [bv_length] at this; exact this
    rw [Addr.add_lit, Nat.zero_add, h.cellAt j (by omega), List.getElem?_append_left (by rw [bv_length]; exact hj)]
    exact hu⟩⟩
end Go.Proofs.Ytejneiakpeeamaa
