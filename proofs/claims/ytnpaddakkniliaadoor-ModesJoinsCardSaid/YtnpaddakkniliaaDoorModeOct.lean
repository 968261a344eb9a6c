/-
  modes.Parse: its contract at octal texts.
-/
import Derived.Test.YtnpaddakkniliaaDoorModeParse
namespace Go.Proofs.YtnpaddakkniliaaDoor
open Go.RowKit

/-- The changes of an octal number. -/
def octC (n : Nat) : List Chg := [⟨4, 61, (n / 64 % 8 : Nat), 0, false⟩, ⟨2, 61, (n / 8 % 8 : Nat), 0, false⟩, ⟨1, 61, (n % 8 : Nat), 0, false⟩]
theorem readV_le {L : List UInt8} {n : Nat} (h : readV L = some n) : n ≤ 511 ∧ L.length ≤ 4 := by
  unfold readV at h
  split at h
  · rename_i h2
    injection h with h
    exact ⟨by omega, by omega⟩
  · cases h
theorem reads_oneM (w : World) (who bts : Int) : Reads (w.alloc (.cells #[.int .i64 who, .int .u8 61, .int .i64 bts, .int .u8 0, .bool false] 36)) (w.heap.size + 1) 5 (some ⟨w.heap.size, 0, none⟩) 1 (chgv [⟨who, 61, bts, 0, false⟩]) := by
  refine ⟨rfl, fun _ => ⟨_, rfl, Nat.lt_succ_self _, fun j u hu => ?_⟩⟩
  rw [Addr.add_lit, Nat.zero_add, (Blk.new w _ _).cell j, ← Array.getElem?_toList]
  exact hu
theorem octC_snoc (n q : Nat) (x : Chg) (h : (octC n)[q]? = some x) : (octC n).take (q + 1) = (octC n).take q ++ [x] := by
  rw [List.take_add_one, h]
  rfl
/-- How far the changes of an octal number are. -/
def OctSt (n : Nat) (w1 : World) (q : Nat) (v : Value) (wr : World) : Prop := wr.ownsRow w1.heap.size 36 5 v q (chgv ((octC n).take q)) ∧ Below w1.heap.size w1 wr

set_option maxRecDepth 100000 in
set_option maxHeartbeats 4000000 in
theorem mparse_oct (B : Nat) (L : List UInt8) (n : Nat) (w : World) (hE : EnvM B w) (hr : readV L = some n) :
    Calls Tryd.prog 19 #[.string (str L)] w fun e w' => (∃ v, e = .returned (.tuple #[v, .int .i64 0]) ∧ w'.ownsRow w.heap.size 36 5 v 3 (chgv (octC n))) ∧ Below w.heap.size w w' := by
  obtain ⟨i0, hi0, hz0, hz1', hz2⟩ := info_parts infoChg
  have hs0 : (str L).size = L.length := str_size L
  obtain ⟨hn, hl4⟩ := readV_le hr
  have hbI : decide ((4096 : Int) < (L.length : Int)) = false := decide_eq_false (by omega)
  have HE := Lib.hid hE
  have HR := Lib.hid hr
  clear hE hr
  go_enter Tryd.func19, Tryd.ntmps19
  go_wp2_with fail
  refine (read_any B L w (by omega) HE.out).mono ?_
  rintro e w1 ⟨he, hB0⟩
  unfold ReadIs at he
  rw [HR.out] at he
  have he2 : e = .returned (.tuple #[.int .i64 (n : Int), .bool true]) := he
  subst he2
  clear he HE
  have HN := Lib.hid hn
  have HN3 := Lib.hid hl4
  clear hn hl4
  go_wp2_with fail
  go_loopw [4, 21] (fun v i wr => (i = .int .i64 0 ∧ OctSt n w1 0 v wr) ∨ (i = .int .i64 1 ∧ OctSt n w1 1 v wr) ∨ (i = .int .i64 2 ∧ OctSt n w1 2 v wr) ∨ (i = .int .i64 3 ∧ OctSt n w1 3 v wr)) (fun _ i _ => 3 - (intOf i).toNat)
  case atStart => exact .inl ⟨rfl, World.ownsRow_nil _ _ _ _, Below.refl _ _⟩
  case round =>
    rcases hrel with ⟨rfl, hown, hb⟩ | ⟨rfl, hown, hb⟩ | ⟨rfl, hown, hb⟩ | ⟨rfl, hown, hb⟩
    · have hbs := hb.size
      have e6 : bits .and .i64 ((n : Int) / 2 ^ 6) 7 = ((n / 64 % 8 : Nat) : Int) := by rw [and7]; have := HN.out; omega
      have e6' : bits .and .i64 ((n : Int) / 64) 7 = ((n / 64 % 8 : Nat) : Int) := by rw [and7]; have := HN.out; omega
      have i0w : IntKind.i64.wrap 0 = 0 := by decide
      have i3w : IntKind.i64.wrap 3 = 3 := by decide
      have i6w : IntKind.i64.wrap 6 = 6 := by decide
      go_upto_region 9 with fail
      go_region_law ((refine step_append_any _ rfl (.tmp 24) (.tmp 34) 34 rfl w1.heap.size 36 i0 (.agg #[.int .i64 0, .int .u8 0, .int .i64 0, .int .u8 0, .bool false]) 5 32 Tryd.underlying34 hi0 hz0 hz1' hz2 rfl (by decide) _ _ _ (by simp [Act.eval]) ((hown.drew).alloc _) (wr.heap.size + 1) (some ⟨wr.heap.size, 0, none⟩) 1 1 (chgv [⟨4, 61, (n / 64 % 8 : Nat), 0, false⟩]) (by simp [Act.eval]) (reads_oneM wr.drew 4 (n / 64 % 8 : Nat)) (chgv_one _) (by unfold maxLen; omega) (by omega) (by simp; omega) ?_; intro v4 w4 hown4 hg4 hat4; have hb4 : Below w1.heap.size w1 w4 := ((below_drewN hb 1).alloc hbs _).grown hg4 (by simp; omega) (own_ge hown)))
      all_goals
        go_wp2_with fail
        go_roundw
      all_goals first
        | (simp [intOf]; done)
        | (refine .inr (.inl ⟨rfl, ?_, hb4⟩)
           rw [octC_snoc n 0 ⟨4, 61, (n / 64 % 8 : Nat), 0, false⟩ rfl, show chgv ((octC n).take 0 ++ [⟨4, 61, (n / 64 % 8 : Nat), 0, false⟩]) = chgv ((octC n).take 0) ++ chgv [⟨4, 61, (n / 64 % 8 : Nat), 0, false⟩] from sv_append chg1 _ _]
           exact hown4)
    · have hbs := hb.size
      have e6 : bits .and .i64 ((n : Int) / 2 ^ 3) 7 = ((n / 8 % 8 : Nat) : Int) := by rw [and7]; have := HN.out; omega
      have e6' : bits .and .i64 ((n : Int) / 8) 7 = ((n / 8 % 8 : Nat) : Int) := by rw [and7]; have := HN.out; omega
      have i0w : IntKind.i64.wrap 0 = 0 := by decide
      have i3w : IntKind.i64.wrap 3 = 3 := by decide
      have i6w : IntKind.i64.wrap 6 = 6 := by decide
      go_upto_region 9 with fail
      go_region_law ((refine step_append_any _ rfl (.tmp 24) (.tmp 34) 34 rfl w1.heap.size 36 i0 (.agg #[.int .i64 0, .int .u8 0, .int .i64 0, .int .u8 0, .bool false]) 5 32 Tryd.underlying34 hi0 hz0 hz1' hz2 rfl (by decide) _ _ _ (by simp [Act.eval]) ((hown.drew).alloc _) (wr.heap.size + 1) (some ⟨wr.heap.size, 0, none⟩) 1 1 (chgv [⟨2, 61, (n / 8 % 8 : Nat), 0, false⟩]) (by simp [Act.eval]) (reads_oneM wr.drew 2 (n / 8 % 8 : Nat)) (chgv_one _) (by unfold maxLen; omega) (by omega) (by simp; omega) ?_; intro v4 w4 hown4 hg4 hat4; have hb4 : Below w1.heap.size w1 w4 := ((below_drewN hb 1).alloc hbs _).grown hg4 (by simp; omega) (own_ge hown)))
      all_goals
        go_wp2_with fail
        go_roundw
      all_goals first
        | (simp [intOf]; done)
        | (refine .inr (.inr (.inl ⟨rfl, ?_, hb4⟩))
           rw [octC_snoc n 1 ⟨2, 61, (n / 8 % 8 : Nat), 0, false⟩ rfl, show chgv ((octC n).take 1 ++ [⟨2, 61, (n / 8 % 8 : Nat), 0, false⟩]) = chgv ((octC n).take 1) ++ chgv [⟨2, 61, (n / 8 % 8 : Nat), 0, false⟩] from sv_append chg1 _ _]
           exact hown4)
    · have hbs := hb.size
      have e6 : bits .and .i64 ((n : Int) / 2 ^ 0) 7 = ((n % 8 : Nat) : Int) := by rw [and7]; have := HN.out; omega
      have e6' : bits .and .i64 (n : Int) 7 = ((n % 8 : Nat) : Int) := by rw [and7]; have := HN.out; omega
      have i0w : IntKind.i64.wrap 0 = 0 := by decide
      have i3w : IntKind.i64.wrap 3 = 3 := by decide
      have i6w : IntKind.i64.wrap 6 = 6 := by decide
      go_upto_region 9 with fail
      go_region_law ((refine step_append_any _ rfl (.tmp 24) (.tmp 34) 34 rfl w1.heap.size 36 i0 (.agg #[.int .i64 0, .int .u8 0, .int .i64 0, .int .u8 0, .bool false]) 5 32 Tryd.underlying34 hi0 hz0 hz1' hz2 rfl (by decide) _ _ _ (by simp [Act.eval]) ((hown.drew).alloc _) (wr.heap.size + 1) (some ⟨wr.heap.size, 0, none⟩) 1 1 (chgv [⟨1, 61, (n % 8 : Nat), 0, false⟩]) (by simp [Act.eval]) (reads_oneM wr.drew 1 (n % 8 : Nat)) (chgv_one _) (by unfold maxLen; omega) (by omega) (by simp; omega) ?_; intro v4 w4 hown4 hg4 hat4; have hb4 : Below w1.heap.size w1 w4 := ((below_drewN hb 1).alloc hbs _).grown hg4 (by simp; omega) (own_ge hown)))
      all_goals
        go_wp2_with fail
        go_roundw
      all_goals first
        | (simp [intOf]; done)
        | (refine .inr (.inr (.inr (⟨rfl, ?_, hb4⟩)))
           rw [octC_snoc n 2 ⟨1, 61, (n % 8 : Nat), 0, false⟩ rfl, show chgv ((octC n).take 2 ++ [⟨1, 61, (n % 8 : Nat), 0, false⟩]) = chgv ((octC n).take 2) ++ chgv [⟨1, 61, (n % 8 : Nat), 0, false⟩] from sv_append chg1 _ _]
           exact hown4)
    · go_wp2_with fail
      go_ret2
      exact ⟨⟨_, rfl, ownsRow_mono hown hB0.size⟩, below_then hB0 hB0.size hb⟩
end Go.Proofs.YtnpaddakkniliaaDoor
