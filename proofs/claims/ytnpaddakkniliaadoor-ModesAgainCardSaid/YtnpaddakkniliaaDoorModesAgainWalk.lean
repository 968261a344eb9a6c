/-
  ModesAgain: the law's walk.
-/
import Derived.Test.YtnpaddakkniliaaDoorModesOneWalk
import Derived.StillTailTactics
import Derived.Deep.RegionHeld3
namespace Go.Proofs.YtnpaddakkniliaaDoor
open Go.RowKit

theorem twice_snoc (l : List Chg) (q : Nat) (h : q < l.length) : twice (l.take (q + 1)) = twice (l.take q) ++ [l[q], l[q]] := by
  unfold twice
  rw [List.take_succ_eq_append_getElem h, List.flatMap_append]
  rfl
theorem byteNe {x : UInt8} {n : Nat} (hn : n < 256) (h : ¬ x = UInt8.ofNat n) : (((x.toNat : Nat) : Int) == (n : Int)) = false := by
  have := u8_beq_false h
  rwa [show (UInt8.ofNat n).toNat = n from by simp; omega] at this
theorem ogu_none_of {c : UInt8} (h1 : c ≠ 117) (h2 : c ≠ 103) (h3 : c ≠ 111) : ogu c = none := by
  unfold ogu
  rw [if_neg h3, if_neg h2, if_neg h1]
theorem ag_up {w w' : World} {A : Option Addr} {n : Nat} {xs : List Value} {k : Nat} (h : Reads w w.heap.size k A n xs) (hB : Below w.heap.size w w') : Reads w' w'.heap.size k A n xs := (h.below hB).more hB.size
theorem ag_chain {w w1 w' : World} (k : Below w1.heap.size w1 w') (h : Below w.heap.size w w1) : Below w.heap.size w w' := below_then h h.size k
theorem ag_st {w2 W' : World} {g : Nat} {x y z : Option Value} (hg : g < w2.heap.size) (h0 : w2.cell? ⟨g, 0, none⟩ = x) (h1 : w2.cell? ⟨g, 1, none⟩ = y) (h2 : w2.cell? ⟨g, 2, none⟩ = z) (h3 : Below w2.heap.size w2 W') :
    W'.cell? ⟨g, 0, none⟩ = x ∧ W'.cell? ⟨g, 1, none⟩ = y ∧ W'.cell? ⟨g, 2, none⟩ = z ∧ Below w2.heap.size w2 W' :=
  ⟨(h3.cell hg).trans h0, (h3.cell hg).trans h1, (h3.cell hg).trans h2, h3⟩
/-- How far ModesAgain is. -/
def AgSt (l : List Chg) (n : Nat) (w1 : World) (t i : Value) (wr : World) : Prop :=
  ∃ q : Nat, q ≤ n ∧ i = .int .i64 q ∧ wr.ownsRow w1.heap.size 36 5 t (2 * q) (chgv (twice (l.take q))) ∧ Below w1.heap.size w1 wr ∧ ∀ x ∈ l.take q, ogu x.copy = none

set_option maxRecDepth 100000 in
set_option maxHeartbeats 8000000 in
theorem modesAgain_walk (B : Nat) (A : Option Addr) (n c : Nat) (l : List Chg) (mode mask : Int) (dir : Bool) (w : World)
    (hr : Reads w w.heap.size 5 A n (chgv l)) (hn : n ≤ 140737488351232) (_hnil : A = none → c = 0) (hE : EnvM B w) :
    Calls Tryd.prog 6 #[.slice A n c, .agg #[.int .i64 mode, .int .i64 mask, .bool dir]] w fun e w' => e = .returned (.bool true) ∧ Below w.heap.size w w' := by
  obtain ⟨i0, hi0, hz0, hz1', hz2⟩ := info_parts infoChg
  clear _hnil
  have hl : l.length = n := by have := hr.1; rw [sv_length _ 5 chg1_len] at this; omega
  have HL := Lib.hid hl
  clear hl
  have b0 : Below w.heap.size w (w.alloc (.cells #[.int .i64 mode, .int .i64 mask, .bool dir] 27)) := (Below.refl _ _).alloc (Nat.le_refl _) _
  have k0 := Blk.new w 27 #[.int .i64 mode, .int .i64 mask, .bool dir]
  have E0 := hE.up b0
  go_enter Tryd.func6, Tryd.ntmps6
  go_wp2_with fail
  refine (malive_any B _ E0).mono ?_
  rintro e w1 ⟨rfl, hB1⟩
  have k1 := k0.below hB1 (by simp)
  have b1 := below_then b0 b0.size hB1
  have E1 := E0.up hB1
  have hr1 := (hr.below b1).more b1.size
  have hs1 : w.heap.size < w1.heap.size := by have := hB1.size; simp at this; omega
  clear hr k0 E0 hE b0 hB1
  by_cases hbd : (5000 : Int) < (n : Int)
  · go_wp2_with fail
    refine (malive_any B _ E1).mono ?_
    rintro e w4 ⟨rfl, hB4⟩
    go_wp2_with fail
    go_ret
    exact ⟨rfl, below_then b1 b1.size hB4⟩
  go_wp2_with fail
  go_loopw [5, 6] (fun t i wr => AgSt l n w1 t i wr) (fun _ i _ => n - (intOf i).toNat)
  case atStart => exact ⟨0, Nat.zero_le _, rfl, World.ownsRow_nil _ _ _ _, Below.refl _ _, fun x h => absurd h (by simp)⟩
  case round =>
    obtain ⟨q, hk, rfl, hown, hb, hno⟩ := hrel
    have hbs := hb.size
    by_cases hlt : q < n
    · obtain ⟨ad, rfl, had, hce⟩ := (hr1.below hb).elem chg1_len hlt HL.out (by omega)
      have hkl : q < l.length := by rw [HL.out]; exact hlt
      have hc0 := hce.1 _ rfl
      have hc1 := hce.2 0 _ rfl
      have hc2 := hce.2 1 _ rfl
      have hc3 := hce.2 2 _ rfl
      have hc4 := hce.2 3 _ rfl
      clear hce
      have htw := twice_snoc l q hkl
      have hmem : ∀ x ∈ l.take (q + 1), ogu x.copy = none ∨ x = l[q] := fun x hx => by
        rw [List.take_succ_eq_append_getElem hkl, List.mem_append] at hx
        rcases hx with h | h
        · exact .inl (hno x h)
        · exact .inr (by simpa using h)
      generalize hX : l[q] = x at hc0 hc1 hc2 hc3 hc4 htw hmem
      clear hX
      have HTW := Lib.hid htw
      have HMEM := Lib.hid hmem
      have HNO := Lib.hid hno
      clear htw hmem hno
      obtain ⟨who, op, bts, copy, dirs⟩ := x
      have hqI : (q : Int) < (n : Int) := by omega
      by_cases h1 : copy = 117
      · subst h1
        go_wp2_with fail
        go_ret
        exact ⟨rfl, below_then b1 b1.size hb⟩
      have q1 : ((copy.toNat : Int) == 117) = false := byteNe (n := 117) (by decide) h1
      by_cases h2 : copy = 103
      · subst h2
        go_wp2_with fail
        go_ret
        exact ⟨rfl, below_then b1 b1.size hb⟩
      have q2 : ((copy.toNat : Int) == 103) = false := byteNe (n := 103) (by decide) h2
      by_cases h3 : copy = 111
      · subst h3
        go_wp2_with fail
        go_ret
        exact ⟨rfl, below_then b1 b1.size hb⟩
      have q3 : ((copy.toNat : Int) == 111) = false := byteNe (n := 111) (by decide) h3
      have HC := Lib.hid (ogu_none_of h1 h2 h3)
      clear h1 h2 h3
      go_upto_region 9 with fail
      go_region_law ((refine step_append_any _ rfl (.tmp 43) (.tmp 52) 34 rfl w1.heap.size 36 i0 (.agg #[.int .i64 0, .int .u8 0, .int .i64 0, .int .u8 0, .bool false]) 5 32 Tryd.underlying34 hi0 hz0 hz1' hz2 rfl (by decide) _ _ _ (by simp [Act.eval]) ((hown.drew).alloc _) (wr.heap.size + 1) (some ⟨wr.heap.size, 0, none⟩) 2 2 (chgv [⟨who, op, bts, copy, dirs⟩, ⟨who, op, bts, copy, dirs⟩]) (by simp [Act.eval]) (reads_rowM wr.drew 36 5 2 #[.int .i64 who, .int .u8 (op.toNat : Int), .int .i64 bts, .int .u8 (copy.toNat : Int), .bool dirs, .int .i64 who, .int .u8 (op.toNat : Int), .int .i64 bts, .int .u8 (copy.toNat : Int), .bool dirs] _ rfl rfl) (chgv_one _) (by unfold maxLen; omega) (by omega) (by simp; omega) ?_; intro v4 w4 hown4 hg4 hat4; have hb4 : Below w1.heap.size w1 w4 := ((below_drewN hb 1).alloc hbs _).grown hg4 (by simp; omega) (own_ge hown)))
      all_goals
        go_wp2_with fail
        go_roundw
      all_goals first
        | (simp [intOf]; omega)
        | (refine ⟨q + 1, by omega, by go_num, ?_, hb4, fun x hx => (HMEM.out x hx).elim id fun h => by rw [h]; exact HC.out⟩
           rw [HTW.out, show chgv (twice (l.take q) ++ [⟨who, op, bts, copy, dirs⟩, ⟨who, op, bts, copy, dirs⟩]) = chgv (twice (l.take q)) ++ chgv [⟨who, op, bts, copy, dirs⟩, ⟨who, op, bts, copy, dirs⟩] from by simp [sv_append], show 2 * (q + 1) = 2 * q + 2 from by omega]
           exact hown4)
    · obtain rfl : q = n := by omega
      have hqI : ¬ (q : Int) < (q : Int) := by omega
      rw [List.take_of_length_le (by rw [HL.out]; exact Nat.le_refl _)] at hown hno
      obtain ⟨m, hm⟩ : ∃ m, m = 2 * q := ⟨_, rfl⟩
      rw [← hm] at hown
      obtain ⟨A6, c6, rfl⟩ := own_slice hown
      have ra := Reads.of_own hown
      have rl := (hr1.below hb).more hb.size
      have kb := k1.below hb hs1
      have bb := below_then b1 b1.size hb
      have HTW := Lib.hid (chgAll_twice mask dir l (mode % 512).toNat (by omega) hno)
      have hX : w.heap.size < wr.heap.size := by omega
      have hq5 : q ≤ 2097152 := by omega
      have hm5 : m ≤ 2097152 := by omega
      have c0 : wr.cell? ⟨w.heap.size, 0, none⟩ = some (.int .i64 mode) := kb.cell 0
      have c1 : wr.cell? ⟨w.heap.size, 1, none⟩ = some (.int .i64 mask) := kb.cell 1
      have c2 : wr.cell? ⟨w.heap.size, 2, none⟩ = some (.bool dir) := kb.cell 2
      clear hown hb hno hr1 k1 b1 kb HL hs1 hbs hm
      go_wp2_with fail
      have hBd : Below wr.heap.size wr wr.drew := below_drewN (Below.refl _ _) 1
      go_region_held3 (fun w' => w'.cell? ⟨w.heap.size, 0, none⟩ = some (.int .i64 mode) ∧ w'.cell? ⟨w.heap.size, 1, none⟩ = some (.int .i64 mask) ∧ w'.cell? ⟨w.heap.size, 2, none⟩ = some (.bool dir) ∧ Below wr.heap.size wr w')
        ((refine ag_st hX c0 c1 c2 ?_; assumption))
        (first
         | (go_at_call 17; with_reducible refine (apply_any A q c l mode mask dir _ (ag_up rl ?_) hq5).mono ?_; (first | assumption | exact below_drewN (Below.refl _ _) 1); rintro e w' ⟨rfl, hb⟩; have hbk := ag_chain (w := wr) hb (by assumption))
         | (go_at_call 17; with_reducible refine (apply_any A6 m c6 (twice l) mode mask dir _ (ag_up ra ?_) hm5).mono ?_; (first | assumption | exact below_drewN (Below.refl _ _) 1); rintro e w' ⟨rfl, hb⟩; rw [HTW.out]; have hbk := ag_chain (w := wr) hb (by assumption)))
      go_wp2_with fail
      go_ret
      exact ⟨rfl, below_then bb bb.size hbk⟩
end Go.Proofs.YtnpaddakkniliaaDoor
