/-
  toolchestref10: three, change, Apply: their contracts.
-/
import Derived.Test.YtfejncbdgbgbmaaBytes
import Derived.Test.YtfejncbdgbgbmaaModePlain
import Derived.Deep.DeepCutAuto
import Derived.Deep.CutBlock
import Derived.StillTailTactics
namespace Go.Proofs.Ytfejncbdgbgbmaa
open Go.RowKit

theorem infoThree : (Try.prog.info? 39).map (fun i => (i.zero, i.size, i.bytes)) = some (some (.agg #[.int .i64 0, .int .i64 0, .int .i64 0]), 3, 24) := by kernel_rfl
def tri (a b c : Nat) : Value := .agg #[.int .i64 (a : Int), .int .i64 (b : Int), .int .i64 (c : Int)]
set_option maxHeartbeats 400000 in
theorem three_any (m : Nat) (w : World) (hm : m < 9223372036854775808) :
    Calls Try.prog 17 #[.int .i64 (m : Int)] w fun e w' => e = .returned (tri (m / 2 ^ 6 % 8) (m / 2 ^ 3 % 8) (m % 8)) ∧ Below w.heap.size w w' := by
  obtain ⟨i0, hi0, hz0, hz1, hz2⟩ := info_parts infoThree
  have h6 : bits .and .i64 ((m : Int) / 64) 7 = ((m / 2 ^ 6 % 8 : Nat) : Int) := by rw [and7]; simp
  have h3 : bits .and .i64 ((m : Int) / 8) 7 = ((m / 2 ^ 3 % 8 : Nat) : Int) := by rw [and7]; simp
  have h0 : bits .and .i64 (m : Int) 7 = ((m % 8 : Nat) : Int) := by rw [and7]; simp
  go_enter Try.func17, Try.ntmps17
  go_wp2_with (refine wpList_alloc_any _ rfl 39 rfl i0 _ hi0 hz0 ?_)
  refine bodyPost_ret (v := tri (m / 2 ^ 6 % 8) (m / 2 ^ 3 % 8) (m % 8)) (by
    rw [results_cell_row rfl _ _ w.heap.size 39 _ (0, 0) _ rfl (heap_alloc_new w _) Try.underlying39 rfl rfl]
    simp [tri]) rfl ⟨rfl, (Below.refl _ _).alloc (Nat.le_refl _) _⟩
  
def xcells (x : Chg) : Array Value := #[.int .i64 x.who, .int .u8 (x.op.toNat : Int), .int .i64 x.bits, .int .u8 (x.copy.toNat : Int), .bool x.dirs]
theorem u8_beq_lit {x : UInt8} {n : Nat} (hn : n < 256) (h : ¬ x = UInt8.ofNat n) : (((x.toNat : Nat) : Int) == (n : Int)) = false := by
  simp only [beq_eq_false_iff_ne]
  intro e
  exact h (UInt8.toNat_inj.1 (by simp; omega))
set_option maxRecDepth 100000 in
set_option maxHeartbeats 2000000 in
theorem change_any (x : Chg) (mask : Int) (dir : Bool) (m : Nat) (w : World) (hm : m < 512) :
    Calls Try.prog 12 #[.agg (xcells x), .int .i64 (m : Int), .int .i64 mask, .bool dir] w fun e w' => e = .returned (.int .i64 (refMode x mask dir m : Nat)) ∧ Below w.heap.size w w' := by
  obtain ⟨i0, hi0, hz0, hz1, hz2⟩ := info_parts infoThree
  obtain ⟨j0, hj0, hy0, hy1, hy2⟩ := info_parts infoChg
  obtain ⟨who, op, bts, copy, dirs⟩ := x
  obtain ⟨r0, r1, r2, hr0, hr1, hr2, rfl⟩ := oct_of m hm
  obtain ⟨B0, hB0, hB0'⟩ : ∃ B0 : Nat, B0 < 8 ∧ (bts % 8) = (B0 : Int) := ⟨(bts % 8).toNat, by omega, by omega⟩
  have h7 : bits .and .i64 bts 7 = (B0 : Int) := by rw [and7]; exact hB0'
  have HB0 := Lib.hid hB0'
  clear hB0'
  go_enter Try.func12, Try.ntmps12
  go_wp2_with fail
  refine (three_any (oct r0 r1 r2) _ (by omega)).mono ?_
  rintro e w1 ⟨rfl, hb1⟩
  rw [oct_hi hr0 hr1 hr2, oct_mid hr1 hr2, oct_low hr2]
  unfold tri
  have hX1 : Blk w1 w.heap.size 32 #[.int .i64 who, .int .u8 (op.toNat : Int), .int .i64 bts, .int .u8 (copy.toNat : Int), .bool dirs] := (Blk.new w 32 _).below hb1 (by simp)
  have hB1 : Below w.heap.size w w1 := below_then ((Below.refl _ _).alloc (Nat.le_refl _) _) (by simp) hb1
  have hs1 : w.heap.size + 1 ≤ w1.heap.size := by have := hb1.size; simpa using this
  have q0 := fun o => (hX1.alloc o).cell 0
  have q1 := fun o => (hX1.alloc o).cell 1
  have q2 := fun o => (hX1.alloc o).cell 2
  have q3 := fun o => (hX1.alloc o).cell 3
  have q4 := fun o => (hX1.alloc o).cell 4
  simp at q0 q1 q2 q3 q4
  clear hb1
  have HX1 := Lib.hid hX1
  clear hX1
  obtain ⟨B1, hB1', hB1e⟩ : ∃ B1 : Nat, B1 < 8 ∧ B1 = (if copy = 117 then B0 ||| r0 else if copy = 103 then B0 ||| r1 else if copy = 111 then B0 ||| r2 else B0) := ⟨_, by
    split
    · exact or_lt8 hB0 hr0
    · split
      · exact or_lt8 hB0 hr1
      · split
        · exact or_lt8 hB0 hr2
        · exact hB0, rfl⟩
  have HB1 := Lib.hid hB1e
  clear hB1e
  go_upto_block 0 with fail
  clear h7

  go_cut [10] (fun b wx => b = .int .i64 (B1 : Nat) ∧ wx = w1.alloc (.cells #[.int .i64 (r0 : Int), .int .i64 (r1 : Int), .int .i64 (r2 : Int)] 39))
  case first =>
    have g0 : bits .or .i64 (B0 : Int) (r0 : Int) = ((B0 ||| r0 : Nat) : Int) := i64_or_nat _ _ (by omega) (by omega)
    have g1 : bits .or .i64 (B0 : Int) (r1 : Int) = ((B0 ||| r1 : Nat) : Int) := i64_or_nat _ _ (by omega) (by omega)
    have g2 : bits .or .i64 (B0 : Int) (r2 : Int) = ((B0 ||| r2 : Nat) : Int) := i64_or_nat _ _ (by omega) (by omega)
    by_cases c1 : copy = 117
    · have e := HB1.out
      simp only [c1, if_true] at e
      have E := Lib.hid e
      clear e
      subst c1
      go_wp2
      go_meet
      case rel => exact ⟨by rw [E.out], rfl⟩
    · have n1 := u8_beq_lit (n := 117) (by decide) c1
      by_cases c2 : copy = 103
      · have e := HB1.out
        simp only [c2, if_true] at e
        have E := Lib.hid e
        subst c2
        clear e c1 n1
        go_wp2
        go_meet
        case rel => exact ⟨by rw [E.out]; rfl, rfl⟩
      · have n2 := u8_beq_lit (n := 103) (by decide) c2
        by_cases c3 : copy = 111
        · have e := HB1.out
          simp only [c1, c2, c3, if_false, if_true] at e
          have E := Lib.hid e
          subst c3
          clear e c1 c2 n1 n2
          go_wp2
          go_meet
          case rel => exact ⟨by rw [E.out]; rfl, rfl⟩
        · have n3 := u8_beq_lit (n := 111) (by decide) c3
          have e := HB1.out
          simp only [c1, c2, c3, if_false] at e
          have E := Lib.hid e
          clear e c1 c2 c3
          go_wp2
          go_meet
          case rel => exact ⟨by rw [E.out], rfl⟩
  case rest =>
    obtain ⟨rfl, rfl⟩ := hcut
    obtain ⟨T, HT⟩ : ∃ T, Hid (T = (((r0 ||| r1) ||| r2) % 2)) := ⟨_, Lib.hid rfl⟩
    have hT2 : T = 0 ∨ T = 1 := by rw [HT.out]; omega
    go_upto_region 10 with fail
    go_cut [56] (fun b wx => b = .bool (dirs && (dir || decide (T = 1))) ∧ wx = w1.alloc (.cells #[.int .i64 (r0 : Int), .int .i64 (r1 : Int), .int .i64 (r2 : Int)] 39))
    case first =>
      have g1 : bits .or .i64 (r0 : Int) (r1 : Int) = ((r0 ||| r1 : Nat) : Int) := i64_or_nat _ _ (by omega) (by omega)
      have l1 := or_lt8 hr0 hr1
      have l2 := or_lt8 l1 hr2
      have g2 : bits .or .i64 ((r0 ||| r1 : Nat) : Int) (r2 : Int) = ((r0 ||| r1 ||| r2 : Nat) : Int) := i64_or_nat _ _ (by omega) (by omega)
      have g3 : bits .and .i64 ((r0 ||| r1 ||| r2 : Nat) : Int) 1 = (T : Int) := by rw [and1, HT.out]; simp
      have g4 : ((T : Int) == 1) = decide (T = 1) := by rcases hT2 with rfl | rfl <;> rfl
      clear hT2
      cases dirs with
      | false =>
        go_wp2
        go_meet
        case rel => exact ⟨rfl, rfl⟩
      | true =>
        cases dir with
        | true =>
          go_wp2
          go_meet
          case rel => exact ⟨rfl, rfl⟩
        | false =>
          go_wp2
          go_meet
          case rel => exact ⟨rfl, rfl⟩
    case rest =>
      obtain ⟨rfl, rfl⟩ := hcut
      generalize hbb : (dirs && (dir || decide (T = 1))) = bb
      have HBB := Lib.hid hbb
      obtain ⟨B2, HB2, hB2⟩ : ∃ B2 : Nat, Hid (B2 = if bb = true then B1 ||| 1 else B1) ∧ B2 < 8 := ⟨_, Lib.hid rfl, by split <;> first | exact or_lt8 hB1' (by decide) | exact hB1'⟩
      clear hbb hT2
      go_upto_if 56 with fail
      go_cut [10] (fun b wx => b = .int .i64 (B2 : Nat) ∧ wx = w1.alloc (.cells #[.int .i64 (r0 : Int), .int .i64 (r1 : Int), .int .i64 (r2 : Int)] 39))
      case first =>
        have hor1 : bits .or .i64 (B1 : Int) 1 = ((B1 ||| 1 : Nat) : Int) := i64_or_nat B1 1 (by omega) (by decide)
        cases bb with
        | false =>
          go_wp2
          go_meet
          case rel => exact ⟨by rw [HB2.out]; simp, rfl⟩
        | true =>
          go_wp2
          go_meet
          case rel => exact ⟨by rw [HB2.out]; simp, rfl⟩
      case rest =>
        obtain ⟨rfl, rfl⟩ := hcut
        go_wp2_with fail
        refine (three_any 0 _ (by decide)).mono ?_
        rintro e w2 ⟨rfl, hb2⟩
        have hX2 : Blk w2 w.heap.size 32 #[.int .i64 who, .int .u8 (op.toNat : Int), .int .i64 bts, .int .u8 (copy.toNat : Int), .bool dirs] := (HX1.out.alloc _).below hb2 (by simp; omega)
        have hR2 : Blk w2 w1.heap.size 39 #[.int .i64 (r0 : Int), .int .i64 (r1 : Int), .int .i64 (r2 : Int)] := (Blk.new w1 39 _).below hb2 (by simp)
        have hB2' : Below w.heap.size w w2 := below_then (hB1.alloc (by omega) _) (by simp; omega) hb2
        have hs2 : w1.heap.size + 1 ≤ w2.heap.size := by have := hb2.size; simpa using this
        have q0 := fun o => (hX2.alloc o).cell 0
        have q1 := fun o => (hX2.alloc o).cell 1
        simp at q0 q1
        clear hb2
        have HX2 := Lib.hid hX2
        have HR2 := Lib.hid hR2
        clear hX2 hR2
        rw [show tri (0 / 2 ^ 6 % 8) (0 / 2 ^ 3 % 8) (0 % 8) = .agg #[.int .i64 0, .int .i64 0, .int .i64 0] from rfl]
        obtain ⟨W0, hW0, hW0'⟩ : ∃ W0 : Nat, W0 < 8 ∧ who % 8 = (W0 : Int) := ⟨(who % 8).toNat, by omega, by omega⟩
        have hwho : bits .and .i64 who 7 = (W0 : Int) := by rw [and7]; exact hW0'
        have HW0 := Lib.hid hW0'
        have hww : chgWho ⟨who, op, bts, copy, dirs⟩ < 8 := by unfold chgWho; split <;> omega
        obtain ⟨W1, HW1⟩ : ∃ W1, Hid (W1 = chgWho ⟨who, op, bts, copy, dirs⟩) := ⟨_, Lib.hid rfl⟩
        rw [← HW1.out] at hww
        obtain ⟨K, hK, hK'⟩ : ∃ K : Nat, K < 512 ∧ mask % 512 = (K : Int) := ⟨(mask % 512).toNat, by omega, by omega⟩
        have hmk : bits .and .i64 mask 511 = (K : Int) := by rw [and511]; exact hK'
        have HK := Lib.hid hK'
        clear hW0' hK'
        obtain ⟨s0, S0⟩ : ∃ s0, Hid (s0 = stayOf ⟨who, op, bts, copy, dirs⟩ mask 6) := ⟨_, Lib.hid rfl⟩
        obtain ⟨s1, S1⟩ : ∃ s1, Hid (s1 = stayOf ⟨who, op, bts, copy, dirs⟩ mask 3) := ⟨_, Lib.hid rfl⟩
        obtain ⟨s2, S2⟩ : ∃ s2, Hid (s2 = stayOf ⟨who, op, bts, copy, dirs⟩ mask 0) := ⟨_, Lib.hid rfl⟩
        go_upto_if 64 with fail
        go_cut [12] (fun b wx => b = .int .i64 (W1 : Nat) ∧ Blk wx w.heap.size 32 #[.int .i64 who, .int .u8 (op.toNat : Int), .int .i64 bts, .int .u8 (copy.toNat : Int), .bool dirs] ∧
          Blk wx w1.heap.size 39 #[.int .i64 (r0 : Int), .int .i64 (r1 : Int), .int .i64 (r2 : Int)] ∧ Blk wx w2.heap.size 39 #[.int .i64 (s0 : Int), .int .i64 (s1 : Int), .int .i64 (s2 : Int)] ∧ Below w.heap.size w wx)
        case first =>
          by_cases hz : W0 = 0
          · have e1 : W1 = 7 := by rw [HW1.out]; unfold chgWho; rw [if_pos (by show who % 8 = 0; have := HW0.out; omega)]
            have t0 : s0 = K / 2 ^ 6 % 8 ∧ s1 = K / 2 ^ 3 % 8 ∧ s2 = K % 8 := by
              have hk : (mask % 512).toNat = K := by have := HK.out; omega
              rw [S0.out, S1.out, S2.out]
              unfold stayOf
              rw [if_pos (by show who % 8 = 0; have := HW0.out; omega), if_pos (by show who % 8 = 0; have := HW0.out; omega), if_pos (by show who % 8 = 0; have := HW0.out; omega), hk]
              simp
            have E1 := Lib.hid e1
            have T0 := Lib.hid t0
            subst hz
            clear e1 t0
            go_wp2_with fail
            refine (three_any K _ (by omega)).mono ?_
            rintro e w3 ⟨rfl, hb3⟩
            unfold tri
            have hZ3 : Blk w3 w2.heap.size 39 #[.int .i64 0, .int .i64 0, .int .i64 0] := (Blk.new w2 39 _).below hb3 (by simp)
            have hX3 : Blk w3 w.heap.size 32 #[.int .i64 who, .int .u8 (op.toNat : Int), .int .i64 bts, .int .u8 (copy.toNat : Int), .bool dirs] := (HX2.out.alloc _).below hb3 (by simp; omega)
            have hR3 : Blk w3 w1.heap.size 39 #[.int .i64 (r0 : Int), .int .i64 (r1 : Int), .int .i64 (r2 : Int)] := (HR2.out.alloc _).below hb3 (by simp; omega)
            have hB3 : Below w.heap.size w w3 := below_then (hB2'.alloc (by omega) _) (by simp; omega) hb3
            have z0 := hZ3.cell 0
            have z1 := hZ3.cell 1
            have z2 := hZ3.cell 2
            have f0 := hZ3.frozen 0
            have f1 := hZ3.frozen 1
            have f2 := hZ3.frozen 2
            simp at z0 z1 z2
            have HZ3 := Lib.hid hZ3
            have HX3 := Lib.hid hX3
            have HR3 := Lib.hid hR3
            clear hb3 hZ3 hX3 hR3
            go_wp2_with fail
            go_meet
            case rel =>
              obtain ⟨t0, t1, t2⟩ := T0.out
              have hn1 : w.heap.size ≠ w2.heap.size := by omega
              have hn2 : w1.heap.size ≠ w2.heap.size := by omega
              refine ⟨by rw [E1.out]; rfl, ((HX3.out.far (p := ⟨w2.heap.size, 0, none⟩) hn1 _).far (p := ⟨w2.heap.size, 1, none⟩) hn1 _).far (p := ⟨w2.heap.size, 2, none⟩) hn1 _, ((HR3.out.far (p := ⟨w2.heap.size, 0, none⟩) hn2 _).far (p := ⟨w2.heap.size, 1, none⟩) hn2 _).far (p := ⟨w2.heap.size, 2, none⟩) hn2 _, ?_, ((hB3.setCell (p := ⟨w2.heap.size, 0, none⟩) (by show _ ≤ w2.heap.size; omega) _).setCell (p := ⟨w2.heap.size, 1, none⟩) (by show _ ≤ w2.heap.size; omega) _).setCell (p := ⟨w2.heap.size, 2, none⟩) (by show _ ≤ w2.heap.size; omega) _⟩
              have h := ((HZ3.out.set_ 0 (.int .i64 ((K : Int) / 64 % 8))).set_ 1 (.int .i64 ((K : Int) / 8 % 8))).set_ 2 (.int .i64 ((K : Int) % 8))
              rw [t0, t1, t2]
              simpa using h
          · have e1 : W1 = W0 := by rw [HW1.out]; unfold chgWho; rw [if_neg (by show ¬ who % 8 = 0; have := HW0.out; omega)]; show (who % 8).toNat = _; have := HW0.out; omega
            have t0 : s0 = 0 ∧ s1 = 0 ∧ s2 = 0 := by
              rw [S0.out, S1.out, S2.out]
              unfold stayOf
              rw [if_neg (by show ¬ who % 8 = 0; have := HW0.out; omega), if_neg (by show ¬ who % 8 = 0; have := HW0.out; omega), if_neg (by show ¬ who % 8 = 0; have := HW0.out; omega)]
              simp
            obtain ⟨rfl, rfl, rfl⟩ := t0
            have E1 := Lib.hid e1
            have hq : ((W0 : Int) == 0) = false := by simp [hz]
            clear e1 hz
            go_wp2_with fail
            go_meet
            case rel => exact ⟨by rw [E1.out], HX2.out.alloc _, HR2.out.alloc _, Blk.new w2 _ _, hB2'.alloc (by omega) _⟩
        case rest =>
          obtain ⟨rfl, hX, hR, hS, hB⟩ := hcut
          have hs0 : s0 < 8 := by rw [S0.out]; exact stay_lt _ _ _
          have hs1 : s1 < 8 := by rw [S1.out]; exact stay_lt _ _ _
          have hs2' : s2 < 8 := by rw [S2.out]; exact stay_lt _ _ _
          obtain ⟨R, HR, hR8⟩ : ∃ R : Nat → Nat, Hid (R = fun j => if j = 0 then r0 else if j = 1 then r1 else r2) ∧ ∀ j, R j < 8 := ⟨_, Lib.hid rfl, fun j => by show (if _ then _ else if _ then _ else _) < 8; repeat' split
                                                                                                                                                                  all_goals assumption⟩
          obtain ⟨S, HS, hS8⟩ : ∃ S : Nat → Nat, Hid (S = fun j => if j = 0 then s0 else if j = 1 then s1 else s2) ∧ ∀ j, S j < 8 := ⟨_, Lib.hid rfl, fun j => by show (if _ then _ else if _ then _ else _) < 8; repeat' split
                                                                                                                                                                  all_goals assumption⟩
          have bR : Buf wc w1.heap.size 3 (fun j => .int .i64 ((if j < 0 then refDig op (W1 / 2 ^ (2 - j) % 2 == 1) B2 (S j) (R j) else R j : Nat) : Int)) := by
            refine ⟨_, _, 0, 0, hR, by simp, fun j _ => by omega, fun j hj => ?_⟩
            rw [HR.out]
            match j, hj with
            | 0, _ => rfl
            | 1, _ => rfl
            | 2, _ => rfl
          have bS : Buf wc w2.heap.size 3 (fun j => .int .i64 (S j : Int)) := by
            refine ⟨_, _, 0, 0, hS, by simp, fun j _ => by omega, fun j hj => ?_⟩
            rw [HS.out]
            match j, hj with
            | 0, _ => rfl
            | 1, _ => rfl
            | 2, _ => rfl
          clear hR hS
          go_wp2
          go_loopw [13] (fun i wr => ∃ q : Nat, q ≤ 3 ∧ i = .int .i64 q ∧ Blk wr w.heap.size 32 #[.int .i64 who, .int .u8 (op.toNat : Int), .int .i64 bts, .int .u8 (copy.toNat : Int), .bool dirs] ∧
            Buf wr w1.heap.size 3 (fun j => .int .i64 ((if j < q then refDig op (W1 / 2 ^ (2 - j) % 2 == 1) B2 (S j) (R j) else R j : Nat) : Int)) ∧ Buf wr w2.heap.size 3 (fun j => .int .i64 (S j : Int)) ∧ Below w.heap.size w wr) (fun i _ => 3 - (intOf i).toNat)
          case atStart => exact ⟨0, by omega, rfl, hX, bR, bS, hB⟩
          case round =>
            obtain ⟨q, hq3, rfl, hX, bR, bS, hB⟩ := hrel
            by_cases hlt : q < 3
            · have t2 : (2 : Int) - (q : Int) = ((2 - q : Nat) : Int) := by omega
              have hsub : IntKind.i64.wrap (2 - (q : Int)) = ((2 - q : Nat) : Int) := by rw [IntKind.wrap_i64]; omega
              by_cases hd : W1 / 2 ^ (2 - q) % 2 = 1
              · have hbit : (bits .and .i64 ((W1 : Int) / 2 ^ (2 - q)) 1 == 0) = false := by
                  rw [and1, show ((W1 : Int) / 2 ^ (2 - q) % 2) = ((W1 / 2 ^ (2 - q) % 2 : Nat) : Int) from by simp, hd]; rfl
                have cR : wr.cell? ⟨w1.heap.size, q, none⟩ = some (.int .i64 (R q : Int)) := by
                  have h := bR.cell hlt
                  simpa using h
                have fR := bR.frozen hlt
                have cS : wr.cell? ⟨w2.heap.size, q, none⟩ = some (.int .i64 (S q : Int)) := bS.cell hlt
                have cX := hX.cell 1
                simp at cX
                have hRq := hR8 q
                have hSq := hS8 q
                have HD := Lib.hid hd
                have HbR := Lib.hid bR
                have HbS := Lib.hid bS
                have HhX := Lib.hid hX
                have HR8 := Lib.hid hR8
                have HS8 := Lib.hid hS8
                obtain ⟨V, HV, hV8⟩ : ∃ V : Nat, Hid (V = refOp op (R q) B2) ∧ V < 8 := ⟨_, Lib.hid rfl, by
                  unfold refOp
                  split
                  · exact or_lt8 hRq hB2
                  · split
                    · exact Nat.lt_of_le_of_lt Nat.and_le_left hRq
                    · split <;> assumption⟩
                clear hd bR bS hX hR8 hS8
                go_upto_block 3 with fail
                clear hbit hsub t2
                go_cut [14] (fun b wx => b = .int .i64 (V : Nat) ∧ wx = wr)
                case first =>
                  by_cases o1 : op = 43
                  · have e : V = R q ||| B2 := by rw [HV.out, refOp, if_pos o1]
                    have g := i64_or_nat (R q) B2 (by omega) (by omega)
                    rw [← e] at g
                    clear e
                    subst o1
                    go_wp2
                    go_meet
                    case rel => exact ⟨rfl, rfl⟩
                  · have n1 := u8_beq_lit (n := 43) (by decide) o1
                    by_cases o2 : op = 45
                    · have e : V = R q &&& (7 - B2) := by rw [HV.out, refOp, if_neg o1, if_pos o2]
                      have g : bits .andNot .i64 (R q : Int) (B2 : Int) = (V : Int) := by
                        rw [i64_andNot_low (B2 : Int) 3 (by decide) (R q) hRq, e]
                        have : ((B2 : Int) % ((2 ^ 3 : Nat) : Int)).toNat = B2 := by omega
                        rw [this]
                      clear e o1
                      subst o2
                      clear n1
                      go_wp2
                      go_meet
                      case rel => exact ⟨rfl, rfl⟩
                    · have n2 := u8_beq_lit (n := 45) (by decide) o2
                      by_cases o3 : op = 61
                      · have e : V = B2 := by rw [HV.out, refOp, if_neg o1, if_neg o2, if_pos o3]
                        have E := Lib.hid e
                        clear e o1 o2
                        subst o3
                        clear n1 n2
                        go_wp2
                        go_meet
                        case rel => exact ⟨by rw [E.out], rfl⟩
                      · have n3 := u8_beq_lit (n := 61) (by decide) o3
                        have e : V = R q := by rw [HV.out, refOp, if_neg o1, if_neg o2, if_neg o3]
                        have E := Lib.hid e
                        clear e o1 o2 o3
                        go_wp2
                        go_meet
                        case rel => exact ⟨by rw [E.out], rfl⟩
                case rest =>
                  obtain ⟨rfl, rfl⟩ := hcut
                  have g1 : bits .andNot .i64 (V : Int) (S q : Int) = ((V &&& (7 - S q) : Nat) : Int) := by
                    rw [i64_andNot_low (S q : Int) 3 (by decide) V hV8]
                    have : ((S q : Int) % ((2 ^ 3 : Nat) : Int)).toNat = S q := by omega
                    rw [this]
                  have g2 := i64_and_nat (R q) (S q) (by omega) (by omega)
                  have g3 := i64_or_nat (V &&& (7 - S q)) (R q &&& S q) (Nat.lt_of_le_of_lt Nat.and_le_left (by omega)) (Nat.lt_of_le_of_lt Nat.and_le_left (by omega))
                  have e : (V &&& (7 - S q)) ||| (R q &&& S q) = refDig op (W1 / 2 ^ (2 - q) % 2 == 1) B2 (S q) (R q) := by
                    rw [HD.out]
                    unfold refDig
                    rw [← HV.out]
                    rfl
                  have E := Lib.hid e
                  clear e
                  go_wp2
                  go_still_tail 15, (by kernel_rfl)
                  change wpList _ _ _ _ _ wc.drew
                  go_wp2
                  go_roundw
                  case rel =>
                    refine ⟨q + 1, by omega, by go_num, HhX.out.drew.far (p := ⟨w1.heap.size, q, none⟩) (by show _ ≠ w1.heap.size; omega) _, ?_, HbS.out.drew.far (a := ⟨w1.heap.size, q, none⟩) (by show _ ≠ w1.heap.size; omega) _, (below_drewN hB 1).setCell (p := ⟨w1.heap.size, q, none⟩) (by show _ ≤ w1.heap.size; omega) _⟩
                    refine (HbR.out.drew.set q _).congr fun j hj => ?_
                    by_cases h1 : j = q
                    · rw [if_pos h1, if_pos (by omega), h1, ← E.out]
                    · rw [if_neg h1]
                      by_cases h2 : j < q
                      · rw [if_pos h2, if_pos (by omega)]
                      · rw [if_neg h2, if_neg (by omega)]
                  case measure => simp [intOf]; omega
              · have hbit : (bits .and .i64 ((W1 : Int) / 2 ^ (2 - q)) 1 == 0) = true := by
                  rw [and1, show ((W1 : Int) / 2 ^ (2 - q) % 2) = ((W1 / 2 ^ (2 - q) % 2 : Nat) : Int) from by simp, show W1 / 2 ^ (2 - q) % 2 = 0 from by omega]; rfl
                have HD := Lib.hid hd
                clear hd
                go_wp2
                go_roundw
                case rel =>
                  refine ⟨q + 1, by omega, by go_num, hX, bR.congr fun j hj => ?_, bS, hB⟩
                  by_cases h1 : j < q
                  · rw [if_pos h1, if_pos (by omega)]
                  · rw [if_neg h1]
                    by_cases h2 : j < q + 1
                    · rw [if_pos h2]
                      obtain rfl : j = q := by omega
                      have : (W1 / 2 ^ (2 - j) % 2 == 1) = false := by simpa using HD.out
                      rw [this]
                      rfl
                    · rw [if_neg h2]
                case measure => simp [intOf]; omega
            · have hq : q = 3 := by omega
              have HQ := Lib.hid hq
              obtain ⟨d0, D0⟩ : ∃ d0, Hid (d0 = refDig op (W1 / 4 % 2 == 1) B2 s0 r0) := ⟨_, Lib.hid rfl⟩
              obtain ⟨d1, D1⟩ : ∃ d1, Hid (d1 = refDig op (W1 / 2 % 2 == 1) B2 s1 r1) := ⟨_, Lib.hid rfl⟩
              obtain ⟨d2, D2⟩ : ∃ d2, Hid (d2 = refDig op (W1 % 2 == 1) B2 s2 r2) := ⟨_, Lib.hid rfl⟩
              have c0 : wr.cell? ⟨w1.heap.size, 0, none⟩ = some (.int .i64 (d0 : Int)) := by
                rw [bR.cell (i := 0) (by decide), D0.out, HR.out, HS.out, if_pos (by omega)]; rfl
              have c1 : wr.cell? ⟨w1.heap.size, 1, none⟩ = some (.int .i64 (d1 : Int)) := by
                rw [bR.cell (i := 1) (by decide), D1.out, HR.out, HS.out, if_pos (by omega)]; rfl
              have c2 : wr.cell? ⟨w1.heap.size, 2, none⟩ = some (.int .i64 (d2 : Int)) := by
                rw [bR.cell (i := 2) (by decide), D2.out, HR.out, HS.out, if_pos (by omega), Nat.sub_self, Nat.pow_zero, Nat.div_one]; rfl
              have hlt' : ¬ (q < 3) := hlt
              have hdig : ∀ (t : Bool) (s r : Nat), r < 8 → refDig op t B2 s r < 8 := fun t s r hr => by
                unfold refDig refOp
                split
                · refine or_lt8 (Nat.lt_of_le_of_lt Nat.and_le_left ?_) (Nat.lt_of_le_of_lt Nat.and_le_left hr)
                  split
                  · exact or_lt8 hr hB2
                  · split
                    · exact Nat.lt_of_le_of_lt Nat.and_le_left hr
                    · split <;> assumption
                · exact hr
              have d0l : d0 < 8 := by rw [D0.out]; exact hdig _ _ _ hr0
              have d1l : d1 < 8 := by rw [D1.out]; exact hdig _ _ _ hr1
              have d2l : d2 < 8 := by rw [D2.out]; exact hdig _ _ _ hr2
              obtain ⟨Z, HZ, hZ⟩ : ∃ Z : Nat, Hid (Z = 64 * d0 + 8 * d1) ∧ Z < 512 := ⟨_, Lib.hid rfl, by omega⟩
              have g1 : bits .or .i64 ((d0 : Int) * 64) ((d1 : Int) * 8) = (Z : Int) := by
                rw [show ((d0 : Int) * 64) = ((64 * d0 : Nat) : Int) from by push_cast; omega, show ((d1 : Int) * 8) = ((8 * d1 : Nat) : Int) from by push_cast; omega, i64_or_nat _ _ (by omega) (by omega), HZ.out]
                have h := or_oct (a := d0) (b := 0) (c := 0) (a' := 0) (b' := d1) (c' := 0) (by decide) (by decide) d1l (by decide)
                simp [oct] at h
                rw [show 64 * d0 = 8 * (8 * d0) from by omega, h]
                congr 1
                omega
              have g2 : bits .or .i64 (Z : Int) (d2 : Int) = ((oct d0 d1 d2 : Nat) : Int) := by
                rw [i64_or_nat _ _ (by omega) (by omega), HZ.out]
                have h := or_oct (a := d0) (b := d1) (c := 0) (a' := 0) (b' := 0) (c' := d2) d1l (by decide) (by decide) d2l
                simp at h
                rw [show 64 * d0 + 8 * d1 = oct d0 d1 0 from by unfold oct; omega]
                have h0 : oct 0 0 d2 = d2 := by unfold oct; omega
                rw [h0] at h
                rw [h]
              have EE := Lib.hid (show refMode ⟨who, op, bts, copy, dirs⟩ mask dir (oct r0 r1 r2) = oct d0 d1 d2 from by
                have hb2 : refBits ⟨who, op, bts, copy, dirs⟩ r0 r1 r2 dir = B2 := by
                  have k0 : (bts % 8).toNat = B0 := by have := HB0.out; omega
                  have hc : bb = true ↔ (dirs = true ∧ (dir = true ∨ ((r0 ||| r1) ||| r2) % 2 = 1)) := by
                    rw [← HBB.out, HT.out]; simp
                  rw [HB2.out, HB1.out]
                  unfold refBits
                  simp only [k0]
                  by_cases hbt : bb = true
                  · rw [if_pos hbt, if_pos (hc.1 hbt)]
                  · rw [if_neg hbt, if_neg (fun h => hbt (hc.2 h))]
                unfold refMode
                rw [oct_hi hr0 hr1 hr2, oct_mid hr1 hr2, oct_low hr2]
                simp only [hb2]
                rw [← HW1.out, ← S0.out, ← S1.out, ← S2.out, ← D0.out, ← D1.out, ← D2.out])
              clear hq hX bR bS hR8 hS8 hdig
              go_wp2
              go_ret
              exact ⟨ret_int (by rw [EE.out]), hB⟩

set_option maxHeartbeats 400000 in
theorem refApply_any (A : Option Addr) (n c : Nat) (l : List Chg) (mode mask : Int) (dir : Bool) (w : World) (hr : Reads w w.heap.size 5 A n (chgv l)) (hn : n ≤ 2097152) :
    Calls Try.prog 7 #[.slice A n c, .int .i64 mode, .int .i64 mask, .bool dir] w fun e w' => e = .returned (.int .i64 (chgAll l mask dir (mode % 512).toNat : Nat)) ∧ Below w.heap.size w w' := by
  have hl : l.length = n := by have := hr.1; rw [sv_length _ 5 chg1_len] at this; omega
  have HL := Lib.hid hl
  clear hl
  have h511 : bits .and .i64 mode 511 = (((mode % 512).toNat : Nat) : Int) := by rw [and511]; omega
  obtain ⟨m0, hm0, hm0'⟩ : ∃ m0 : Nat, m0 < 512 ∧ m0 = (mode % 512).toNat := ⟨_, by omega, rfl⟩
  rw [← hm0'] at h511 ⊢
  clear hm0'
  go_enter Try.func7, Try.ntmps7
  go_wp2
  go_loopw [1, 9] (fun t i wr => ∃ q : Nat, q ≤ n ∧ i = .int .i64 q ∧ t = .int .i64 (chgAll (l.take q) mask dir m0 : Nat) ∧ chgAll (l.take q) mask dir m0 < 512 ∧ Below w.heap.size w wr)
    (fun _ i _ => n - (intOf i).toNat)
  case atStart => exact ⟨0, Nat.zero_le _, rfl, rfl, hm0, Below.refl _ _⟩
  case round =>
    obtain ⟨q, hk, rfl, rfl, hlt512, hb⟩ := hrel
    by_cases hlt : q < n
    · obtain ⟨ad, rfl, had, hce⟩ := (hr.below hb).elem chg1_len hlt HL.out (by omega)
      have hkl : q < l.length := by rw [HL.out]; exact hlt
      have hc0 := hce.1 _ rfl
      have hc1 := hce.2 0 _ rfl
      have hc2 := hce.2 1 _ rfl
      have hc3 := hce.2 2 _ rfl
      have hc4 := hce.2 3 _ rfl
      have hbs := hb.size
      have hnext : chgAll (l.take (q + 1)) mask dir m0 = chgMode l[q] mask dir (chgAll (l.take q) mask dir m0) := by
        unfold chgAll
        rw [List.take_succ_eq_append_getElem hkl, List.foldl_append]
        rfl
      have Hnext := Lib.hid hnext
      clear hnext hce
      generalize hM : chgAll (l.take q) mask dir m0 = M at hlt512 Hnext
      generalize hX : l[q] = x at hc0 hc1 hc2 hc3 hc4 Hnext
      clear hM hX
      have hc := change_any x mask dir M wr hlt512
      rw [← chg_same x mask dir M hlt512] at hc
      have HC := Lib.hid hc
      have h5 := chgMode_lt x mask dir M hlt512
      clear hc
      go_wp2_with fail
      refine HC.out.mono ?_
      rintro e w5 ⟨rfl, hb5⟩
      have hb6 := below_then hb hbs hb5
      clear hb5
      go_wp2_with fail
      go_roundw
      case rel => exact ⟨q + 1, by omega, by go_num, by rw [Hnext.out], by rw [Hnext.out]; exact h5, hb6⟩
      case measure => simp [intOf]; omega
    · obtain rfl : q = n := by omega
      rw [List.take_of_length_le (by rw [HL.out]; exact Nat.le_refl _)]
      clear h511
      go_wp2
      go_ret
      exact ⟨rfl, hb⟩
end Go.Proofs.Ytfejncbdgbgbmaa
