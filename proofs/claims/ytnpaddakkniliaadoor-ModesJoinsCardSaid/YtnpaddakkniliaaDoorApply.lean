/-
  modes.Apply: its contract.
-/
import Derived.Test.YtnpaddakkniliaaDoorBytes
import Derived.Test.YtnpaddakkniliaaDoorOps
import Derived.Test.YtnpaddakkniliaaDoorThrice
import Derived.Test.YtnpaddakkniliaaDoorModePlain
import Derived.Test.YtnpaddakkniliaaDoorShelf
import Derived.Deep.DeepCutAuto
namespace Go.Proofs.YtnpaddakkniliaaDoor
open Go.RowKit

theorem index_lit (l : List UInt8) (c : UInt8) (w : World) :
    Calls Tryd.prog 25 #[.string ⟨l.toArray⟩, .int .u8 (c.toNat : Int)] w fun e w' => e = .returned (.int .i64 (Lib.indexByte l c)) ∧ w = w' := by
  refine (Go.Proofs.Tryd.strings_IndexByte ⟨l.toArray⟩ (c.toNat : Int) w).mono fun e w' h => ⟨?_, h.2.symm⟩
  rw [h.1]
  have e1 : ((c.toNat : Int)).toNat.toUInt8 = c := by simp
  rw [e1]
theorem ogu_index (c : UInt8) : (Lib.indexByte [111, 103, 117] c) = (match ogu c with | some i => (i : Int) | none => -1) := by
  unfold ogu
  by_cases h1 : c = 111
  · rw [h1]; rfl
  · by_cases h2 : c = 103
    · rw [h2]; rfl
    · by_cases h3 : c = 117
      · rw [h3]; rfl
      · have e1 : ¬ (111 : UInt8) = c := fun e => h1 e.symm
        have e2 : ¬ (103 : UInt8) = c := fun e => h2 e.symm
        have e3 : ¬ (117 : UInt8) = c := fun e => h3 e.symm
        simp [h1, h2, h3, Lib.indexByte, e1, e2, e3]
theorem ogu_lt {c : UInt8} {i : Nat} (h : ogu c = some i) : i < 3 := by
  unfold ogu at h
  split at h
  · cases h; decide
  · split at h
    · cases h; decide
    · split at h
      · cases h; decide
      · cases h
theorem thrice_one (w : World) : Calls Tryd.prog 26 #[.int .i64 7, .int .i64 1] w fun e w' => e = .returned (.int .i64 73) ∧ w = w' := thrice_any 7 1 w (by decide) (by decide)
theorem andNot512 (a b : Nat) (ha : a < 512) (hb : b < 512) : bits .andNot .i64 (a : Int) (b : Int) = ((a &&& (511 - b) : Nat) : Int) := by
  rw [i64_andNot_low (b : Int) 9 (by decide) a ha]
  have e : ((b : Int) % ((2 ^ 9 : Nat) : Int)).toNat = b := by omega
  rw [e]
theorem op1_any (a b : Nat) (w : World) (ha : a < 512) (hb : b < 512) : Calls Tryd.prog 41 #[.int .i64 (a : Int), .int .i64 (b : Int)] w fun e w' => e = .returned (.int .i64 ((a ||| b : Nat) : Int)) ∧ w = w' := by
  have h := i64_or_nat a b (by omega) (by omega)
  go_enter Tryd.func41, Tryd.ntmps41
  go_wp2
  go_ret
  exact ⟨rfl, rfl⟩
theorem op2_any (a b : Nat) (w : World) (ha : a < 512) (hb : b < 512) : Calls Tryd.prog 42 #[.int .i64 (a : Int), .int .i64 (b : Int)] w fun e w' => e = .returned (.int .i64 ((a &&& (511 - b) : Nat) : Int)) ∧ w = w' := by
  have h := andNot512 a b ha hb
  go_enter Tryd.func42, Tryd.ntmps42
  go_wp2
  go_ret
  exact ⟨rfl, rfl⟩
theorem op3_any (a b : Nat) (w : World) : Calls Tryd.prog 43 #[.int .i64 (a : Int), .int .i64 (b : Int)] w fun e w' => e = .returned (.int .i64 (b : Int)) ∧ w = w' := by
  go_enter Tryd.func43, Tryd.ntmps43
  go_wp2
  go_ret
  exact ⟨rfl, rfl⟩
def bitsA (x : Chg) (m : Nat) : Nat := match ogu x.copy with | some i => (x.bits % 8).toNat ||| m / 2 ^ (3 * i) % 8 | none => (x.bits % 8).toNat
theorem bitsA_lt (x : Chg) (m : Nat) : bitsA x m < 8 := by
  have h0 : (x.bits % 8).toNat < 8 := by omega
  unfold bitsA
  split
  · exact or_lt8 h0 (Nat.mod_lt _ (by decide))
  · exact h0

theorem chgBits_eq (x : Chg) (M : Nat) (dir : Bool) : chgBits x M dir = if (x.dirs && (dir || decide (0 < M &&& 73))) = true then bitsA x M ||| 1 else bitsA x M := by
  show (if x.dirs = true ∧ (dir = true ∨ M &&& 73 > 0) then bitsA x M ||| 1 else bitsA x M) = _
  by_cases h : x.dirs = true ∧ (dir = true ∨ M &&& 73 > 0)
  · rw [if_pos h, if_pos (by simpa using h)]
  · rw [if_neg h, if_neg (by simpa using h)]
set_option maxRecDepth 100000 in
set_option maxHeartbeats 2000000 in
theorem apply_any (A : Option Addr) (n c : Nat) (l : List Chg) (mode mask : Int) (dir : Bool) (w : World) (hr : Reads w w.heap.size 5 A n (chgv l)) (hn : n ≤ 2097152) :
    Calls Tryd.prog 17 #[.slice A n c, .int .i64 mode, .int .i64 mask, .bool dir] w fun e w' => e = .returned (.int .i64 (chgAll l mask dir (mode % 512).toNat : Nat)) ∧ Below w.heap.size w w' := by
  have hl : l.length = n := by have := hr.1; rw [sv_length _ 5 chg1_len] at this; omega
  have HL := Lib.hid hl
  clear hl
  have h511 : bits .and .i64 mode 511 = (((mode % 512).toNat : Nat) : Int) := by rw [and511]; omega
  obtain ⟨m0, hm0, hm0'⟩ : ∃ m0 : Nat, m0 < 512 ∧ m0 = (mode % 512).toNat := ⟨_, by omega, rfl⟩
  rw [← hm0'] at h511 ⊢
  clear hm0'
  go_enter Tryd.func17, Tryd.ntmps17
  go_wp2
  go_loopw [1, 21] (fun t i wr => ∃ q : Nat, q ≤ n ∧ i = .int .i64 q ∧ t = .int .i64 (chgAll (l.take q) mask dir m0 : Nat) ∧ chgAll (l.take q) mask dir m0 < 512 ∧ Below w.heap.size w wr)
    (fun _ i _ => n - (intOf i).toNat)
  case atStart => exact ⟨0, Nat.zero_le _, rfl, rfl, hm0, Below.refl _ _⟩
  case round =>
    obtain ⟨q, hk, rfl, rfl, hlt512, hb⟩ := hrel
    by_cases hlt : q < n
    · obtain ⟨ad, rfl, had, hce⟩ := (hr.below hb).elem chg1_len hlt HL.out (by omega)
      have hkl : q < l.length := by rw [HL.out]; exact hlt
      have hc0 := hce.1 _ rfl
      have hc1 := hce.2 0 _ rfl
      have hc2 := hce.2 1 _ rfl
      have hc3 := hce.2 2 _ rfl
      have hc4 := hce.2 3 _ rfl
      have hbs := hb.size
      have hnext : chgAll (l.take (q + 1)) mask dir m0 = chgMode l[q] mask dir (chgAll (l.take q) mask dir m0) := by
        unfold chgAll
        rw [List.take_succ_eq_append_getElem hkl, List.foldl_append]
        rfl
      have Hnext := Lib.hid hnext
      clear hnext hce
      generalize hM : chgAll (l.take q) mask dir m0 = M at hlt512 Hnext
      generalize hX : l[q] = x at hc0 hc1 hc2 hc3 hc4 Hnext
      clear hM hX
      obtain ⟨who, op, bts, copy, dirs⟩ := x
      obtain ⟨I, hI, hII⟩ : ∃ I : Int, Lib.indexByte [111, 103, 117] copy = I ∧ I = (match ogu copy with | some i => (i : Int) | none => -1) := ⟨_, ogu_index copy, rfl⟩
      obtain ⟨B0, hB0, hB0'⟩ : ∃ B0 : Nat, B0 < 8 ∧ B0 = (bts % 8).toNat := ⟨_, by omega, rfl⟩
      have h7 : bits .and .i64 bts 7 = (B0 : Int) := by rw [and7]; omega
      have HB0 := Lib.hid hB0'
      have HI := Lib.hid hII
      clear hB0' hII
      have hbx := (hb.alloc hbs (.cells #[.int .i64 who, .int .u8 (op.toNat : Int), .int .i64 bts, .int .u8 (copy.toNat : Int), .bool dirs] 36))
      go_upto_if 32 with (go_at_call 25; refine (index_lit [111, 103, 117] copy _).mono ?_; rintro e w' ⟨rfl, rfl⟩)
      clear hI
      go_cut [11] (fun b wx => b = .int .i64 (bitsA ⟨who, op, bts, copy, dirs⟩ M : Nat) ∧ wx = (wr.alloc (.cells #[.int .i64 who, .int .u8 (op.toNat : Int), .int .i64 bts, .int .u8 (copy.toNat : Int), .bool dirs] 36)))
      case first =>
        cases ho : ogu copy with
        | none =>
          obtain rfl : I = -1 := by rw [HI.out, ho]
          have e : bitsA ⟨who, op, bts, copy, dirs⟩ M = B0 := by unfold bitsA; rw [ho]; exact HB0.out.symm
          have He := Lib.hid e
          clear ho e h511 h7 HI
          go_wp2
          go_meet
          case rel => exact ⟨by rw [He.out], rfl⟩
        | some i =>
          obtain rfl : I = (i : Int) := by rw [HI.out, ho]
          have hi3 := ogu_lt ho
          have e : bitsA ⟨who, op, bts, copy, dirs⟩ M = B0 ||| M / 2 ^ (3 * i) % 8 := by unfold bitsA; rw [ho, HB0.out]
          have h8 : bits .and .i64 ((M : Int) / 2 ^ (3 * i)) 7 = ((M / 2 ^ (3 * i) % 8 : Nat) : Int) := by rw [and7]; simp
          have hor : bits .or .i64 (B0 : Int) ((M : Int) / 2 ^ (3 * i) % 8) = ((B0 ||| M / 2 ^ (3 * i) % 8 : Nat) : Int) := by
            rw [show ((M : Int) / 2 ^ (3 * i) % 8) = ((M / 2 ^ (3 * i) % 8 : Nat) : Int) from by simp]
            exact i64_or_nat _ _ (by omega) (by omega)
          have He := Lib.hid e
          clear ho e h511 h7 HI
          go_wp2
          go_meet
          case rel => exact ⟨by rw [He.out], rfl⟩
      case rest =>
        obtain ⟨rfl, rfl⟩ := hcut
        have hB1 := bitsA_lt ⟨who, op, bts, copy, dirs⟩ M
        obtain ⟨B1, HB1⟩ : ∃ B1, Hid (B1 = bitsA ⟨who, op, bts, copy, dirs⟩ M) := ⟨_, Lib.hid rfl⟩
        rw [← HB1.out] at hB1 ⊢
        have hand73 : bits .and .i64 (M : Int) 73 = ((M &&& 73 : Nat) : Int) := i64_and_nat M 73 (by omega) (by decide)
        obtain ⟨T, hT⟩ : ∃ T, T = M &&& 73 := ⟨_, rfl⟩
        rw [← hT] at hand73
        have HT := Lib.hid hT
        clear hT
        go_upto_region 9 with fail
        go_cut [50] (fun b wx => b = .bool (dirs && (dir || decide (0 < T))) ∧ wx = (wr.alloc (.cells #[.int .i64 who, .int .u8 (op.toNat : Int), .int .i64 bts, .int .u8 (copy.toNat : Int), .bool dirs] 36)))
        case first =>
          clear h511 h7
          cases dirs with
          | false =>
            go_wp2
            go_meet
            case rel => exact ⟨rfl, rfl⟩
          | true =>
            cases dir with
            | true =>
              go_wp2
              go_meet
              case rel => exact ⟨rfl, rfl⟩
            | false =>
              go_wp2_with (go_at_call 26; refine (thrice_one _).mono ?_; rintro e w' ⟨rfl, rfl⟩)
              go_meet
              case rel => exact ⟨rfl, rfl⟩
        case rest =>
          obtain ⟨rfl, rfl⟩ := hcut
          obtain ⟨B2, hB2, hB2'⟩ : ∃ B2 : Nat, B2 < 8 ∧ B2 = chgBits ⟨who, op, bts, copy, dirs⟩ M dir := ⟨_, chgBits_lt _ _ _, rfl⟩
          have hB2'' : B2 = if (dirs && (dir || decide (0 < T))) = true then B1 ||| 1 else B1 := by
            rw [hB2', HB1.out, HT.out]
            exact chgBits_eq _ _ _
          have HB2 := Lib.hid hB2'
          generalize hbb : (dirs && (dir || decide (0 < T))) = bb at hB2'' ⊢
          have HB2'' := Lib.hid hB2''
          clear hB2' hB2'' hbb
          go_upto_if 50 with fail
          go_cut [11] (fun b wx => b = .int .i64 (B2 : Nat) ∧ wx = (wr.alloc (.cells #[.int .i64 who, .int .u8 (op.toNat : Int), .int .i64 bts, .int .u8 (copy.toNat : Int), .bool dirs] 36)))
          case first =>
            clear h511 h7
            have hor1 : bits .or .i64 (B1 : Int) 1 = ((B1 ||| 1 : Nat) : Int) := i64_or_nat B1 1 (by omega) (by decide)
            cases bb with
            | false =>
              go_wp2
              go_meet
              case rel => exact ⟨by rw [HB2''.out]; simp, rfl⟩
            | true =>
              go_wp2
              go_meet
              case rel => exact ⟨by rw [HB2''.out]; simp, rfl⟩
          case rest =>
            obtain ⟨rfl, rfl⟩ := hcut
            obtain ⟨W0, hW0, hW0'⟩ : ∃ W0 : Nat, W0 < 8 ∧ who % 8 = (W0 : Int) := ⟨(who % 8).toNat, by omega, by omega⟩
            have hwho : bits .and .i64 who 7 = (W0 : Int) := by rw [and7]; exact hW0'
            have hnot : bits .andNot .i64 511 mask = ((511 &&& (511 - (mask % 512).toNat) : Nat) : Int) := i64_andNot_low mask 9 (by decide) 511 (by decide)
            obtain ⟨N0, hN0, hN0'⟩ : ∃ N0 : Nat, N0 < 512 ∧ N0 = 511 &&& (511 - (mask % 512).toNat) := ⟨_, Nat.and_lt_two_pow (n := 9) _ (by omega), rfl⟩
            rw [← hN0'] at hnot
            have HN0 := Lib.hid hN0'
            have HW0 := Lib.hid hW0'
            clear hN0' hW0'
            have hww : chgWho ⟨who, op, bts, copy, dirs⟩ < 8 := by unfold chgWho; split <;> omega
            obtain ⟨W1, HW1⟩ : ∃ W1, Hid (W1 = chgWho ⟨who, op, bts, copy, dirs⟩) := ⟨_, Lib.hid rfl⟩
            rw [← HW1.out] at hww
            obtain ⟨Y0, HY0, hY0⟩ : ∃ Y0 : Nat, Hid (Y0 = if who % 8 = 0 then N0 else 511) ∧ Y0 < 512 := ⟨_, Lib.hid rfl, by split <;> omega⟩
            clear h511 h7
            go_upto_if 57 with fail
            go_cut [13, 14] (fun a b wx => a = .int .i64 (W1 : Nat) ∧ b = .int .i64 (Y0 : Nat) ∧ wx = (wr.alloc (.cells #[.int .i64 who, .int .u8 (op.toNat : Int), .int .i64 bts, .int .u8 (copy.toNat : Int), .bool dirs] 36)))
            case first =>
              by_cases hz : W0 = 0
              · have e1 : W1 = 7 := by rw [HW1.out]; unfold chgWho; rw [if_pos (by show who % 8 = 0; have := HW0.out; omega)]
                have e2 : Y0 = N0 := by rw [HY0.out, if_pos (by have := HW0.out; omega)]
                have E1 := Lib.hid e1
                have E2 := Lib.hid e2
                subst hz
                clear e1 e2
                go_wp2
                go_meet
                case rel => exact ⟨by rw [E1.out]; rfl, by rw [E2.out], rfl⟩
              · have e1 : W1 = W0 := by rw [HW1.out]; unfold chgWho; rw [if_neg (by show ¬ who % 8 = 0; have := HW0.out; omega)]; show (who % 8).toNat = _; have := HW0.out; omega
                have e2 : Y0 = 511 := by rw [HY0.out, if_neg (by have := HW0.out; omega)]
                have E1 := Lib.hid e1
                have E2 := Lib.hid e2
                have hq : ((W0 : Int) == 0) = false := by simp [hz]
                clear e1 e2 hz
                go_wp2
                go_meet
                case rel => exact ⟨by rw [E1.out], by rw [E2.out]; rfl, rfl⟩
            case rest =>
              obtain ⟨rfl, rfl, rfl⟩ := hcut
              have hmay : chgMay ⟨who, op, bts, copy, dirs⟩ mask = Y0 &&& thr W1 7 := by
                rw [HY0.out, HW1.out, HN0.out]
                rfl
              have ht7 : thr W1 7 < 512 := thr_lt _ 7 (by decide)
              have hyand : bits .and .i64 (Y0 : Int) (thr W1 7 : Nat) = ((Y0 &&& thr W1 7 : Nat) : Int) := i64_and_nat _ _ (by omega) (by omega)
              obtain ⟨Y, HY, hY512, hYe⟩ : ∃ Y : Nat, Hid (Y = chgMay ⟨who, op, bts, copy, dirs⟩ mask) ∧ Y < 512 ∧ Y = Y0 &&& thr W1 7 := ⟨_, Lib.hid rfl, by rw [hmay]; exact Nat.lt_of_le_of_lt Nat.and_le_right ht7, hmay⟩
              rw [← hYe] at hyand
              have HYe := Lib.hid hYe
              clear hmay hYe
              go_upto_region 15 with (go_at_call 26; refine (thrice_any W1 7 _ hww (by omega)).mono ?_; rintro e w' ⟨rfl, rfl⟩)
              have hbox : (wr.alloc (.cells #[.int .i64 who, .int .u8 (op.toNat : Int), .int .i64 bts, .int .u8 (copy.toNat : Int), .bool dirs] 36)).cell? ⟨wr.heap.size, 1, none⟩ = some (.int .u8 (op.toNat : Int)) := by simp
              go_cut [15, 16] (fun a b wx => a = (findI opsL (op.toNat : Int)).getD .nilFunc ∧ b = .bool (findI opsL (op.toNat : Int)).isSome ∧ Below w.heap.size w wx)
              case first =>
                go_region_with (go_at_call 27; go_loud (refine (ops_any _).mono ?_; rintro e w' ⟨rfl, hmap, hbel⟩; have hmap2 : MapI w' (wr.heap.size + 1) .u8 opsL := (by simp [World.drew] at hmap; exact hmap); have hlk := run_lookupI hmap2 59 5 57 Tryd.underlying59 Tryd.underlying5 .nilFunc Tryd.zeroValue57 (op.toNat : Int); have hcell : w'.cell? ⟨wr.heap.size, 1, none⟩ = some (.int .u8 (op.toNat : Int)) := (hbel.cell (by simp)).trans hbox))
                all_goals
                  have hbn := below_then (below_drewN hbx 1) (by simp; omega) hbel
                  clear hbel hmap
                  go_wp2
                  go_meet
                all_goals exact ⟨rfl, rfl, hbn⟩
              case rest =>
                obtain ⟨rfl, rfl, hbc⟩ := hcut
                have hfind : findI opsL (op.toNat : Int) = if op = 43 then some (.func (.func 41) #[] #[]) else if op = 45 then some (.func (.func 42) #[] #[]) else if op = 61 then some (.func (.func 43) #[] #[]) else none := by
                  have k : ∀ n : Nat, n < 256 → ((op.toNat : Int) = (n : Int)) = (op = UInt8.ofNat n) := fun n hn => by
                    refine propext ⟨fun e => UInt8.toNat_inj.1 (by simp; omega), fun e => by rw [e]; simp; omega⟩
                  show (if (op.toNat : Int) = ((43 : Nat) : Int) then _ else if (op.toNat : Int) = ((45 : Nat) : Int) then _ else if (op.toNat : Int) = ((61 : Nat) : Int) then _ else none) = _
                  simp only [k 43 (by decide), k 45 (by decide), k 61 (by decide)]
                  rfl
                rw [hfind]
                clear hfind
                obtain ⟨D, HD, hD⟩ : ∃ D, Hid (D = thr 7 B2) ∧ D < 512 := ⟨_, Lib.hid rfl, thr_lt _ _ hB2⟩
                have hn1 := andNot512 M Y hlt512 hY512
                have hnext2 : chgMode ⟨who, op, bts, copy, dirs⟩ mask dir M < 512 := chgMode_lt _ _ _ _ hlt512
                by_cases o1 : op = 43
                · obtain ⟨V, hV, hV512⟩ : ∃ V, V = M ||| D ∧ V < 512 := ⟨_, rfl, Nat.or_lt_two_pow (n := 9) hlt512 hD⟩
                  have e : chgMode ⟨who, op, bts, copy, dirs⟩ mask dir M = (M &&& (511 - Y)) ||| (V &&& Y) := by
                    rw [hV, HD.out, HB2.out, HY.out]
                    unfold chgMode opNow
                    simp [o1]
                  have hn2 := i64_and_nat V Y (by omega) (by omega)
                  have hn3 := i64_or_nat (M &&& (511 - Y)) (V &&& Y) (Nat.lt_of_le_of_lt Nat.and_le_left (by omega)) (Nat.lt_of_le_of_lt Nat.and_le_left (by omega))
                  rw [← e] at hn3
                  have E := Lib.hid e
                  have HV := Lib.hid hV
                  simp only [o1, if_true, Option.isSome_some, Option.getD_some]
                  clear e hV o1
                  go_wp2_with (go_at_call 26; refine (thrice_any 7 B2 _ (by decide) hB2).mono ?_; rintro e w' ⟨rfl, rfl⟩; rw [← HD.out])
                  refine (op1_any M D _ hlt512 hD).mono ?_
                  rintro e w' ⟨rfl, rfl⟩
                  rw [← HV.out]
                  go_wp2
                  go_roundw
                  case rel => exact ⟨q + 1, by omega, by go_num, by rw [Hnext.out], by rw [Hnext.out]; exact hnext2, hbc⟩
                  case measure => simp [intOf]; omega
                · by_cases o2 : op = 45
                  · obtain ⟨V, hV, hV512⟩ : ∃ V, V = M &&& (511 - D) ∧ V < 512 := ⟨_, rfl, Nat.lt_of_le_of_lt Nat.and_le_left hlt512⟩
                    have e : chgMode ⟨who, op, bts, copy, dirs⟩ mask dir M = (M &&& (511 - Y)) ||| (V &&& Y) := by
                      rw [hV, HD.out, HB2.out, HY.out]
                      unfold chgMode opNow
                      simp [o2]
                    have hn2 := i64_and_nat V Y (by omega) (by omega)
                    have hn3 := i64_or_nat (M &&& (511 - Y)) (V &&& Y) (Nat.lt_of_le_of_lt Nat.and_le_left (by omega)) (Nat.lt_of_le_of_lt Nat.and_le_left (by omega))
                    rw [← e] at hn3
                    have E := Lib.hid e
                    have HV := Lib.hid hV
                    simp only [o2, if_true]
                    clear e hV o1 o2
                    go_wp2_with (go_at_call 26; refine (thrice_any 7 B2 _ (by decide) hB2).mono ?_; rintro e w' ⟨rfl, rfl⟩; rw [← HD.out])
                    refine (op2_any M D _ hlt512 hD).mono ?_
                    rintro e w' ⟨rfl, rfl⟩
                    rw [← HV.out]
                    go_wp2
                    go_roundw
                    case rel => exact ⟨q + 1, by omega, by go_num, by rw [Hnext.out], by rw [Hnext.out]; exact hnext2, hbc⟩
                    case measure => simp [intOf]; omega
                  · by_cases o3 : op = 61
                    · obtain ⟨V, hV, hV512⟩ : ∃ V, V = D ∧ V < 512 := ⟨_, rfl, hD⟩
                      have e : chgMode ⟨who, op, bts, copy, dirs⟩ mask dir M = (M &&& (511 - Y)) ||| (V &&& Y) := by
                        rw [hV, HD.out, HB2.out, HY.out]
                        unfold chgMode opNow
                        simp [o3]
                      have hn2 := i64_and_nat V Y (by omega) (by omega)
                      have hn3 := i64_or_nat (M &&& (511 - Y)) (V &&& Y) (Nat.lt_of_le_of_lt Nat.and_le_left (by omega)) (Nat.lt_of_le_of_lt Nat.and_le_left (by omega))
                      rw [← e] at hn3
                      have E := Lib.hid e
                      have HV := Lib.hid hV
                      simp only [o3, if_true]
                      clear e hV o1 o2 o3
                      go_wp2_with (go_at_call 26; refine (thrice_any 7 B2 _ (by decide) hB2).mono ?_; rintro e w' ⟨rfl, rfl⟩; rw [← HD.out])
                      refine (op3_any M D _).mono ?_
                      rintro e w' ⟨rfl, rfl⟩
                      rw [← HV.out]
                      go_wp2
                      go_roundw
                      case rel => exact ⟨q + 1, by omega, by go_num, by rw [Hnext.out], by rw [Hnext.out]; exact hnext2, hbc⟩
                      case measure => simp [intOf]; omega
                    · simp only [o1, o2, o3, if_false, Option.isSome_none]
                      have e : chgMode ⟨who, op, bts, copy, dirs⟩ mask dir M = M := by
                        unfold chgMode opNow
                        simp [o1, o2, o3]
                      have E := Lib.hid e
                      clear e o1 o2 o3
                      go_wp2
                      go_roundw
                      case rel => exact ⟨q + 1, by omega, by go_num, by rw [Hnext.out, E.out], by rw [Hnext.out, E.out]; exact hlt512, hbc⟩
                      case measure => simp [intOf]; omega
    · obtain rfl : q = n := by omega
      rw [List.take_of_length_le (by rw [HL.out]; exact Nat.le_refl _)]
      clear h511
      go_wp2
      go_ret
      exact ⟨rfl, hb⟩
end Go.Proofs.YtnpaddakkniliaaDoor
