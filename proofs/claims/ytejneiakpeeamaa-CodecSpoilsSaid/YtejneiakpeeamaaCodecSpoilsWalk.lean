/-
  CodecSpoils: the law's walk.
-/
import Derived.Test.YtejneiakpeeamaaLives
import Derived.Test.YtejneiakpeeamaaSpoilPlain
import Derived.Laws.StructEq
namespace Go.Proofs.Ytejneiakpeeamaa
open Go.RowKit

/-- A text of which q bytes from the place k on are changed. -/
def mixF (l ds : List UInt8) (k q j : Nat) : UInt8 := l.getD j 0 ^^^ (if k ≤ j ∧ j < k + q then ds.getD (j - k) 0 else 0)
def mixY (n : Nat) (ds : List UInt8) (k q : Nat) : List UInt8 := List.replicate k 0 ++ ds.take q ++ List.replicate (n - k - q) 0
def mixL (l ds : List UInt8) (k q : Nat) : List UInt8 := List.zipWith (· ^^^ ·) l (mixY l.length ds k q)
theorem mixY_len (n : Nat) (ds : List UInt8) (k q : Nat) (hq : q ≤ ds.length) (hk : k + q ≤ n) : (mixY n ds k q).length = n := by
  simp [mixY]; omega
theorem mixL_len (l ds : List UInt8) (k q : Nat) (hq : q ≤ ds.length) (hk : k + q ≤ l.length) : (mixL l ds k q).length = l.length := by
  unfold mixL; rw [List.length_zipWith, mixY_len _ _ _ _ hq hk, Nat.min_self]
theorem mixL_get (l ds : List UInt8) (k q j : Nat) (hq : q ≤ ds.length) (hk : k + q ≤ l.length) (hj : j < l.length) : (mixL l ds k q)[j]? = some (mixF l ds k q j) := by
  unfold mixL mixF mixY
  rw [List.getElem?_zipWith, List.getD_eq_getElem?_getD, List.getElem?_eq_getElem hj]
  rw [List.append_assoc, List.getElem?_append, List.getElem?_append]
  simp only [List.length_replicate, List.length_take, Nat.min_eq_left hq]
  by_cases h1 : j < k
  · rw [if_pos h1, if_neg (by omega)]
    simp [h1]
  · rw [if_neg h1]
    by_cases h2 : j - k < q
    · rw [if_pos h2, if_pos (by omega), List.getD_eq_getElem?_getD, List.getElem?_take, if_pos h2, List.getElem?_eq_getElem (by omega)]
      simp
    · rw [if_neg h2, if_neg (by omega)]
      rw [List.getElem?_replicate, if_pos (by omega)]
      simp
theorem mixF_zero (l ds : List UInt8) (k j : Nat) : mixF l ds k 0 j = l.getD j 0 := by
  unfold mixF; rw [if_neg (by omega)]; simp
theorem mixF_at (l ds : List UInt8) (k q : Nat) : mixF l ds k q (k + q) = l.getD (k + q) 0 := by
  unfold mixF; rw [if_neg (by omega)]; simp
theorem mixF_succ (l ds : List UInt8) (k q j : Nat) : mixF l ds k (q + 1) j = if j = k + q then mixF l ds k q (k + q) ^^^ ds.getD q 0 else mixF l ds k q j := by
  by_cases h : j = k + q
  · subst h
    rw [if_pos rfl, mixF_at]
    unfold mixF
    rw [if_pos (by omega), show k + q - k = q from by omega]
  · rw [if_neg h]
    unfold mixF
    by_cases h1 : k ≤ j ∧ j < k + q
    · rw [if_pos h1, if_pos (by omega)]
    · rw [if_neg h1, if_neg (by omega)]
def sameQ (ds : List UInt8) (q : Nat) : Bool := (ds.take q).all (· == 0)
theorem sameQ_succ (ds : List UInt8) (q : Nat) (h : q < ds.length) : sameQ ds (q + 1) = (sameQ ds q && (ds.getD q 0 == 0)) := by
  unfold sameQ
  rw [List.take_succ_eq_append_getElem h, List.all_append, List.getD_eq_getElem?_getD, List.getElem?_eq_getElem h]
  simp
theorem spoil_iff (l ds : List UInt8) (k q : Nat) (hq : q ≤ ds.length) (h4 : ds.length ≤ 4) (hk : k + q ≤ l.length) : (crc (mixL l ds k q) = crc l) ↔ sameQ ds q = true := by
  unfold mixL
  rw [crc_eq_iff _ _ (mixY_len _ _ _ _ hq hk).symm]
  unfold mixY
  rw [dif_iff _ _ _ (by rw [List.length_take]; omega)]
  unfold sameQ
  rw [List.all_eq_true]
  simp
theorem own_buf {w : World} {base n g c : Nat} {e : TypeId} {xs : List Value} (h : w.ownsRow base e 1 (.slice (some ⟨g, 0, none⟩) n c) n xs) (f : Nat → Value) (hf : ∀ j, j < n → xs[j]? = some (f j)) : Buf w g n f := by
  rcases h.2 with ⟨e1, _⟩ | ⟨g', cap, cur, hv, _, hh, hnc, hcm, hcs, htk⟩
  · cases e1
  · cases hv
    refine ⟨cur, _, 0, 0, hh, by omega, fun j _ => by omega, fun i hi => ?_⟩
    have := hf i hi
    rw [← htk, List.getElem?_take, if_pos (by omega)] at this
    simpa using this

theorem equalIn_u8 (d : Nat) (a b : Int) (w : World) : (Op.equalIn (d + 1) 5 (.int .u8 a) (.int .u8 b)).run Try.prog w = .ok (a == b) w := by
  simp [Op.equalIn, run_underlying Try.underlying5]
theorem part_u8 (xs : Array Value) (i : Nat) (v : Value) (h : xs[i]? = some v) (w : World) : (part 5 xs i).run Try.prog w = .ok v w := by
  simp [part, isAgg, run_underlying Try.underlying5, h]
theorem eql_arr4 (x0 x1 x2 x3 y0 y1 y2 y3 : Int) (w : World) : (binOp .eql 42 (.agg #[.int .u8 x0, .int .u8 x1, .int .u8 x2, .int .u8 x3]) (.agg #[.int .u8 y0, .int .u8 y1, .int .u8 y2, .int .u8 y3])).run Try.prog w = .ok (.bool (x0 == y0 && (x1 == y1 && (x2 == y2 && x3 == y3)))) w := by
  obtain ⟨i0, hi0, hz0, hz1, hz2⟩ := info_parts infoU8
  have key : ∀ d, (Op.equalIn (d + 1 + 1) 42 (.agg #[.int .u8 x0, .int .u8 x1, .int .u8 x2, .int .u8 x3]) (.agg #[.int .u8 y0, .int .u8 y1, .int .u8 y2, .int .u8 y3])).run Try.prog w = .ok (x0 == y0 && (x1 == y1 && (x2 == y2 && x3 == y3))) w := by
    intro d
    rw [Op.equalIn]
    simp only [Sem.run_bind, run_underlying Try.underlying42, Result.andThen_ok, sizeOf, typeInfo]
    simp [hi0, hz1, List.range', equalIn_u8, part_u8]
    by_cases h0 : x0 = y0 <;> by_cases h1 : x1 = y1 <;> by_cases h2 : x2 = y2 <;> by_cases h3 : x3 = y3 <;> simp [h0, h1, h2, h3]
  simp only [binOp]
  simp only [Op.equal, Op.maxDepth, Sem.run_bind, key 9998, Result.andThen_ok]
  simp

set_option maxHeartbeats 2000000 in
set_option maxRecDepth 100000 in
theorem codecSpoils_walk (A : Option Addr) (n c : Nat) (l : List UInt8) (a : Nat) (d0 d1 d2 d3 : UInt8) (w : World) (hr : Reads w w.heap.size 1 A n (bv l)) (hn : n ≤ 140737488351232) (ha : a < 65536) :
    Calls Try.prog 5 #[.slice A n c, .int .u16 (a : Int), .agg #[.int .u8 (d0.toNat : Int), .int .u8 (d1.toNat : Int), .int .u8 (d2.toNat : Int), .int .u8 (d3.toNat : Int)]] w fun e w' => e = .returned (.bool true) ∧ Below w.heap.size w w' := by
  obtain ⟨i0, hi0, hz0, hz1, hz2⟩ := info_parts infoU8
  have hl : l.length = n := by have := hr.1; rw [bv_length] at this; omega
  have HL := Lib.hid hl
  clear hl
  by_cases hn0 : n = 0
  · subst hn0
    go_enter Try.func5, Try.ntmps5
    go_wp2_with fail
    refine (lives_any _).mono ?_
    rintro e w' ⟨rfl, hB⟩
    go_wp2_with fail
    go_ret
    exact ⟨rfl, below_then ((Below.refl _ _).alloc (Nat.le_refl _) _) (by simp) hB⟩
  have hq0 : ((n : Int) == 0) = false := by simp; omega
  by_cases hb : 100000 < n
  · go_enter Try.func5, Try.ntmps5
    go_wp2_with fail
    refine (lives_any _).mono ?_
    rintro e w' ⟨rfl, hB⟩
    go_wp2_with fail
    go_ret
    exact ⟨rfl, below_then ((Below.refl _ _).alloc (Nat.le_refl _) _) (by simp) hB⟩
  obtain ⟨z, hz⟩ : ∃ z : Bool, z = (((d0.toNat : Int)) == 0 && ((((d1.toNat : Int)) == 0) && ((((d2.toNat : Int)) == 0) && (((d3.toNat : Int)) == 0)))) := ⟨_, rfl⟩
  have heq := fun w => eql_arr4 (d0.toNat : Int) (d1.toNat : Int) (d2.toNat : Int) (d3.toNat : Int) 0 0 0 0 w
  rw [← hz] at heq
  clear hz
  cases z with
  | true =>
    go_enter Try.func5, Try.ntmps5
    go_wp2_with fail
    refine (lives_any _).mono ?_
    rintro e w' ⟨rfl, hB⟩
    go_wp2_with fail
    go_ret
    exact ⟨rfl, below_then ((Below.refl _ _).alloc (Nat.le_refl _) _) (by simp) hB⟩
  | false =>
    obtain ⟨wb, hwb⟩ : ∃ wb, wb = w.alloc (.cells #[.int .u8 (d0.toNat : Int), .int .u8 (d1.toNat : Int), .int .u8 (d2.toNat : Int), .int .u8 (d3.toNat : Int)] 42) := ⟨_, rfl⟩
    have hBb : Below w.heap.size w wb := by rw [hwb]; exact (Below.refl _ _).alloc (Nat.le_refl _) _
    have hby : Buf wb w.heap.size 4 (fun j => .int .u8 (([d0, d1, d2, d3].getD j 0).toNat : Int)) := by
      rw [hwb]
      refine Buf.new w _ _ _ 4 (by simp) fun i hi => ?_
      match i, hi with
      | 0, _ => rfl
      | 1, _ => rfl
      | 2, _ => rfl
      | 3, _ => rfl
    have hrb := (hr.below hBb).more hBb.size
    have hBSZ : w.heap.size < wb.heap.size := by rw [hwb]; simp
    have HWB := Lib.hid hwb
    clear hwb
    have hk0 : (a : Int) % (n : Int) = ((a % n : Nat) : Int) := rfl
    have hkn : a % n < n := Nat.mod_lt _ (by omega)
    obtain ⟨k, hk⟩ : ∃ k, k = a % n := ⟨_, rfl⟩
    rw [← hk] at hk0 hkn
    clear hk
    go_enter Try.func5, Try.ntmps5
    go_wp2_with (at_builtin; rw [← HWB.out]; refine wpList_append_any _ rfl (.const (.slice none 0 0)) (.tmp 30) 22 rfl wb.heap.size 5 i0 (.int .u8 0) 1 1 Try.underlying22 hi0 hz0 hz1 hz2 rfl (by decide) (.slice none 0 0) 0 [] rfl (World.ownsRow_nil _ _ _ _) wb.heap.size A n c (bv l) rfl hrb (bv_one l) (by unfold maxLen; omega) (by omega) (Nat.le_refl _) ?_; intro v2 w2 hown2 hg2 hat2)
    rw [List.nil_append, Nat.zero_add] at hown2
    obtain ⟨g, cap, rfl⟩ := own_form hown2 (by omega)
    have hgb : wb.heap.size ≤ g := own_ge hown2 g rfl
    have hB2 := (Below.refl wb.heap.size wb).grown hg2 (Nat.le_refl _) (by intro q hq; simp [Value.ownBlock] at hq)
    obtain ⟨ds, hds⟩ : ∃ ds, ds = [d0, d1, d2, d3] := ⟨_, rfl⟩
    have hdl : ds.length = 4 := by rw [hds]; rfl
    rw [← hds] at hby
    have hbc : Buf w2 g n (fun j => .int .u8 ((mixF l ds k 0 j).toNat : Int)) := own_buf hown2 _ (fun j hj => by rw [mixF_zero, bv_get l j (by rw [HL.out]; exact hj), List.getD_eq_getElem?_getD, List.getElem?_eq_getElem (by rw [HL.out]; exact hj)]; rfl)
    have hby2 := hby.below hB2 hBSZ
    have HDL := Lib.hid hdl
    clear hdl hds hown2 hg2 hat2 hby
    go_loopw [9, 10] (fun s i wr => ∃ q : Nat, q ≤ 4 ∧ k + q ≤ n ∧ i = .int .i64 q ∧ s = .bool (sameQ ds q) ∧ Buf wr g n (fun j => .int .u8 ((mixF l ds k q j).toNat : Int)) ∧ Below wb.heap.size wb wr ∧ Buf wr w.heap.size 4 (fun j => .int .u8 ((ds.getD j 0).toNat : Int))) (fun _ i _ => 4 - (intOf i).toNat)
    case atStart => exact ⟨0, by omega, by omega, rfl, rfl, hbc, hB2, hby2⟩
    case round =>
      obtain ⟨q, hq4, hqn, rfl, rfl, hbc, hBr, hbyr⟩ := hrel
      by_cases hlt : q < 4
      · by_cases hlt2 : k + q < n
        · have hc1 : wr.cell? ⟨g, k + q, none⟩ = some (.int .u8 ((mixF l ds k q (k + q)).toNat : Int)) := hbc.cell hlt2
          have hf1 := hbc.frozen hlt2
          have hc2 : wr.cell? ⟨w.heap.size, q, none⟩ = some (.int .u8 ((ds.getD q 0).toNat : Int)) := hbyr.cell hlt
          have hx := u8_xor_nat (mixF l ds k q (k + q)).toNat (ds.getD q 0).toNat (mixF l ds k q (k + q)).toNat_lt (ds.getD q 0).toNat_lt
          rw [← UInt8.toNat_xor] at hx
          have hnext : ∀ v, v = Value.int .u8 ((mixF l ds k q (k + q) ^^^ ds.getD q 0).toNat : Int) → Buf (wr.setCell ⟨g, k + q, none⟩ v) g n (fun j => .int .u8 ((mixF l ds k (q + 1) j).toNat : Int)) := fun v hv => (hbc.set (k + q) v).congr fun j hj => by
            show (if j = k + q then v else Value.int .u8 ((mixF l ds k q j).toNat : Int)) = _
            rw [mixF_succ]
            by_cases e : j = k + q
            · rw [if_pos e, if_pos e, hv]
            · rw [if_neg e, if_neg e]
          have hss := sameQ_succ ds q (by rw [HDL.out]; exact hlt)
          have hd0 : (((ds.getD q 0).toNat : Int) == 0) = (ds.getD q 0 == 0) := by
            by_cases e : ds.getD q 0 = 0
            · rw [e]; rfl
            · have h1 : (ds.getD q 0).toNat ≠ 0 := fun h => e (UInt8.toNat_inj.1 h)
              rw [beq_eq_false_iff_ne.2 e]
              exact beq_eq_false_iff_ne.2 (by omega)
          have hne : w.heap.size ≠ g := by omega
          have HN := Lib.hid hnext
          have HSS := Lib.hid hss
          have hw1 : IntKind.i64.wrap ((k : Int) + (q : Int)) = (k : Int) + (q : Int) := by rw [IntKind.wrap_i64]; omega
          have hw2 : 0 ≤ (k : Int) + (q : Int) := by omega
          have hw3 : ((k : Int) + (q : Int)).toNat = k + q := by omega
          have hw4 : (k : Int) + (q : Int) < (n : Int) := by omega
          generalize mixF l ds k q (k + q) = M at hc1 hx HN
          generalize ds.getD q 0 = D at hc2 hx HN HSS hd0
          have HBC := Lib.hid hbc
          have HBY := Lib.hid hbyr
          clear hnext hss hbc hbyr
          go_wp2_with fail
          go_region
          all_goals
            generalize sameQ ds q = S at HSS
            cases S
            all_goals
              go_wp2
              go_roundw
              case rel =>
                exact ⟨q + 1, by omega, by omega, by go_num, by rw [HSS.out]; first | rfl | (rw [← hd0]; simp), (HN.out _ rfl).drew, ((hBr.setCell (p := ⟨g, k + q, none⟩) hgb _).drew), ((HBY.out.far (a := ⟨g, k + q, none⟩) hne _).drew)⟩
              case measure => simp [intOf]; omega
        · have hcl := mixL_len l ds k q (by rw [HDL.out]; exact hq4) (by rw [HL.out]; exact hqn)
          have hrc : Reads wr wr.heap.size 1 (some ⟨g, 0, none⟩) n (bv (mixL l ds k q)) := hbc.reads (by rw [bv_length, hcl]; exact HL.out) (Nat.le_refl _) (fun j hj => by
            rw [bv, List.getElem?_map, mixL_get l ds k q j (by rw [HDL.out]; exact hq4) (by rw [HL.out]; exact hqn) (by rw [HL.out]; exact hj)]; rfl) hbc.lt
          have hrl := (hrb.below hBr).more hBr.size
          have hsp := spoil_iff l ds k q (by rw [HDL.out]; exact hq4) (by rw [HDL.out]; exact Nat.le_refl _) (by rw [HL.out]; exact hqn)
          have hsum := sum_any (some ⟨g, 0, none⟩) n cap wr.heap.size (mixL l ds k q) wr hrc (by omega)
          have hsum2 := sum_any A n c wr.heap.size l wr hrl (by omega)
          obtain ⟨X, hX⟩ : ∃ X, X = crc (mixL l ds k q) := ⟨_, rfl⟩
          obtain ⟨Y, hY⟩ : ∃ Y, Y = crc l := ⟨_, rfl⟩
          obtain ⟨S, hS⟩ : ∃ S, S = sameQ ds q := ⟨_, rfl⟩
          rw [← hX, ← hY, ← hS] at hsp
          rw [← hX] at hsum
          rw [← hY] at hsum2
          rw [← hS]
          have hq1 : (((X : Nat) : Int) == ((Y : Nat) : Int)) = S := by
            rw [Bool.eq_iff_iff, ← hsp]; simp only [beq_iff_eq]; omega
          have HS1 := Lib.hid hsum
          have HS2 := Lib.hid hsum2
          clear hX hY hS hsp hcl hrc hrl hbc hbyr hsum hsum2
          have hBsz := hBr.size
          have hw1 : IntKind.i64.wrap ((k : Int) + (q : Int)) = (k : Int) + (q : Int) := by rw [IntKind.wrap_i64]; omega
          have hw4 : ¬ ((k : Int) + (q : Int) < (n : Int)) := by omega
          go_wp2_with fail
          refine HS1.out.mono ?_
          rintro e w3 ⟨rfl, rfl⟩
          go_wp2_with fail
          refine HS2.out.mono ?_
          rintro e w3 ⟨rfl, rfl⟩
          cases S
          all_goals
            go_wp2_with fail
            refine (lives_any _).mono ?_
            rintro e w4 ⟨rfl, hB4⟩
            go_wp2_with fail
            go_ret
            exact ⟨rfl, below_then (below_then (by have h := (Below.refl w.heap.size w).alloc (Nat.le_refl _) (.cells #[.int .u8 (d0.toNat : Int), .int .u8 (d1.toNat : Int), .int .u8 (d2.toNat : Int), .int .u8 (d3.toNat : Int)] 42); rw [← HWB.out] at h; exact h) (by omega) hBr) (by omega) hB4⟩
      · have hcl := mixL_len l ds k q (by rw [HDL.out]; exact hq4) (by rw [HL.out]; exact hqn)
        have hrc : Reads wr wr.heap.size 1 (some ⟨g, 0, none⟩) n (bv (mixL l ds k q)) := hbc.reads (by rw [bv_length, hcl]; exact HL.out) (Nat.le_refl _) (fun j hj => by
          rw [bv, List.getElem?_map, mixL_get l ds k q j (by rw [HDL.out]; exact hq4) (by rw [HL.out]; exact hqn) (by rw [HL.out]; exact hj)]; rfl) hbc.lt
        have hrl := (hrb.below hBr).more hBr.size
        have hsp := spoil_iff l ds k q (by rw [HDL.out]; exact hq4) (by rw [HDL.out]; exact Nat.le_refl _) (by rw [HL.out]; exact hqn)
        have hsum := sum_any (some ⟨g, 0, none⟩) n cap wr.heap.size (mixL l ds k q) wr hrc (by omega)
        have hsum2 := sum_any A n c wr.heap.size l wr hrl (by omega)
        obtain ⟨X, hX⟩ : ∃ X, X = crc (mixL l ds k q) := ⟨_, rfl⟩
        obtain ⟨Y, hY⟩ : ∃ Y, Y = crc l := ⟨_, rfl⟩
        obtain ⟨S, hS⟩ : ∃ S, S = sameQ ds q := ⟨_, rfl⟩
        rw [← hX, ← hY, ← hS] at hsp
        rw [← hX] at hsum
        rw [← hY] at hsum2
        rw [← hS]
        have hq1 : (((X : Nat) : Int) == ((Y : Nat) : Int)) = S := by
          rw [Bool.eq_iff_iff, ← hsp]; simp only [beq_iff_eq]; omega
        have HS1 := Lib.hid hsum
        have HS2 := Lib.hid hsum2
        clear hX hY hS hsp hcl hrc hrl hbc hbyr hsum hsum2
        have hBsz := hBr.size
        go_wp2_with fail
        refine HS1.out.mono ?_
        rintro e w3 ⟨rfl, rfl⟩
        go_wp2_with fail
        refine HS2.out.mono ?_
        rintro e w3 ⟨rfl, rfl⟩
        cases S
        all_goals
          go_wp2_with fail
          refine (lives_any _).mono ?_
          rintro e w4 ⟨rfl, hB4⟩
          go_wp2_with fail
          go_ret
          exact ⟨rfl, below_then (below_then (by have h := (Below.refl w.heap.size w).alloc (Nat.le_refl _) (.cells #[.int .u8 (d0.toNat : Int), .int .u8 (d1.toNat : Int), .int .u8 (d2.toNat : Int), .int .u8 (d3.toNat : Int)] 42); rw [← HWB.out] at h; exact h) (by omega) hBr) (by omega) hB4⟩
end Go.Proofs.Ytejneiakpeeamaa
