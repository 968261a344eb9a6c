/-
  codec.reader: low, number, count, text: contracts.
-/
import Derived.Test.YtejneiakpeeamaaReader
import Derived.Laws.BitsAllLaws
namespace Go.Proofs.Ytejneiakpeeamaa
open Go.RowKit

def leVal : List UInt8 → Nat
  | [] => 0
  | b :: l => b.toNat + 256 * leVal l
theorem leVal_lt : ∀ l : List UInt8, leVal l < 256 ^ l.length
  | [] => by simp [leVal]
  | b :: l => by
    have h := leVal_lt l
    have hb : b.toNat < 256 := b.toNat_lt
    simp only [leVal, List.length_cons, Nat.pow_succ]
    omega
theorem leVal_drop (l : List UInt8) (q : Nat) (h : q < l.length) : leVal (l.drop q) = l[q].toNat + 256 * leVal (l.drop (q + 1)) := by
  rw [List.drop_eq_getElem_cons h]; rfl
theorem takeL_length (L : List UInt8) (s : RS) (m : Nat) : (takeL L s m).length ≤ m := by
  unfold takeL
  by_cases h : takeOk L s m
  · rw [if_pos h]; simp; omega
  · rw [if_neg h]; simp
def lowV (L : List UInt8) (s : RS) (m : Nat) : Nat := leVal (takeL L s m)

set_option maxHeartbeats 1000000 in
set_option maxRecDepth 100000 in
theorem low_any (g : Nat) (A : Option Addr) (n c : Nat) (L : List UInt8) (s : RS) (m B : Nat) (w : World) (h : IsR g A n c s w) (hr : Reads w B 1 A n (bv L)) (hs : s.at_ ≤ n) (hBg : B ≤ g) (hn : n ≤ 140737488351232) (hm : m ≤ 8) (hnc : n ≤ c) (hc : c ≤ 9223372036854775807) :
    Calls Try.prog 24 #[.pointer (some ⟨g, 0, none⟩), .int .i64 (m : Int)] w fun e w' => e = .returned (.int .u64 (lowV L s m : Nat)) ∧ IsR g A n c (takeS L s m) w' ∧ WK g none w w' none := by
  go_enter Try.func24, Try.ntmps24
  go_wp2_with fail
  refine (take_any g A n c L s m B w h hr hs hBg hn (by omega) hnc hc).mono ?_
  rintro e w1 ⟨A', c', rfl, hr1, hR1, hk1⟩
  obtain ⟨T, hT⟩ : ∃ T, T = takeL L s m := ⟨_, rfl⟩
  have hT8 : T.length ≤ 8 := by have := takeL_length L s m; rw [hT]; omega
  have HT := Lib.hid (show lowV L s m = leVal T by rw [hT]; rfl)
  rw [← hT] at hr1 ⊢
  clear hT hr
  go_wp2_with fail
  go_loop [4, 6] (fun o i => ∃ q : Nat, q ≤ T.length ∧ i = .int .i64 ((q : Int) - 1) ∧ o = .int .u64 (leVal (T.drop q) : Nat)) (fun _ i => (intOf i + 1).toNat)
  case atStart => exact ⟨T.length, Nat.le_refl _, by go_num, by simp [leVal]⟩
  case round =>
    obtain ⟨q, hq, rfl, rfl⟩ := hrel
    rcases q with _ | p
    · have hz : ((0 : Nat) : Int) - 1 = -1 := by omega
      rw [hz]
      go_wp2
      go_ret
      exact ⟨ret_int (by rw [HT.out]), hR1, hk1⟩
    · have hz : ((p + 1 : Nat) : Int) - 1 = (p : Int) := by omega
      rw [hz]
      have hpl : p < T.length := by omega
      obtain ⟨ad, u, hA', had, hu, hcell⟩ := hr1.at_ hpl
      subst hA'
      rw [bv_get T p hpl] at hu
      injection hu with hu
      subst hu
      have hd := leVal_drop T p hpl
      have hlt := leVal_lt (T.drop (p + 1))
      have hle : (T.drop (p + 1)).length ≤ 7 := by rw [List.length_drop]; omega
      have hb : (T[p]).toNat < 256 := (T[p]).toNat_lt
      generalize leVal (T.drop (p + 1)) = V at hd hlt ⊢
      have hV : V < 72057594037927936 := Nat.lt_of_lt_of_le hlt (Nat.le_trans (Nat.pow_le_pow_right (by decide) hle) (by decide))
      have hor : bits .or .u64 ((V : Int) * 256) ((T[p]).toNat : Int) = ((leVal (T.drop p) : Nat) : Int) := by
        rw [show ((V : Int) * 256) = ((V * 256 : Nat) : Int) from by omega, u64_or_nat _ _ (by omega) (by omega), hd, Nat.or_comm]
        have h8 : V * 256 = V * 2 ^ 8 := rfl
        rw [h8, ← Nat.shiftLeft_eq, Nat.or_comm, ← Nat.shiftLeft_add_eq_or_of_lt (b := (T[p]).toNat) (i := 8) hb, Nat.shiftLeft_eq]
        omega
      clear hd hlt hle hz
      go_wp2
      go_round
      case rel => exact ⟨p, by omega, by go_num, rfl⟩
      case measure => simp [intOf] <;> omega

theorem lowV_lt (L : List UInt8) (s : RS) (m : Nat) (_hm : m ≤ 8) : lowV L s m < 256 ^ m :=
  Nat.lt_of_lt_of_le (leVal_lt _) (Nat.pow_le_pow_right (by decide) (takeL_length L s m))
/-- A number back: eight bytes, as they are signed. -/
def numV (L : List UInt8) (s : RS) : Int := wrap64 (lowV L s 8 : Nat)
set_option maxHeartbeats 400000 in
theorem number_any (g : Nat) (A : Option Addr) (n c : Nat) (L : List UInt8) (s : RS) (B : Nat) (w : World) (h : IsR g A n c s w) (hr : Reads w B 1 A n (bv L)) (hs : s.at_ ≤ n) (hBg : B ≤ g) (hn : n ≤ 140737488351232) (hnc : n ≤ c) (hc : c ≤ 9223372036854775807) :
    Calls Try.prog 27 #[.pointer (some ⟨g, 0, none⟩)] w fun e w' => e = .returned (.int .i64 (numV L s)) ∧ IsR g A n c (takeS L s 8) w' ∧ WK g none w w' none := by
  have hlow := low_any g A n c L s 8 B w h hr hs hBg hn (by decide) hnc hc
  have hlt := lowV_lt L s 8 (by decide)
  have HV := Lib.hid (show numV L s = wrap64 (lowV L s 8 : Nat) from rfl)
  generalize lowV L s 8 = V at hlow hlt HV
  have HLOW := Lib.hid hlow
  clear hlow
  go_enter Try.func27, Try.ntmps27
  go_wp2_with fail
  refine HLOW.out.mono ?_
  rintro e w1 ⟨rfl, hR1, hk1⟩
  go_wp2
  go_ret
  exact ⟨ret_int (by rw [HV.out]), hR1, hk1⟩

def cntOk (L : List UInt8) (s : RS) (most : Nat) : Bool := decide (lowV L s 4 ≤ most)
def cntV (L : List UInt8) (s : RS) (most : Nat) : Nat := if lowV L s 4 ≤ most then lowV L s 4 else 0
def cntS (L : List UInt8) (s : RS) (most : Nat) : RS := if lowV L s 4 ≤ most then takeS L s 4 else ⟨(takeS L s 4).at_, true⟩
set_option maxHeartbeats 400000 in
theorem count_any (g : Nat) (A : Option Addr) (n c : Nat) (L : List UInt8) (s : RS) (most B : Nat) (w : World) (h : IsR g A n c s w) (hr : Reads w B 1 A n (bv L)) (hs : s.at_ ≤ n) (hBg : B ≤ g) (hn : n ≤ 140737488351232) (hnc : n ≤ c) (hc : c ≤ 9223372036854775807) (hmost : most ≤ 1048576) :
    Calls Try.prog 30 #[.pointer (some ⟨g, 0, none⟩), .int .i64 (most : Int)] w fun e w' => e = .returned (.int .i64 (cntV L s most : Nat)) ∧ IsR g A n c (cntS L s most) w' ∧ WK g none w w' none := by
  have hlow := low_any g A n c L s 4 B w h hr hs hBg hn (by decide) hnc hc
  have hlt := lowV_lt L s 4 (by decide)
  have HLOW := Lib.hid hlow
  clear hlow hr
  by_cases hle : lowV L s 4 ≤ most
  · have HV := Lib.hid (show cntV L s most = lowV L s 4 by unfold cntV; rw [if_pos hle])
    have HS := Lib.hid (show cntS L s most = takeS L s 4 by unfold cntS; rw [if_pos hle])
    generalize lowV L s 4 = V at HLOW hlt HV hle
    have hlim : ¬ ((most : Int) < (V : Int)) := by omega
    go_enter Try.func30, Try.ntmps30
    go_wp2_with fail
    refine HLOW.out.mono ?_
    rintro e w1 ⟨rfl, hR1, hk1⟩
    go_wp2
    go_ret
    exact ⟨ret_int (by rw [HV.out]), by rw [HS.out]; exact hR1, hk1⟩
  · have HV := Lib.hid (show cntV L s most = 0 by unfold cntV; rw [if_neg hle])
    have HS := Lib.hid (show cntS L s most = ⟨(takeS L s 4).at_, true⟩ by unfold cntS; rw [if_neg hle])
    generalize lowV L s 4 = V at HLOW hlt HV hle
    have hlim : ((most : Int) < (V : Int)) := by omega
    go_enter Try.func30, Try.ntmps30
    go_wp2_with fail
    refine HLOW.out.mono ?_
    rintro e w1 ⟨rfl, hR1, hk1⟩
    have c2 : w1.cell? ⟨g, 2, none⟩ = some (.bool (takeS L s 4).bad) := Blk.cell hR1 2
    have f2 := Blk.frozen hR1 2
    go_wp2
    go_ret
    exact ⟨ret_int (by rw [HV.out]; rfl), by rw [HS.out]; exact hR1.set_ 2 (.bool true), hk1.trans (wk_set g 2 0 0 _ w1)⟩
end Go.Proofs.Ytejneiakpeeamaa
