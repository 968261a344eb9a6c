/-
  OptsDigits: the law's walk.
-/
import Derived.Test.YtghkdfjmahmolaaDoorOptsDigits
namespace Go.Proofs.YtghkdfjmahmolaaDoor
open Go.RowKit

theorem u64_of {a : Int} (h : (Lit.int .u64 a).wf = true) : ∃ x : Nat, a = (x : Int) ∧ x < 18446744073709551616 := by
  have hmin : IntKind.u64.min = 0 := rfl
  have hmax : IntKind.u64.max = 18446744073709551615 := rfl
  simp only [Lit.wf, Bool.and_eq_true, decide_eq_true_eq, hmin, hmax] at h
  exact ⟨a.toNat, by omega, by omega⟩
theorem number_is (s : List UInt8) (b : Bool) (v : Int) (w : World) (hl : s.length ≤ 2097152) (h : numOk s = b) (hv : (if b = true then numV s else 0) = v) :
    Calls Tryd.prog 12 #[.string (str s)] w fun e w' => e = .returned (.tuple #[.int .i64 v, .bool b]) ∧ Below w.heap.size w w' :=
  (number_any s w hl).mono fun e w' ⟨h1, h2⟩ => ⟨by unfold NumIs at h1; rw [h, hv] at h1; exact h1, h2⟩

set_option maxRecDepth 100000 in
set_option maxHeartbeats 8000000 in
theorem optsDigits_walk (n : Nat) (noughts sign : UInt8) (w : World) (hn : n < 18446744073709551616) :
    Calls Tryd.prog 8 #[.int .u64 (n : Int), .int .u8 (noughts.toNat : Int), .int .u8 (sign.toNat : Int)] w fun e w' => e = .returned (.bool true) ∧ Below w.heap.size w w' := by
  have hno := noughts.toNat_lt
  have hsg := sign.toNat_lt
  obtain ⟨x, hx⟩ : ∃ x, x = noughts.toNat := ⟨_, rfl⟩
  obtain ⟨y, hy⟩ : ∃ y, y = sign.toNat := ⟨_, rfl⟩
  rw [← hx] at hno ⊢
  rw [← hy] at hsg ⊢
  clear hx hy
  obtain ⟨a, ha⟩ : ∃ a, a = x % 20 := ⟨_, rfl⟩
  obtain ⟨r, hr⟩ : ∃ r, r = y % 3 := ⟨_, rfl⟩
  have ha20 : a < 20 := by omega
  have e1 : (x : Int) % 20 = (a : Int) := by omega
  have e2 : (y : Int) % 3 = (r : Int) := by omega
  have hdl : (Lib.decDigits n).length ≤ 20 := digits_lenD 19 n (by omega)
  obtain ⟨D, hD⟩ : ∃ D, D = Lib.decDigits n := ⟨_, rfl⟩
  have HD := Lib.hid hD
  rw [← hD] at hdl
  have hr3 : r = 0 ∨ r = 1 ∨ r = 2 := by omega
  clear ha hr hD
  go_enter Tryd.func8, Tryd.ntmps8
  go_wp2_with fail
  refine (lawDigits_any n w hn).mono ?_
  rintro e w0 ⟨rfl, hw0⟩
  rw [← hw0, ← HD.out]
  clear hw0 w0
  go_wp2_with fail
  go_loopw [7, 8] (fun v i wr => ∃ k : Nat, k ≤ a ∧ i = .int .i64 k ∧ v = .string (str (List.replicate k 48 ++ D)) ∧ w = wr) (fun _ i _ => a - (intOf i).toNat)
  case atStart => exact ⟨0, Nat.zero_le _, rfl, rfl, rfl⟩
  case round =>
    obtain ⟨k, hk, rfl, rfl, rfl⟩ := hrel
    have hss : (str (List.replicate k 48 ++ D)).size = k + D.length := by rw [str_size]; simp
    by_cases hlt : k < a
    · have hkI : (k : Int) < (a : Int) := by omega
      have HST := Lib.hid (show { data := #[48] } ++ str (List.replicate k 48 ++ D) = str (List.replicate (k + 1) 48 ++ D) by
        rw [show ({ data := #[48] } : ByteArray) = str [48] from rfl, str_appD, List.replicate_succ]; rfl)
      go_wp2_with fail
      go_roundw
      case rel => exact ⟨k + 1, by omega, by go_num, by rw [HST.out], trivial⟩
      case measure => simp [intOf]; omega
    · obtain rfl : k = a := by omega
      have hkI : ¬ (k : Int) < (k : Int) := by omega
      have hdg : allDig (List.replicate k 48 ++ D) = true := by rw [nought_dig, HD.out]; exact digits_dig n
      have hdv : decV (List.replicate k 48 ++ D) = n := by rw [nought_dec, HD.out]; exact decV_digits n
      have hd1 : 1 ≤ (List.replicate k 48 ++ D).length := by
        have hne : D ≠ [] := by rw [HD.out]; exact digits_ne n
        have : 1 ≤ D.length := by cases D with | nil => exact absurd rfl hne | cons _ _ => simp
        rw [List.length_append]; omega
      have hdl2 : (List.replicate k 48 ++ D).length = k + D.length := by simp
      obtain ⟨d, hd⟩ : ∃ d, d = List.replicate k (48 : UInt8) ++ D := ⟨_, rfl⟩
      rw [← hd] at hss hdg hdv hd1 hdl2 ⊢
      have HDG := Lib.hid hdg
      have HDV := Lib.hid hdv
      have hok := fun r => sign_numOk r d hdg hd1
      have hnv := fun r => sign_numV r d hdg
      rw [hdv] at hnv
      have HOK := Lib.hid hok
      have HNV := Lib.hid hnv
      have HB18 := Lib.hid (show d.length ≤ 18 → n < 1000000000000000000 from fun h => by rw [← hdv]; exact decV_18 d hdg h)
      clear hok hnv hdg hdv hd
      obtain ⟨m, hm⟩ : ∃ m, m = k + D.length := ⟨_, rfl⟩
      rw [← hm] at hss hdl2
      have hm40 : m ≤ 40 := by omega
      clear hm
      by_cases h18 : m ≤ 18
      · have f1 : decide ((m : Int) ≤ 18) = true := decide_eq_true (by omega)
        have hn18 := HB18.out (by omega)
        have hwr : IntKind.i64.wrap (n : Int) = (n : Int) := by rw [IntKind.wrap_i64]; omega
        rcases hr3 with rfl | rfl | rfl
        · have HS := Lib.hid (show ({ data := #[] } : ByteArray) ++ str d = str (signL 0 ++ d) by rw [show ({ data := #[] } : ByteArray) = str (signL 0) from rfl, str_appD])
          have hsl : (signL 0 ++ d).length ≤ 2097152 := by rw [List.length_append]; simp [signL]; omega
          have HO := Lib.hid (show numOk (signL 0 ++ d) = true by rw [HOK.out]; exact decide_eq_true (by omega))
          have HV := Lib.hid (show (if true = true then numV (signL 0 ++ d) else 0) = (n : Int) by rw [if_pos rfl, HNV.out]; first | rw [if_neg (by omega)] | rw [if_pos (by omega)])
          have b1 : Below w.heap.size w (w.alloc (.cells #[.string { data := #[] }, .string { data := #[43] }, .string { data := #[45] }] 9)) := (Below.refl _ _).alloc (Nat.le_refl _) _
          go_wp2_with fail
          rw [HS.out]
          refine (number_is (signL 0 ++ d) true (n : Int) _ hsl HO.out HV.out).mono ?_
          rintro e w2 ⟨rfl, hB2⟩
          have hb2 := below_then b1 b1.size hB2
          go_wp2_with fail
          refine (alive_any w2).mono ?_
          rintro e w3 ⟨rfl, hB3⟩
          go_wp2_with fail
          go_ret
          exact ⟨rfl, below_then hb2 hb2.size hB3⟩
        · have HS := Lib.hid (show ({ data := #[43] } : ByteArray) ++ str d = str (signL 1 ++ d) by rw [show ({ data := #[43] } : ByteArray) = str (signL 1) from rfl, str_appD])
          have hsl : (signL 1 ++ d).length ≤ 2097152 := by rw [List.length_append]; simp [signL]; omega
          have HO := Lib.hid (show numOk (signL 1 ++ d) = true by rw [HOK.out]; exact decide_eq_true (by omega))
          have HV := Lib.hid (show (if true = true then numV (signL 1 ++ d) else 0) = (n : Int) by rw [if_pos rfl, HNV.out]; first | rw [if_neg (by omega)] | rw [if_pos (by omega)])
          have b1 : Below w.heap.size w (w.alloc (.cells #[.string { data := #[] }, .string { data := #[43] }, .string { data := #[45] }] 9)) := (Below.refl _ _).alloc (Nat.le_refl _) _
          go_wp2_with fail
          rw [HS.out]
          refine (number_is (signL 1 ++ d) true (n : Int) _ hsl HO.out HV.out).mono ?_
          rintro e w2 ⟨rfl, hB2⟩
          have hb2 := below_then b1 b1.size hB2
          go_wp2_with fail
          refine (alive_any w2).mono ?_
          rintro e w3 ⟨rfl, hB3⟩
          go_wp2_with fail
          go_ret
          exact ⟨rfl, below_then hb2 hb2.size hB3⟩
        · have HS := Lib.hid (show ({ data := #[45] } : ByteArray) ++ str d = str (signL 2 ++ d) by rw [show ({ data := #[45] } : ByteArray) = str (signL 2) from rfl, str_appD])
          have hsl : (signL 2 ++ d).length ≤ 2097152 := by rw [List.length_append]; simp [signL]; omega
          have HO := Lib.hid (show numOk (signL 2 ++ d) = true by rw [HOK.out]; exact decide_eq_true (by omega))
          have HV := Lib.hid (show (if true = true then numV (signL 2 ++ d) else 0) = (-(n : Int)) by rw [if_pos rfl, HNV.out]; first | rw [if_neg (by omega)] | rw [if_pos (by omega)])
          have b1 : Below w.heap.size w (w.alloc (.cells #[.string { data := #[] }, .string { data := #[43] }, .string { data := #[45] }] 9)) := (Below.refl _ _).alloc (Nat.le_refl _) _
          go_wp2_with fail
          rw [HS.out]
          refine (number_is (signL 2 ++ d) true (-(n : Int)) _ hsl HO.out HV.out).mono ?_
          rintro e w2 ⟨rfl, hB2⟩
          have hb2 := below_then b1 b1.size hB2
          go_wp2_with fail
          refine (alive_any w2).mono ?_
          rintro e w3 ⟨rfl, hB3⟩
          go_wp2_with fail
          go_ret
          exact ⟨rfl, below_then hb2 hb2.size hB3⟩
      · have f1 : decide ((m : Int) ≤ 18) = false := decide_eq_false (by omega)
        rcases hr3 with rfl | rfl | rfl
        · have HS := Lib.hid (show ({ data := #[] } : ByteArray) ++ str d = str (signL 0 ++ d) by rw [show ({ data := #[] } : ByteArray) = str (signL 0) from rfl, str_appD])
          have hsl : (signL 0 ++ d).length ≤ 2097152 := by rw [List.length_append]; simp [signL]; omega
          have HO := Lib.hid (show numOk (signL 0 ++ d) = false by rw [HOK.out]; exact decide_eq_false (by omega))
          have HV := Lib.hid (show (if false = true then numV (signL 0 ++ d) else 0) = (0 : Int) by rw [if_neg (by simp)])
          have b1 : Below w.heap.size w (w.alloc (.cells #[.string { data := #[] }, .string { data := #[43] }, .string { data := #[45] }] 9)) := (Below.refl _ _).alloc (Nat.le_refl _) _
          go_wp2_with fail
          rw [HS.out]
          refine (number_is (signL 0 ++ d) false 0 _ hsl HO.out HV.out).mono ?_
          rintro e w2 ⟨rfl, hB2⟩
          have hb2 := below_then b1 b1.size hB2
          go_wp2_with fail
          refine (alive_any w2).mono ?_
          rintro e w3 ⟨rfl, hB3⟩
          go_wp2_with fail
          go_ret
          exact ⟨rfl, below_then hb2 hb2.size hB3⟩
        · have HS := Lib.hid (show ({ data := #[43] } : ByteArray) ++ str d = str (signL 1 ++ d) by rw [show ({ data := #[43] } : ByteArray) = str (signL 1) from rfl, str_appD])
          have hsl : (signL 1 ++ d).length ≤ 2097152 := by rw [List.length_append]; simp [signL]; omega
          have HO := Lib.hid (show numOk (signL 1 ++ d) = false by rw [HOK.out]; exact decide_eq_false (by omega))
          have HV := Lib.hid (show (if false = true then numV (signL 1 ++ d) else 0) = (0 : Int) by rw [if_neg (by simp)])
          have b1 : Below w.heap.size w (w.alloc (.cells #[.string { data := #[] }, .string { data := #[43] }, .string { data := #[45] }] 9)) := (Below.refl _ _).alloc (Nat.le_refl _) _
          go_wp2_with fail
          rw [HS.out]
          refine (number_is (signL 1 ++ d) false 0 _ hsl HO.out HV.out).mono ?_
          rintro e w2 ⟨rfl, hB2⟩
          have hb2 := below_then b1 b1.size hB2
          go_wp2_with fail
          refine (alive_any w2).mono ?_
          rintro e w3 ⟨rfl, hB3⟩
          go_wp2_with fail
          go_ret
          exact ⟨rfl, below_then hb2 hb2.size hB3⟩
        · have HS := Lib.hid (show ({ data := #[45] } : ByteArray) ++ str d = str (signL 2 ++ d) by rw [show ({ data := #[45] } : ByteArray) = str (signL 2) from rfl, str_appD])
          have hsl : (signL 2 ++ d).length ≤ 2097152 := by rw [List.length_append]; simp [signL]; omega
          have HO := Lib.hid (show numOk (signL 2 ++ d) = false by rw [HOK.out]; exact decide_eq_false (by omega))
          have HV := Lib.hid (show (if false = true then numV (signL 2 ++ d) else 0) = (0 : Int) by rw [if_neg (by simp)])
          have b1 : Below w.heap.size w (w.alloc (.cells #[.string { data := #[] }, .string { data := #[43] }, .string { data := #[45] }] 9)) := (Below.refl _ _).alloc (Nat.le_refl _) _
          go_wp2_with fail
          rw [HS.out]
          refine (number_is (signL 2 ++ d) false 0 _ hsl HO.out HV.out).mono ?_
          rintro e w2 ⟨rfl, hB2⟩
          have hb2 := below_then b1 b1.size hB2
          go_wp2_with fail
          refine (alive_any w2).mono ?_
          rintro e w3 ⟨rfl, hB3⟩
          go_wp2_with fail
          go_ret
          exact ⟨rfl, below_then hb2 hb2.size hB3⟩
end Go.Proofs.YtghkdfjmahmolaaDoor
