/-
  ListsForms: the law's walk.
-/
import Derived.Test.YtgibhlpocmppjaaDoorLstFormsPlain
import Derived.Deep.DeepCutAuto
namespace Go.Proofs.YtgibhlpocmppjaaDoor
open Go.RowKit

theorem u32_of {a : Int} (h : (Lit.int .u32 a).wf = true) : ∃ x : Nat, a = (x : Int) ∧ x < 4294967296 := by
  have hmin : IntKind.u32.min = 0 := rfl
  have hmax : IntKind.u32.max = 4294967295 := rfl
  simp only [Lit.wf, Bool.and_eq_true, decide_eq_true_eq, hmin, hmax] at h
  exact ⟨a.toNat, by omega, by omega⟩
theorem dash_str (a b : List UInt8) : str a ++ ({ data := #[45] } : ByteArray) ++ str b = str (a ++ 45 :: b) := by
  rw [show ({ data := #[45] } : ByteArray) = str [45] from rfl, str_append, str_append]
  simp
theorem dash_end (a : List UInt8) : str a ++ ({ data := #[45] } : ByteArray) = str (a ++ [45]) := by
  rw [show ({ data := #[45] } : ByteArray) = str [45] from rfl, str_append]
theorem dash_head (b : List UInt8) : ({ data := #[45] } : ByteArray) ++ str b = str (45 :: b) := by
  rw [show ({ data := #[45] } : ByteArray) = str [45] from rfl, str_append]
  rfl

theorem lst_len (b : Bool) (r : Rng) : (lst b r).length ≤ 140737488351232 := by cases b <;> simp [lst]
theorem has_lst_no (r : Rng) (x : Int) : hasV (lst false r) x = false := rfl
theorem has_lst_yes (r : Rng) (x : Int) (h : r.fr ≤ x ∧ (r.to = 0 ∨ x ≤ r.to)) : hasV (lst true r) x = true := by
  unfold hasV lst inV
  simpa using h
theorem has_lst_not (r : Rng) (x : Int) (h : ¬ (r.fr ≤ x ∧ (r.to = 0 ∨ x ≤ r.to))) : hasV (lst true r) x = false := by
  cases hb : hasV (lst true r) x with
  | false => rfl
  | true =>
    unfold hasV lst inV at hb
    exact absurd (by simpa using hb) h

set_option maxRecDepth 100000 in
set_option maxHeartbeats 2000000 in
theorem listsForms_walk (B : Nat) (f t : Nat) (x : Int) (w : World) (hf : f < 4294967296) (ht : t < 4294967296) (hE : Env B w) :
    Calls Tryd.prog 7 #[.int .u32 (f : Int), .int .u32 (t : Int), .int .i64 x] w fun e w' => e = .returned (.bool true) ∧ Below w.heap.size w w' := by
  have HE := Lib.hid hE
  have hlf : (Lib.decDigits f).length ≤ 11 := digits_len 10 _ (by omega)
  have hlt : (Lib.decDigits t).length ≤ 11 := digits_len 10 _ (by omega)
  have hsf := str_size (Lib.decDigits f)
  have hst := str_size (Lib.decDigits t)
  have P1 := Lib.hid (form_one f)
  have P2 := Lib.hid (form_two f t)
  have P3 := Lib.hid (form_on f)
  have P4 := Lib.hid (form_up t)
  obtain ⟨m1, hm1⟩ : ∃ m, m = placeB f := ⟨_, rfl⟩
  obtain ⟨m2, hm2⟩ : ∃ m, m = placeB t := ⟨_, rfl⟩
  rw [← hm1] at P1 P2 P3
  rw [← hm2] at P2 P4
  have M1 := Lib.hid hm1
  have M2 := Lib.hid hm2
  obtain ⟨da, hda⟩ : ∃ d, d = Lib.decDigits f := ⟨_, rfl⟩
  obtain ⟨db, hdb⟩ : ∃ d, d = Lib.decDigits t := ⟨_, rfl⟩
  have HDA := Lib.hid (fun w => lawDigits_any f w hf)
  have HDB := Lib.hid (fun w => lawDigits_any t w ht)
  rw [← hda] at hlf hsf P1 P2 P3 HDA
  rw [← hdb] at hlt hst P2 P4 HDB
  have hz1 : (str da).size ≤ 11 := by omega
  have hz2 : (str db).size ≤ 11 := by omega
  have S2 := Lib.hid (dash_str da db)
  have S3 := Lib.hid (dash_end da)
  have S4 := Lib.hid (dash_head db)
  have Q1 := Lib.hid (show da.length ≤ 4096 by omega)
  have Q2 := Lib.hid (show (da ++ 45 :: db).length ≤ 4096 by simp; omega)
  have Q3 := Lib.hid (show (da ++ [45]).length ≤ 4096 by simp; omega)
  have Q4 := Lib.hid (show (45 :: db).length ≤ 4096 by simp; omega)
  clear hm1 hm2 hda hdb hE hlf hlt hsf hst
  go_enter Tryd.func7, Tryd.ntmps7
  go_wp2_with fail
  refine (alive_any B w HE.out).mono ?_
  rintro e w1 ⟨rfl, hB1⟩
  have hw1 := hB1.size
  have E1 := Lib.hid (HE.out.up hB1)
  go_wp2_with fail
  refine (HDA.out w1).mono ?_
  rintro e w' ⟨rfl, rfl⟩
  go_wp2_with fail
  refine (HDB.out w1).mono ?_
  rintro e w' ⟨rfl, rfl⟩
  go_upto_region 4 with fail
  go_cut [9] (fun b wx => b = .bool m1 ∧ w1 = wx)
  case first =>
    by_cases h0 : f = 0
    · have hb : m1 = false := by rw [M1.out, h0]; rfl
      subst hb
      go_wp2_with fail
      go_meet
      exact ⟨rfl, rfl⟩
    by_cases h1 : f ≤ 2147483647
    · have hb : m1 = true := by rw [M1.out]; unfold placeB; simp; omega
      subst hb
      go_wp2_with fail
      go_meet
      exact ⟨congrArg Value.bool (decide_eq_true (by omega)), rfl⟩
    · have hb : m1 = false := by rw [M1.out]; unfold placeB; simp; omega
      subst hb
      go_wp2_with fail
      go_meet
      exact ⟨congrArg Value.bool (decide_eq_false (by omega)), rfl⟩
  case rest =>
    obtain ⟨rfl, rfl⟩ := hcut
    go_upto_region 5 with fail
    go_cut [10] (fun b wx => b = .bool m2 ∧ w1 = wx)
    case first =>
      by_cases h0 : t = 0
      · have hb : m2 = false := by rw [M2.out, h0]; rfl
        subst hb
        go_wp2_with fail
        go_meet
        exact ⟨rfl, rfl⟩
      by_cases h1 : t ≤ 2147483647
      · have hb : m2 = true := by rw [M2.out]; unfold placeB; simp; omega
        subst hb
        go_wp2_with fail
        go_meet
        exact ⟨congrArg Value.bool (decide_eq_true (by omega)), rfl⟩
      · have hb : m2 = false := by rw [M2.out]; unfold placeB; simp; omega
        subst hb
        go_wp2_with fail
        go_meet
        exact ⟨congrArg Value.bool (decide_eq_false (by omega)), rfl⟩
    case rest =>
      obtain ⟨rfl, rfl⟩ := hcut
      go_wp2_with fail
      refine (parse_gen B da m1 ⟨f, f⟩ w1 E1.out Q1.out P1.out).mono ?_
      rintro e w2 ⟨⟨A1, c1, rfl, r1⟩, hB2⟩
      have hB02 := below_then hB1 hB1.size hB2
      have E2 := Lib.hid (E1.out.up hB2)
      go_wp2_with fail
      rw [S2.out]
      refine (parse_gen B (da ++ 45 :: db) (m1 && m2 && decide (f ≤ t)) ⟨f, t⟩ w2 E2.out Q2.out P2.out).mono ?_
      rintro e w3 ⟨⟨A2, c2, rfl, r2⟩, hB3⟩
      have hB03 := below_then hB02 hB02.size hB3
      have E3 := Lib.hid (E2.out.up hB3)
      go_wp2_with fail
      rw [S3.out]
      refine (parse_gen B (da ++ [45]) m1 ⟨f, 0⟩ w3 E3.out Q3.out P3.out).mono ?_
      rintro e w4 ⟨⟨A3, c3, rfl, r3⟩, hB4⟩
      have hB04 := below_then hB03 hB03.size hB4
      have E4 := Lib.hid (E3.out.up hB4)
      go_wp2_with fail
      rw [S4.out]
      refine (parse_gen B (45 :: db) m2 ⟨1, t⟩ w4 E4.out Q4.out P4.out).mono ?_
      rintro e w5 ⟨⟨A4, c4, rfl, r4⟩, hB5⟩
      have hB05 := below_then hB04 hB04.size hB5
      have E5 := Lib.hid (E4.out.up hB5)
      have s3 := hB3.size
      have s4 := hB4.size
      have s5 := hB5.size
      have s05 := hB05.size
      have R1 := (((r1.below hB3).more s3).below hB4).more s4
      have R1 := (R1.below hB5).more s5
      have R2 := (((r2.below hB4).more s4).below hB5).more s5
      have R3 := (r3.below hB5).more s5
      have R4 := r4
      have hM1 := M1.out
      have hM2 := M2.out
      clear r1 r2 r3 r4 hB2 hB3 hB4 hB5 hB02 hB03 hB04 s3 s4 s5 P1 P2 P3 P4 S2 S3 S4 Q1 Q2 Q3 Q4 HDA HDB M1 M2 E1 E2 E3 E4 E5 HE
      cases m1 with
      | true =>
        cases m2 with
        | true =>
          by_cases hle : f ≤ t
          · have hp1 := placeB_true hM1.symm
            have hp2 := placeB_true hM2.symm
            have hdc : decide (f ≤ t) = true := decide_eq_true hle
            rw [hdc] at R2 ⊢
            clear hdc
            rw [show (true && true && true) = true from rfl] at R2 ⊢
            simp only [show code true = 0 from rfl]
            clear hM1 hM2
            by_cases c1x : x < 1
            · have b1 : (x == (f : Int)) = false := by simp; omega
              have b2 : decide ((f : Int) ≤ x) = false := decide_eq_false (by omega)
              have b3 : decide ((1 : Int) ≤ x) = false := decide_eq_false (by omega)
              have b4 : decide (x ≤ (t : Int)) = true := decide_eq_true (by omega)
              have v1 := Lib.hid (has_lst_not ⟨f, f⟩ x (by simp only; omega))
              have v2 := Lib.hid (has_lst_not ⟨f, t⟩ x (by simp only; omega))
              have v3 := Lib.hid (has_lst_not ⟨f, 0⟩ x (fun h => by have h1 : (f : Int) ≤ x := h.1; omega))
              have v4 := Lib.hid (has_lst_not ⟨1, t⟩ x (by simp only; omega))
              go_wp2_with fail
              refine (has_any A1 _ c1 _ x w5 R1 (lst_len _ _)).mono ?_
              rintro e w6 ⟨rfl, hB6⟩
              rw [v1.out]
              have R3 := (R3.below hB6).more hB6.size
              have R4 := (R4.below hB6).more hB6.size
              have R2 := (R2.below hB6).more hB6.size
              have hB06 := below_then hB05 hB05.size hB6
              go_wp2_with fail
              refine (has_any A3 _ c3 _ x w6 R3 (lst_len _ _)).mono ?_
              rintro e w7 ⟨rfl, hB7⟩
              rw [v3.out]
              have R4 := (R4.below hB7).more hB7.size
              have R2 := (R2.below hB7).more hB7.size
              have hB07 := below_then hB06 hB06.size hB7
              go_wp2_with fail
              refine (has_any A4 _ c4 _ x w7 R4 (lst_len _ _)).mono ?_
              rintro e w8 ⟨rfl, hB8⟩
              rw [v4.out]
              have R2 := (R2.below hB8).more hB8.size
              have hB08 := below_then hB07 hB07.size hB8
              go_wp2_with fail
              refine (has_any A2 _ c2 _ x w8 R2 (lst_len _ _)).mono ?_
              rintro e w9 ⟨rfl, hB9⟩
              rw [v2.out]
              have hB09 := below_then hB08 hB08.size hB9
              go_wp2_with fail
              go_ret
              exact ⟨rfl, hB09⟩
            by_cases c2x : x < f
            · have b1 : (x == (f : Int)) = false := by simp; omega
              have b2 : decide ((f : Int) ≤ x) = false := decide_eq_false (by omega)
              have b3 : decide ((1 : Int) ≤ x) = true := decide_eq_true (by omega)
              have b4 : decide (x ≤ (t : Int)) = true := decide_eq_true (by omega)
              have v1 := Lib.hid (has_lst_not ⟨f, f⟩ x (by simp only; omega))
              have v2 := Lib.hid (has_lst_not ⟨f, t⟩ x (by simp only; omega))
              have v3 := Lib.hid (has_lst_not ⟨f, 0⟩ x (fun h => by have h1 : (f : Int) ≤ x := h.1; omega))
              have v4 := Lib.hid (has_lst_yes ⟨1, t⟩ x (by simp only; omega))
              go_wp2_with fail
              refine (has_any A1 _ c1 _ x w5 R1 (lst_len _ _)).mono ?_
              rintro e w6 ⟨rfl, hB6⟩
              rw [v1.out]
              have R3 := (R3.below hB6).more hB6.size
              have R4 := (R4.below hB6).more hB6.size
              have R2 := (R2.below hB6).more hB6.size
              have hB06 := below_then hB05 hB05.size hB6
              go_wp2_with fail
              refine (has_any A3 _ c3 _ x w6 R3 (lst_len _ _)).mono ?_
              rintro e w7 ⟨rfl, hB7⟩
              rw [v3.out]
              have R4 := (R4.below hB7).more hB7.size
              have R2 := (R2.below hB7).more hB7.size
              have hB07 := below_then hB06 hB06.size hB7
              go_wp2_with fail
              refine (has_any A4 _ c4 _ x w7 R4 (lst_len _ _)).mono ?_
              rintro e w8 ⟨rfl, hB8⟩
              rw [v4.out]
              have R2 := (R2.below hB8).more hB8.size
              have hB08 := below_then hB07 hB07.size hB8
              go_wp2_with fail
              refine (has_any A2 _ c2 _ x w8 R2 (lst_len _ _)).mono ?_
              rintro e w9 ⟨rfl, hB9⟩
              rw [v2.out]
              have hB09 := below_then hB08 hB08.size hB9
              go_wp2_with fail
              go_ret
              exact ⟨rfl, hB09⟩
            by_cases c3x : x ≤ f
            · obtain rfl : x = (f : Int) := by omega
              have b3 : decide ((1 : Int) ≤ (f : Int)) = true := decide_eq_true (by omega)
              have b4 : decide ((f : Int) ≤ (t : Int)) = true := decide_eq_true (by omega)
              have v1 := Lib.hid (has_lst_yes ⟨f, f⟩ (f : Int) (by simp only; omega))
              have v2 := Lib.hid (has_lst_yes ⟨f, t⟩ (f : Int) (by simp only; omega))
              have v3 := Lib.hid (has_lst_yes ⟨f, 0⟩ (f : Int) ⟨by show (f : Int) ≤ (f : Int); omega, .inl rfl⟩)
              have v4 := Lib.hid (has_lst_yes ⟨1, t⟩ (f : Int) (by simp only; omega))
              go_wp2_with fail
              refine (has_any A1 _ c1 _ (f : Int) w5 R1 (lst_len _ _)).mono ?_
              rintro e w6 ⟨rfl, hB6⟩
              rw [v1.out]
              have R3 := (R3.below hB6).more hB6.size
              have R4 := (R4.below hB6).more hB6.size
              have R2 := (R2.below hB6).more hB6.size
              have hB06 := below_then hB05 hB05.size hB6
              go_wp2_with fail
              refine (has_any A3 _ c3 _ (f : Int) w6 R3 (lst_len _ _)).mono ?_
              rintro e w7 ⟨rfl, hB7⟩
              rw [v3.out]
              have R4 := (R4.below hB7).more hB7.size
              have R2 := (R2.below hB7).more hB7.size
              have hB07 := below_then hB06 hB06.size hB7
              go_wp2_with fail
              refine (has_any A4 _ c4 _ (f : Int) w7 R4 (lst_len _ _)).mono ?_
              rintro e w8 ⟨rfl, hB8⟩
              rw [v4.out]
              have R2 := (R2.below hB8).more hB8.size
              have hB08 := below_then hB07 hB07.size hB8
              go_wp2_with fail
              refine (has_any A2 _ c2 _ (f : Int) w8 R2 (lst_len _ _)).mono ?_
              rintro e w9 ⟨rfl, hB9⟩
              rw [v2.out]
              have hB09 := below_then hB08 hB08.size hB9
              go_wp2_with fail
              go_ret
              exact ⟨rfl, hB09⟩
            by_cases c4x : x ≤ t
            · have b1 : (x == (f : Int)) = false := by simp; omega
              have b2 : decide ((f : Int) ≤ x) = true := decide_eq_true (by omega)
              have b3 : decide ((1 : Int) ≤ x) = true := decide_eq_true (by omega)
              have b4 : decide (x ≤ (t : Int)) = true := decide_eq_true (by omega)
              have v1 := Lib.hid (has_lst_not ⟨f, f⟩ x (by simp only; omega))
              have v2 := Lib.hid (has_lst_yes ⟨f, t⟩ x (by simp only; omega))
              have v3 := Lib.hid (has_lst_yes ⟨f, 0⟩ x ⟨by show (f : Int) ≤ x; omega, .inl rfl⟩)
              have v4 := Lib.hid (has_lst_yes ⟨1, t⟩ x (by simp only; omega))
              go_wp2_with fail
              refine (has_any A1 _ c1 _ x w5 R1 (lst_len _ _)).mono ?_
              rintro e w6 ⟨rfl, hB6⟩
              rw [v1.out]
              have R3 := (R3.below hB6).more hB6.size
              have R4 := (R4.below hB6).more hB6.size
              have R2 := (R2.below hB6).more hB6.size
              have hB06 := below_then hB05 hB05.size hB6
              go_wp2_with fail
              refine (has_any A3 _ c3 _ x w6 R3 (lst_len _ _)).mono ?_
              rintro e w7 ⟨rfl, hB7⟩
              rw [v3.out]
              have R4 := (R4.below hB7).more hB7.size
              have R2 := (R2.below hB7).more hB7.size
              have hB07 := below_then hB06 hB06.size hB7
              go_wp2_with fail
              refine (has_any A4 _ c4 _ x w7 R4 (lst_len _ _)).mono ?_
              rintro e w8 ⟨rfl, hB8⟩
              rw [v4.out]
              have R2 := (R2.below hB8).more hB8.size
              have hB08 := below_then hB07 hB07.size hB8
              go_wp2_with fail
              refine (has_any A2 _ c2 _ x w8 R2 (lst_len _ _)).mono ?_
              rintro e w9 ⟨rfl, hB9⟩
              rw [v2.out]
              have hB09 := below_then hB08 hB08.size hB9
              go_wp2_with fail
              go_ret
              exact ⟨rfl, hB09⟩
            have b1 : (x == (f : Int)) = false := by simp; omega
            have b2 : decide ((f : Int) ≤ x) = true := decide_eq_true (by omega)
            have b3 : decide ((1 : Int) ≤ x) = true := decide_eq_true (by omega)
            have b4 : decide (x ≤ (t : Int)) = false := decide_eq_false (by omega)
            have v1 := Lib.hid (has_lst_not ⟨f, f⟩ x (by simp only; omega))
            have v2 := Lib.hid (has_lst_not ⟨f, t⟩ x (by simp only; omega))
            have v3 := Lib.hid (has_lst_yes ⟨f, 0⟩ x ⟨by show (f : Int) ≤ x; omega, .inl rfl⟩)
            have v4 := Lib.hid (has_lst_not ⟨1, t⟩ x (by simp only; omega))
            go_wp2_with fail
            refine (has_any A1 _ c1 _ x w5 R1 (lst_len _ _)).mono ?_
            rintro e w6 ⟨rfl, hB6⟩
            rw [v1.out]
            have R3 := (R3.below hB6).more hB6.size
            have R4 := (R4.below hB6).more hB6.size
            have R2 := (R2.below hB6).more hB6.size
            have hB06 := below_then hB05 hB05.size hB6
            go_wp2_with fail
            refine (has_any A3 _ c3 _ x w6 R3 (lst_len _ _)).mono ?_
            rintro e w7 ⟨rfl, hB7⟩
            rw [v3.out]
            have R4 := (R4.below hB7).more hB7.size
            have R2 := (R2.below hB7).more hB7.size
            have hB07 := below_then hB06 hB06.size hB7
            go_wp2_with fail
            refine (has_any A4 _ c4 _ x w7 R4 (lst_len _ _)).mono ?_
            rintro e w8 ⟨rfl, hB8⟩
            rw [v4.out]
            have R2 := (R2.below hB8).more hB8.size
            have hB08 := below_then hB07 hB07.size hB8
            go_wp2_with fail
            refine (has_any A2 _ c2 _ x w8 R2 (lst_len _ _)).mono ?_
            rintro e w9 ⟨rfl, hB9⟩
            rw [v2.out]
            have hB09 := below_then hB08 hB08.size hB9
            go_wp2_with fail
            go_ret
            exact ⟨rfl, hB09⟩
          · have hp1 := placeB_true hM1.symm
            have hp2 := placeB_true hM2.symm
            have hdc : decide (f ≤ t) = false := decide_eq_false hle
            rw [hdc] at R2 ⊢
            clear hdc
            rw [show (true && true && false) = false from rfl] at R2 ⊢
            simp only [show code true = 0 from rfl, show code false = 5 from rfl]
            clear hM1 hM2
            by_cases c1x : x < 1
            · have b1 : (x == (f : Int)) = false := by simp; omega
              have b2 : decide ((f : Int) ≤ x) = false := decide_eq_false (by omega)
              have b3 : decide ((1 : Int) ≤ x) = false := decide_eq_false (by omega)
              have b4 : decide (x ≤ (t : Int)) = true := decide_eq_true (by omega)
              have v1 := Lib.hid (has_lst_not ⟨f, f⟩ x (by simp only; omega))
              have v2 := Lib.hid (has_lst_no ⟨f, t⟩ x)
              have v3 := Lib.hid (has_lst_not ⟨f, 0⟩ x (fun h => by have h1 : (f : Int) ≤ x := h.1; omega))
              have v4 := Lib.hid (has_lst_not ⟨1, t⟩ x (by simp only; omega))
              go_wp2_with fail
              refine (has_any A1 _ c1 _ x w5 R1 (lst_len _ _)).mono ?_
              rintro e w6 ⟨rfl, hB6⟩
              rw [v1.out]
              have R3 := (R3.below hB6).more hB6.size
              have R4 := (R4.below hB6).more hB6.size
              have R2 := (R2.below hB6).more hB6.size
              have hB06 := below_then hB05 hB05.size hB6
              go_wp2_with fail
              refine (has_any A3 _ c3 _ x w6 R3 (lst_len _ _)).mono ?_
              rintro e w7 ⟨rfl, hB7⟩
              rw [v3.out]
              have R4 := (R4.below hB7).more hB7.size
              have R2 := (R2.below hB7).more hB7.size
              have hB07 := below_then hB06 hB06.size hB7
              go_wp2_with fail
              refine (has_any A4 _ c4 _ x w7 R4 (lst_len _ _)).mono ?_
              rintro e w8 ⟨rfl, hB8⟩
              rw [v4.out]
              have R2 := (R2.below hB8).more hB8.size
              have hB08 := below_then hB07 hB07.size hB8
              go_wp2_with fail
              refine (has_any A2 _ c2 _ x w8 R2 (lst_len _ _)).mono ?_
              rintro e w9 ⟨rfl, hB9⟩
              rw [v2.out]
              have hB09 := below_then hB08 hB08.size hB9
              go_wp2_with fail
              go_ret
              exact ⟨rfl, hB09⟩
            by_cases c2x : x ≤ t
            · have b1 : (x == (f : Int)) = false := by simp; omega
              have b2 : decide ((f : Int) ≤ x) = false := decide_eq_false (by omega)
              have b3 : decide ((1 : Int) ≤ x) = true := decide_eq_true (by omega)
              have b4 : decide (x ≤ (t : Int)) = true := decide_eq_true (by omega)
              have v1 := Lib.hid (has_lst_not ⟨f, f⟩ x (by simp only; omega))
              have v2 := Lib.hid (has_lst_no ⟨f, t⟩ x)
              have v3 := Lib.hid (has_lst_not ⟨f, 0⟩ x (fun h => by have h1 : (f : Int) ≤ x := h.1; omega))
              have v4 := Lib.hid (has_lst_yes ⟨1, t⟩ x (by simp only; omega))
              go_wp2_with fail
              refine (has_any A1 _ c1 _ x w5 R1 (lst_len _ _)).mono ?_
              rintro e w6 ⟨rfl, hB6⟩
              rw [v1.out]
              have R3 := (R3.below hB6).more hB6.size
              have R4 := (R4.below hB6).more hB6.size
              have R2 := (R2.below hB6).more hB6.size
              have hB06 := below_then hB05 hB05.size hB6
              go_wp2_with fail
              refine (has_any A3 _ c3 _ x w6 R3 (lst_len _ _)).mono ?_
              rintro e w7 ⟨rfl, hB7⟩
              rw [v3.out]
              have R4 := (R4.below hB7).more hB7.size
              have R2 := (R2.below hB7).more hB7.size
              have hB07 := below_then hB06 hB06.size hB7
              go_wp2_with fail
              refine (has_any A4 _ c4 _ x w7 R4 (lst_len _ _)).mono ?_
              rintro e w8 ⟨rfl, hB8⟩
              rw [v4.out]
              have R2 := (R2.below hB8).more hB8.size
              have hB08 := below_then hB07 hB07.size hB8
              go_wp2_with fail
              refine (has_any A2 _ c2 _ x w8 R2 (lst_len _ _)).mono ?_
              rintro e w9 ⟨rfl, hB9⟩
              rw [v2.out]
              have hB09 := below_then hB08 hB08.size hB9
              go_wp2_with fail
              go_ret
              exact ⟨rfl, hB09⟩
            by_cases c3x : x < f
            · have b1 : (x == (f : Int)) = false := by simp; omega
              have b2 : decide ((f : Int) ≤ x) = false := decide_eq_false (by omega)
              have b3 : decide ((1 : Int) ≤ x) = true := decide_eq_true (by omega)
              have b4 : decide (x ≤ (t : Int)) = false := decide_eq_false (by omega)
              have v1 := Lib.hid (has_lst_not ⟨f, f⟩ x (by simp only; omega))
              have v2 := Lib.hid (has_lst_no ⟨f, t⟩ x)
              have v3 := Lib.hid (has_lst_not ⟨f, 0⟩ x (fun h => by have h1 : (f : Int) ≤ x := h.1; omega))
              have v4 := Lib.hid (has_lst_not ⟨1, t⟩ x (by simp only; omega))
              go_wp2_with fail
              refine (has_any A1 _ c1 _ x w5 R1 (lst_len _ _)).mono ?_
              rintro e w6 ⟨rfl, hB6⟩
              rw [v1.out]
              have R3 := (R3.below hB6).more hB6.size
              have R4 := (R4.below hB6).more hB6.size
              have R2 := (R2.below hB6).more hB6.size
              have hB06 := below_then hB05 hB05.size hB6
              go_wp2_with fail
              refine (has_any A3 _ c3 _ x w6 R3 (lst_len _ _)).mono ?_
              rintro e w7 ⟨rfl, hB7⟩
              rw [v3.out]
              have R4 := (R4.below hB7).more hB7.size
              have R2 := (R2.below hB7).more hB7.size
              have hB07 := below_then hB06 hB06.size hB7
              go_wp2_with fail
              refine (has_any A4 _ c4 _ x w7 R4 (lst_len _ _)).mono ?_
              rintro e w8 ⟨rfl, hB8⟩
              rw [v4.out]
              have R2 := (R2.below hB8).more hB8.size
              have hB08 := below_then hB07 hB07.size hB8
              go_wp2_with fail
              refine (has_any A2 _ c2 _ x w8 R2 (lst_len _ _)).mono ?_
              rintro e w9 ⟨rfl, hB9⟩
              rw [v2.out]
              have hB09 := below_then hB08 hB08.size hB9
              go_wp2_with fail
              go_ret
              exact ⟨rfl, hB09⟩
            by_cases c4x : x ≤ f
            · obtain rfl : x = (f : Int) := by omega
              have b3 : decide ((1 : Int) ≤ (f : Int)) = true := decide_eq_true (by omega)
              have b4 : decide ((f : Int) ≤ (t : Int)) = false := decide_eq_false (by omega)
              have v1 := Lib.hid (has_lst_yes ⟨f, f⟩ (f : Int) (by simp only; omega))
              have v2 := Lib.hid (has_lst_no ⟨f, t⟩ (f : Int))
              have v3 := Lib.hid (has_lst_yes ⟨f, 0⟩ (f : Int) ⟨by show (f : Int) ≤ (f : Int); omega, .inl rfl⟩)
              have v4 := Lib.hid (has_lst_not ⟨1, t⟩ (f : Int) (by simp only; omega))
              go_wp2_with fail
              refine (has_any A1 _ c1 _ (f : Int) w5 R1 (lst_len _ _)).mono ?_
              rintro e w6 ⟨rfl, hB6⟩
              rw [v1.out]
              have R3 := (R3.below hB6).more hB6.size
              have R4 := (R4.below hB6).more hB6.size
              have R2 := (R2.below hB6).more hB6.size
              have hB06 := below_then hB05 hB05.size hB6
              go_wp2_with fail
              refine (has_any A3 _ c3 _ (f : Int) w6 R3 (lst_len _ _)).mono ?_
              rintro e w7 ⟨rfl, hB7⟩
              rw [v3.out]
              have R4 := (R4.below hB7).more hB7.size
              have R2 := (R2.below hB7).more hB7.size
              have hB07 := below_then hB06 hB06.size hB7
              go_wp2_with fail
              refine (has_any A4 _ c4 _ (f : Int) w7 R4 (lst_len _ _)).mono ?_
              rintro e w8 ⟨rfl, hB8⟩
              rw [v4.out]
              have R2 := (R2.below hB8).more hB8.size
              have hB08 := below_then hB07 hB07.size hB8
              go_wp2_with fail
              refine (has_any A2 _ c2 _ (f : Int) w8 R2 (lst_len _ _)).mono ?_
              rintro e w9 ⟨rfl, hB9⟩
              rw [v2.out]
              have hB09 := below_then hB08 hB08.size hB9
              go_wp2_with fail
              go_ret
              exact ⟨rfl, hB09⟩
            have b1 : (x == (f : Int)) = false := by simp; omega
            have b2 : decide ((f : Int) ≤ x) = true := decide_eq_true (by omega)
            have b3 : decide ((1 : Int) ≤ x) = true := decide_eq_true (by omega)
            have b4 : decide (x ≤ (t : Int)) = false := decide_eq_false (by omega)
            have v1 := Lib.hid (has_lst_not ⟨f, f⟩ x (by simp only; omega))
            have v2 := Lib.hid (has_lst_no ⟨f, t⟩ x)
            have v3 := Lib.hid (has_lst_yes ⟨f, 0⟩ x ⟨by show (f : Int) ≤ x; omega, .inl rfl⟩)
            have v4 := Lib.hid (has_lst_not ⟨1, t⟩ x (by simp only; omega))
            go_wp2_with fail
            refine (has_any A1 _ c1 _ x w5 R1 (lst_len _ _)).mono ?_
            rintro e w6 ⟨rfl, hB6⟩
            rw [v1.out]
            have R3 := (R3.below hB6).more hB6.size
            have R4 := (R4.below hB6).more hB6.size
            have R2 := (R2.below hB6).more hB6.size
            have hB06 := below_then hB05 hB05.size hB6
            go_wp2_with fail
            refine (has_any A3 _ c3 _ x w6 R3 (lst_len _ _)).mono ?_
            rintro e w7 ⟨rfl, hB7⟩
            rw [v3.out]
            have R4 := (R4.below hB7).more hB7.size
            have R2 := (R2.below hB7).more hB7.size
            have hB07 := below_then hB06 hB06.size hB7
            go_wp2_with fail
            refine (has_any A4 _ c4 _ x w7 R4 (lst_len _ _)).mono ?_
            rintro e w8 ⟨rfl, hB8⟩
            rw [v4.out]
            have R2 := (R2.below hB8).more hB8.size
            have hB08 := below_then hB07 hB07.size hB8
            go_wp2_with fail
            refine (has_any A2 _ c2 _ x w8 R2 (lst_len _ _)).mono ?_
            rintro e w9 ⟨rfl, hB9⟩
            rw [v2.out]
            have hB09 := below_then hB08 hB08.size hB9
            go_wp2_with fail
            go_ret
            exact ⟨rfl, hB09⟩
        | false =>
          have hp1 := placeB_true hM1.symm
          have hp2 := placeB_false hM2.symm
          rw [show (true && false && decide (f ≤ t)) = false from rfl] at R2 ⊢
          simp only [show code true = 0 from rfl, show code false = 5 from rfl]
          clear hM1 hM2
          by_cases c1x : x < f
          · have b1 : (x == (f : Int)) = false := by simp; omega
            have b2 : decide ((f : Int) ≤ x) = false := decide_eq_false (by omega)
            have v1 := Lib.hid (has_lst_not ⟨f, f⟩ x (by simp only; omega))
            have v2 := Lib.hid (has_lst_no ⟨f, t⟩ x)
            have v3 := Lib.hid (has_lst_not ⟨f, 0⟩ x (fun h => by have h1 : (f : Int) ≤ x := h.1; omega))
            have v4 := Lib.hid (has_lst_no ⟨1, t⟩ x)
            go_wp2_with fail
            refine (has_any A1 _ c1 _ x w5 R1 (lst_len _ _)).mono ?_
            rintro e w6 ⟨rfl, hB6⟩
            rw [v1.out]
            have R3 := (R3.below hB6).more hB6.size
            have R4 := (R4.below hB6).more hB6.size
            have R2 := (R2.below hB6).more hB6.size
            have hB06 := below_then hB05 hB05.size hB6
            go_wp2_with fail
            refine (has_any A3 _ c3 _ x w6 R3 (lst_len _ _)).mono ?_
            rintro e w7 ⟨rfl, hB7⟩
            rw [v3.out]
            have R4 := (R4.below hB7).more hB7.size
            have R2 := (R2.below hB7).more hB7.size
            have hB07 := below_then hB06 hB06.size hB7
            go_wp2_with fail
            refine (has_any A4 _ c4 _ x w7 R4 (lst_len _ _)).mono ?_
            rintro e w8 ⟨rfl, hB8⟩
            rw [v4.out]
            have R2 := (R2.below hB8).more hB8.size
            have hB08 := below_then hB07 hB07.size hB8
            go_wp2_with fail
            refine (has_any A2 _ c2 _ x w8 R2 (lst_len _ _)).mono ?_
            rintro e w9 ⟨rfl, hB9⟩
            rw [v2.out]
            have hB09 := below_then hB08 hB08.size hB9
            go_wp2_with fail
            go_ret
            exact ⟨rfl, hB09⟩
          by_cases c2x : x ≤ f
          · obtain rfl : x = (f : Int) := by omega
            have v1 := Lib.hid (has_lst_yes ⟨f, f⟩ (f : Int) (by simp only; omega))
            have v2 := Lib.hid (has_lst_no ⟨f, t⟩ (f : Int))
            have v3 := Lib.hid (has_lst_yes ⟨f, 0⟩ (f : Int) ⟨by show (f : Int) ≤ (f : Int); omega, .inl rfl⟩)
            have v4 := Lib.hid (has_lst_no ⟨1, t⟩ (f : Int))
            go_wp2_with fail
            refine (has_any A1 _ c1 _ (f : Int) w5 R1 (lst_len _ _)).mono ?_
            rintro e w6 ⟨rfl, hB6⟩
            rw [v1.out]
            have R3 := (R3.below hB6).more hB6.size
            have R4 := (R4.below hB6).more hB6.size
            have R2 := (R2.below hB6).more hB6.size
            have hB06 := below_then hB05 hB05.size hB6
            go_wp2_with fail
            refine (has_any A3 _ c3 _ (f : Int) w6 R3 (lst_len _ _)).mono ?_
            rintro e w7 ⟨rfl, hB7⟩
            rw [v3.out]
            have R4 := (R4.below hB7).more hB7.size
            have R2 := (R2.below hB7).more hB7.size
            have hB07 := below_then hB06 hB06.size hB7
            go_wp2_with fail
            refine (has_any A4 _ c4 _ (f : Int) w7 R4 (lst_len _ _)).mono ?_
            rintro e w8 ⟨rfl, hB8⟩
            rw [v4.out]
            have R2 := (R2.below hB8).more hB8.size
            have hB08 := below_then hB07 hB07.size hB8
            go_wp2_with fail
            refine (has_any A2 _ c2 _ (f : Int) w8 R2 (lst_len _ _)).mono ?_
            rintro e w9 ⟨rfl, hB9⟩
            rw [v2.out]
            have hB09 := below_then hB08 hB08.size hB9
            go_wp2_with fail
            go_ret
            exact ⟨rfl, hB09⟩
          have b1 : (x == (f : Int)) = false := by simp; omega
          have b2 : decide ((f : Int) ≤ x) = true := decide_eq_true (by omega)
          have v1 := Lib.hid (has_lst_not ⟨f, f⟩ x (by simp only; omega))
          have v2 := Lib.hid (has_lst_no ⟨f, t⟩ x)
          have v3 := Lib.hid (has_lst_yes ⟨f, 0⟩ x ⟨by show (f : Int) ≤ x; omega, .inl rfl⟩)
          have v4 := Lib.hid (has_lst_no ⟨1, t⟩ x)
          go_wp2_with fail
          refine (has_any A1 _ c1 _ x w5 R1 (lst_len _ _)).mono ?_
          rintro e w6 ⟨rfl, hB6⟩
          rw [v1.out]
          have R3 := (R3.below hB6).more hB6.size
          have R4 := (R4.below hB6).more hB6.size
          have R2 := (R2.below hB6).more hB6.size
          have hB06 := below_then hB05 hB05.size hB6
          go_wp2_with fail
          refine (has_any A3 _ c3 _ x w6 R3 (lst_len _ _)).mono ?_
          rintro e w7 ⟨rfl, hB7⟩
          rw [v3.out]
          have R4 := (R4.below hB7).more hB7.size
          have R2 := (R2.below hB7).more hB7.size
          have hB07 := below_then hB06 hB06.size hB7
          go_wp2_with fail
          refine (has_any A4 _ c4 _ x w7 R4 (lst_len _ _)).mono ?_
          rintro e w8 ⟨rfl, hB8⟩
          rw [v4.out]
          have R2 := (R2.below hB8).more hB8.size
          have hB08 := below_then hB07 hB07.size hB8
          go_wp2_with fail
          refine (has_any A2 _ c2 _ x w8 R2 (lst_len _ _)).mono ?_
          rintro e w9 ⟨rfl, hB9⟩
          rw [v2.out]
          have hB09 := below_then hB08 hB08.size hB9
          go_wp2_with fail
          go_ret
          exact ⟨rfl, hB09⟩
      | false =>
        cases m2 with
        | true =>
          have hp1 := placeB_false hM1.symm
          have hp2 := placeB_true hM2.symm
          rw [show (false && true && decide (f ≤ t)) = false from rfl] at R2 ⊢
          simp only [show code true = 0 from rfl, show code false = 5 from rfl]
          clear hM1 hM2
          by_cases c1x : x < 1
          · have b3 : decide ((1 : Int) ≤ x) = false := decide_eq_false (by omega)
            have b4 : decide (x ≤ (t : Int)) = true := decide_eq_true (by omega)
            have v1 := Lib.hid (has_lst_no ⟨f, f⟩ x)
            have v2 := Lib.hid (has_lst_no ⟨f, t⟩ x)
            have v3 := Lib.hid (has_lst_no ⟨f, 0⟩ x)
            have v4 := Lib.hid (has_lst_not ⟨1, t⟩ x (by simp only; omega))
            go_wp2_with fail
            refine (has_any A1 _ c1 _ x w5 R1 (lst_len _ _)).mono ?_
            rintro e w6 ⟨rfl, hB6⟩
            rw [v1.out]
            have R3 := (R3.below hB6).more hB6.size
            have R4 := (R4.below hB6).more hB6.size
            have R2 := (R2.below hB6).more hB6.size
            have hB06 := below_then hB05 hB05.size hB6
            go_wp2_with fail
            refine (has_any A3 _ c3 _ x w6 R3 (lst_len _ _)).mono ?_
            rintro e w7 ⟨rfl, hB7⟩
            rw [v3.out]
            have R4 := (R4.below hB7).more hB7.size
            have R2 := (R2.below hB7).more hB7.size
            have hB07 := below_then hB06 hB06.size hB7
            go_wp2_with fail
            refine (has_any A4 _ c4 _ x w7 R4 (lst_len _ _)).mono ?_
            rintro e w8 ⟨rfl, hB8⟩
            rw [v4.out]
            have R2 := (R2.below hB8).more hB8.size
            have hB08 := below_then hB07 hB07.size hB8
            go_wp2_with fail
            refine (has_any A2 _ c2 _ x w8 R2 (lst_len _ _)).mono ?_
            rintro e w9 ⟨rfl, hB9⟩
            rw [v2.out]
            have hB09 := below_then hB08 hB08.size hB9
            go_wp2_with fail
            go_ret
            exact ⟨rfl, hB09⟩
          by_cases c2x : x ≤ t
          · have b3 : decide ((1 : Int) ≤ x) = true := decide_eq_true (by omega)
            have b4 : decide (x ≤ (t : Int)) = true := decide_eq_true (by omega)
            have v1 := Lib.hid (has_lst_no ⟨f, f⟩ x)
            have v2 := Lib.hid (has_lst_no ⟨f, t⟩ x)
            have v3 := Lib.hid (has_lst_no ⟨f, 0⟩ x)
            have v4 := Lib.hid (has_lst_yes ⟨1, t⟩ x (by simp only; omega))
            go_wp2_with fail
            refine (has_any A1 _ c1 _ x w5 R1 (lst_len _ _)).mono ?_
            rintro e w6 ⟨rfl, hB6⟩
            rw [v1.out]
            have R3 := (R3.below hB6).more hB6.size
            have R4 := (R4.below hB6).more hB6.size
            have R2 := (R2.below hB6).more hB6.size
            have hB06 := below_then hB05 hB05.size hB6
            go_wp2_with fail
            refine (has_any A3 _ c3 _ x w6 R3 (lst_len _ _)).mono ?_
            rintro e w7 ⟨rfl, hB7⟩
            rw [v3.out]
            have R4 := (R4.below hB7).more hB7.size
            have R2 := (R2.below hB7).more hB7.size
            have hB07 := below_then hB06 hB06.size hB7
            go_wp2_with fail
            refine (has_any A4 _ c4 _ x w7 R4 (lst_len _ _)).mono ?_
            rintro e w8 ⟨rfl, hB8⟩
            rw [v4.out]
            have R2 := (R2.below hB8).more hB8.size
            have hB08 := below_then hB07 hB07.size hB8
            go_wp2_with fail
            refine (has_any A2 _ c2 _ x w8 R2 (lst_len _ _)).mono ?_
            rintro e w9 ⟨rfl, hB9⟩
            rw [v2.out]
            have hB09 := below_then hB08 hB08.size hB9
            go_wp2_with fail
            go_ret
            exact ⟨rfl, hB09⟩
          have b3 : decide ((1 : Int) ≤ x) = true := decide_eq_true (by omega)
          have b4 : decide (x ≤ (t : Int)) = false := decide_eq_false (by omega)
          have v1 := Lib.hid (has_lst_no ⟨f, f⟩ x)
          have v2 := Lib.hid (has_lst_no ⟨f, t⟩ x)
          have v3 := Lib.hid (has_lst_no ⟨f, 0⟩ x)
          have v4 := Lib.hid (has_lst_not ⟨1, t⟩ x (by simp only; omega))
          go_wp2_with fail
          refine (has_any A1 _ c1 _ x w5 R1 (lst_len _ _)).mono ?_
          rintro e w6 ⟨rfl, hB6⟩
          rw [v1.out]
          have R3 := (R3.below hB6).more hB6.size
          have R4 := (R4.below hB6).more hB6.size
          have R2 := (R2.below hB6).more hB6.size
          have hB06 := below_then hB05 hB05.size hB6
          go_wp2_with fail
          refine (has_any A3 _ c3 _ x w6 R3 (lst_len _ _)).mono ?_
          rintro e w7 ⟨rfl, hB7⟩
          rw [v3.out]
          have R4 := (R4.below hB7).more hB7.size
          have R2 := (R2.below hB7).more hB7.size
          have hB07 := below_then hB06 hB06.size hB7
          go_wp2_with fail
          refine (has_any A4 _ c4 _ x w7 R4 (lst_len _ _)).mono ?_
          rintro e w8 ⟨rfl, hB8⟩
          rw [v4.out]
          have R2 := (R2.below hB8).more hB8.size
          have hB08 := below_then hB07 hB07.size hB8
          go_wp2_with fail
          refine (has_any A2 _ c2 _ x w8 R2 (lst_len _ _)).mono ?_
          rintro e w9 ⟨rfl, hB9⟩
          rw [v2.out]
          have hB09 := below_then hB08 hB08.size hB9
          go_wp2_with fail
          go_ret
          exact ⟨rfl, hB09⟩
        | false =>
          have hp1 := placeB_false hM1.symm
          have hp2 := placeB_false hM2.symm
          rw [show (false && false && decide (f ≤ t)) = false from rfl] at R2 ⊢
          simp only [show code false = 5 from rfl]
          clear hM1 hM2
          have v1 := Lib.hid (has_lst_no ⟨f, f⟩ x)
          have v2 := Lib.hid (has_lst_no ⟨f, t⟩ x)
          have v3 := Lib.hid (has_lst_no ⟨f, 0⟩ x)
          have v4 := Lib.hid (has_lst_no ⟨1, t⟩ x)
          go_wp2_with fail
          refine (has_any A1 _ c1 _ x w5 R1 (lst_len _ _)).mono ?_
          rintro e w6 ⟨rfl, hB6⟩
          rw [v1.out]
          have R3 := (R3.below hB6).more hB6.size
          have R4 := (R4.below hB6).more hB6.size
          have R2 := (R2.below hB6).more hB6.size
          have hB06 := below_then hB05 hB05.size hB6
          go_wp2_with fail
          refine (has_any A3 _ c3 _ x w6 R3 (lst_len _ _)).mono ?_
          rintro e w7 ⟨rfl, hB7⟩
          rw [v3.out]
          have R4 := (R4.below hB7).more hB7.size
          have R2 := (R2.below hB7).more hB7.size
          have hB07 := below_then hB06 hB06.size hB7
          go_wp2_with fail
          refine (has_any A4 _ c4 _ x w7 R4 (lst_len _ _)).mono ?_
          rintro e w8 ⟨rfl, hB8⟩
          rw [v4.out]
          have R2 := (R2.below hB8).more hB8.size
          have hB08 := below_then hB07 hB07.size hB8
          go_wp2_with fail
          refine (has_any A2 _ c2 _ x w8 R2 (lst_len _ _)).mono ?_
          rintro e w9 ⟨rfl, hB9⟩
          rw [v2.out]
          have hB09 := below_then hB08 hB08.size hB9
          go_wp2_with fail
          go_ret
          exact ⟨rfl, hB09⟩
end Go.Proofs.YtgibhlpocmppjaaDoor
