/-
  opts.Number: its contract.
-/
import Derived.Test.YtghkdfjmahmolaaDoorRefNumber
import Derived.Test.YtghkdfjmahmolaaDoorShelf
import Derived.Shelf.Strings.SlTrimAscii
namespace Go.Proofs.YtghkdfjmahmolaaDoor
open Go.RowKit

theorem str_isEmpty : (str []).toList.isEmpty = true := by rw [ByteArray.toList_eq]; rfl
theorem str_some (a : List UInt8) (h : a ≠ []) : (str a).toList.isEmpty = false := by
  rw [ByteArray.toList_eq]
  cases a with
  | nil => exact absurd rfl h
  | cons _ _ => rfl
theorem ascii_digits : ∀ (j : Nat) b, (str digitsS).data.toList[j]? = some b → b.toNat < 128 := ascii_of_all (by decide)
/-- strings.Trim at the ten digits. -/
theorem trim_any (l : List UInt8) (w : World) (hl : l.length ≤ 2097152) :
    Calls Tryd.prog 26 #[.string (str l), .string { data := #[48, 49, 50, 51, 52, 53, 54, 55, 56, 57] }] w fun e w' => e = .returned (.string (str (Lib.trimS l digitsS))) ∧ Below w.heap.size w w' :=
  Any.strings_Trim_laid Tryd.lays160 (by kernel_rfl) (str l) (str digitsS) w (by rw [str_size]; omega) (by decide) ascii_digits
theorem contains_any (c : UInt8) (b : Bool) (hb : (decide (c = 43) || decide (c = 45)) = b) (w : World) :
    Calls Tryd.prog 25 #[.string { data := #[43, 45] }, .string (str [c])] w fun e w' => e = .returned (.bool b) ∧ w' = w :=
  (Go.Proofs.Tryd.strings_Contains_one (str [43, 45]) c w).mono fun e w' h => ⟨by
    rw [h.1, ← hb]
    congr 2
    show decide (0 ≤ Lib.indexByte [43, 45] c) = _
    by_cases h1 : c = 43
    · subst h1; decide
    · by_cases h2 : c = 45
      · subst h2; decide
      · rw [decide_eq_false h1, decide_eq_false h2]
        have e1 : ¬ (43 : UInt8) = c := fun e => h1 e.symm
        have e2 : ¬ (45 : UInt8) = c := fun e => h2 e.symm
        simp [Lib.indexByte, e1, e2], h.2⟩
theorem atoi_below (w w' : World) (h : w' = w ∨ ∃ t, w' = Lib.bytesWorld w 5 t) : Below w.heap.size w w' := by
  rcases h with rfl | ⟨t, rfl⟩
  · exact Below.refl _ _
  · exact ⟨rfl, rfl, rfl, by rw [Lib.bytesWorld_size]; omega, fun k hk => Lib.bytesWorld_at_old w _ t k hk⟩
theorem atoi_any (s : List UInt8) (w : World) (h : numOk s = true) (hl : s.length ≤ 2097152) :
    Calls Tryd.prog 27 #[.string (str s)] w fun e w' => e = .returned (.tuple #[.int .i64 (numV s), .nilIface]) ∧ Below w.heap.size w w' :=
  (Go.Proofs.Tryd.strconv_Atoi_ok (str s) (by rw [str_size]; omega) (numV s) (atoi_num s h) w).mono fun e w' h => ⟨h.1, atoi_below w w' h.2⟩

set_option maxRecDepth 100000 in
set_option maxHeartbeats 4000000 in
theorem number_any (s : List UInt8) (w : World) (hl : s.length ≤ 2097152) :
    Calls Tryd.prog 12 #[.string (str s)] w fun e w' => NumIs s e ∧ Below w.heap.size w w' := by
  have hs0 : (str s).size = s.length := str_size s
  cases s with
  | nil =>
    have HN := Lib.hid (numOk_no [] (fun h => by simp [bareV] at h))
    have hq : (str []).toList.isEmpty = true := str_isEmpty
    simp only [List.length_nil] at hs0
    go_enter Tryd.func12, Tryd.ntmps12
    go_wp2_with fail
    go_ret2
    exact ⟨NumIs.no HN.out, Below.refl _ _⟩
  | cons c r =>
    have hs1 : (str (c :: r)).size = r.length + 1 := by rw [hs0]; rfl
    have hne : (str (c :: r)).toList.isEmpty = false := str_some _ (by simp)
    have hx1 : (str (c :: r)).extract 0 1 = str [c] := by rw [str_upto]; rfl
    simp only [List.length_cons] at hl
    clear hs0
    rcases (show c = 43 ∨ c = 45 ∨ (c ≠ 43 ∧ c ≠ 45) by by_cases h1 : c = 43 <;> by_cases h2 : c = 45 <;> simp [h1, h2]) with h | h | h
    · subst h
      have hb : bareV (43 :: r) = r := rfl
      have hx : (str (43 :: r)).extract 1 (r.length + 1) = str r := by rw [← hs1, str_from]; rfl
      have HB := Lib.hid hb
      clear hb
      have hsr : (str r).size = r.length := str_size _
      by_cases hz : r = []
      · subst hz
        have HN := Lib.hid (numOk_no ([43]) (fun h => by have e1 := h.1; rw [HB.out] at e1; simp at e1))
        have hq : (str []).toList.isEmpty = true := str_isEmpty
        go_enter Tryd.func12, Tryd.ntmps12
        go_wp2_with fail
        refine (contains_any 43 true (by decide) w).mono ?_
        rintro e w1 ⟨rfl, hw⟩
        rw [hw]
        clear hw w1
        go_wp2_with fail
        go_ret2
        exact ⟨NumIs.no HN.out, Below.refl _ _⟩
      have hqr : (str r).toList.isEmpty = false := str_some _ hz
      have hz1 : 1 ≤ r.length := by cases r with | nil => exact absurd rfl hz | cons _ _ => simp
      clear hz
      by_cases h18 : 18 < r.length
      · have HN := Lib.hid (numOk_no (43 :: r) (fun h => by have e2 := h.2.1; rw [HB.out] at e2; first | omega | (simp only [List.length_cons] at e2; omega)))
        have h18i : decide (18 < ((r.length : Nat) : Int)) = true := decide_eq_true (by omega)
        go_enter Tryd.func12, Tryd.ntmps12
        go_wp2_with fail
        refine (contains_any 43 true (by decide) w).mono ?_
        rintro e w1 ⟨rfl, hw⟩
        rw [hw]
        clear hw w1
        go_wp2_with fail
        go_ret2
        exact ⟨NumIs.no HN.out, Below.refl _ _⟩
      have h18i : decide (18 < ((r.length : Nat) : Int)) = false := decide_eq_false (by omega)
      cases hd : allDig r with
      | false =>
        have HN := Lib.hid (numOk_no (43 :: r) (fun h => by have e2 := h.2.2; rw [HB.out, hd] at e2; cases e2))
        have hqt : (str (Lib.trimS r digitsS)).toList.isEmpty = false := str_some _ (fun e => by rw [(trim_digits _).1 e] at hd; cases hd)
        clear hd
        go_enter Tryd.func12, Tryd.ntmps12
        go_wp2_with fail
        refine (contains_any 43 true (by decide) w).mono ?_
        rintro e w1 ⟨rfl, hw⟩
        rw [hw]
        clear hw w1
        go_wp2_with fail
        refine (trim_any r w (by first | omega | (simp only [List.length_cons]; omega))).mono ?_
        rintro e w1 ⟨rfl, hB⟩
        go_wp2_with fail
        go_ret2
        exact ⟨NumIs.no HN.out, hB⟩
      | true =>
        have HN := Lib.hid (numOk_yes (43 :: r) (by rw [HB.out]; first | omega | (simp only [List.length_cons]; omega)) (by rw [HB.out]; first | omega | (simp only [List.length_cons]; omega)) (by rw [HB.out]; exact hd))
        have ht : Lib.trimS r digitsS = [] := (trim_digits _).2 hd
        have hq : (str []).toList.isEmpty = true := str_isEmpty
        clear hd
        go_enter Tryd.func12, Tryd.ntmps12
        go_wp2_with fail
        refine (contains_any 43 true (by decide) w).mono ?_
        rintro e w1 ⟨rfl, hw⟩
        rw [hw]
        clear hw w1
        go_wp2_with fail
        refine (trim_any r w (by first | omega | (simp only [List.length_cons]; omega))).mono ?_
        rintro e w1 ⟨rfl, hB⟩
        rw [ht]
        clear ht
        go_wp2_with fail
        refine (atoi_any (43 :: r) w1 HN.out (by simp only [List.length_cons]; omega)).mono ?_
        rintro e w2 ⟨rfl, hB2⟩
        go_wp2_with (go_quiet (fail))
        go_ret2
        exact ⟨NumIs.yes HN.out rfl, below_then hB hB.size (hB2.trans ⟨rfl, rfl, rfl, Nat.le_refl _, fun _ _ => rfl⟩)⟩
    · subst h
      have hb : bareV (45 :: r) = r := rfl
      have hx : (str (45 :: r)).extract 1 (r.length + 1) = str r := by rw [← hs1, str_from]; rfl
      have HB := Lib.hid hb
      clear hb
      have hsr : (str r).size = r.length := str_size _
      by_cases hz : r = []
      · subst hz
        have HN := Lib.hid (numOk_no ([45]) (fun h => by have e1 := h.1; rw [HB.out] at e1; simp at e1))
        have hq : (str []).toList.isEmpty = true := str_isEmpty
        go_enter Tryd.func12, Tryd.ntmps12
        go_wp2_with fail
        refine (contains_any 45 true (by decide) w).mono ?_
        rintro e w1 ⟨rfl, hw⟩
        rw [hw]
        clear hw w1
        go_wp2_with fail
        go_ret2
        exact ⟨NumIs.no HN.out, Below.refl _ _⟩
      have hqr : (str r).toList.isEmpty = false := str_some _ hz
      have hz1 : 1 ≤ r.length := by cases r with | nil => exact absurd rfl hz | cons _ _ => simp
      clear hz
      by_cases h18 : 18 < r.length
      · have HN := Lib.hid (numOk_no (45 :: r) (fun h => by have e2 := h.2.1; rw [HB.out] at e2; first | omega | (simp only [List.length_cons] at e2; omega)))
        have h18i : decide (18 < ((r.length : Nat) : Int)) = true := decide_eq_true (by omega)
        go_enter Tryd.func12, Tryd.ntmps12
        go_wp2_with fail
        refine (contains_any 45 true (by decide) w).mono ?_
        rintro e w1 ⟨rfl, hw⟩
        rw [hw]
        clear hw w1
        go_wp2_with fail
        go_ret2
        exact ⟨NumIs.no HN.out, Below.refl _ _⟩
      have h18i : decide (18 < ((r.length : Nat) : Int)) = false := decide_eq_false (by omega)
      cases hd : allDig r with
      | false =>
        have HN := Lib.hid (numOk_no (45 :: r) (fun h => by have e2 := h.2.2; rw [HB.out, hd] at e2; cases e2))
        have hqt : (str (Lib.trimS r digitsS)).toList.isEmpty = false := str_some _ (fun e => by rw [(trim_digits _).1 e] at hd; cases hd)
        clear hd
        go_enter Tryd.func12, Tryd.ntmps12
        go_wp2_with fail
        refine (contains_any 45 true (by decide) w).mono ?_
        rintro e w1 ⟨rfl, hw⟩
        rw [hw]
        clear hw w1
        go_wp2_with fail
        refine (trim_any r w (by first | omega | (simp only [List.length_cons]; omega))).mono ?_
        rintro e w1 ⟨rfl, hB⟩
        go_wp2_with fail
        go_ret2
        exact ⟨NumIs.no HN.out, hB⟩
      | true =>
        have HN := Lib.hid (numOk_yes (45 :: r) (by rw [HB.out]; first | omega | (simp only [List.length_cons]; omega)) (by rw [HB.out]; first | omega | (simp only [List.length_cons]; omega)) (by rw [HB.out]; exact hd))
        have ht : Lib.trimS r digitsS = [] := (trim_digits _).2 hd
        have hq : (str []).toList.isEmpty = true := str_isEmpty
        clear hd
        go_enter Tryd.func12, Tryd.ntmps12
        go_wp2_with fail
        refine (contains_any 45 true (by decide) w).mono ?_
        rintro e w1 ⟨rfl, hw⟩
        rw [hw]
        clear hw w1
        go_wp2_with fail
        refine (trim_any r w (by first | omega | (simp only [List.length_cons]; omega))).mono ?_
        rintro e w1 ⟨rfl, hB⟩
        rw [ht]
        clear ht
        go_wp2_with fail
        refine (atoi_any (45 :: r) w1 HN.out (by simp only [List.length_cons]; omega)).mono ?_
        rintro e w2 ⟨rfl, hB2⟩
        go_wp2_with (go_quiet (fail))
        go_ret2
        exact ⟨NumIs.yes HN.out rfl, below_then hB hB.size (hB2.trans ⟨rfl, rfl, rfl, Nat.le_refl _, fun _ _ => rfl⟩)⟩
    · obtain ⟨h1, h2⟩ := h
      have hb : bareV (c :: r) = c :: r := by show (if c = 43 ∨ c = 45 then r else c :: r) = c :: r; rw [if_neg (by simp [h1, h2])]
      have HC := Lib.hid (show (decide (c = 43) || decide (c = 45)) = false by simp [h1, h2])
      have HB := Lib.hid hb
      clear hb
      have hsr : (str (c :: r)).size = r.length + 1 := str_size _
      by_cases h18 : 18 < r.length + 1
      · have HN := Lib.hid (numOk_no (c :: r) (fun h => by have e2 := h.2.1; rw [HB.out] at e2; first | omega | (simp only [List.length_cons] at e2; omega)))
        have h18i : decide (18 < ((r.length + 1 : Nat) : Int)) = true := decide_eq_true (by omega)
        go_enter Tryd.func12, Tryd.ntmps12
        go_wp2_with fail
        refine (contains_any c false HC.out w).mono ?_
        rintro e w1 ⟨rfl, hw⟩
        rw [hw]
        clear hw w1
        go_wp2_with fail
        go_ret2
        exact ⟨NumIs.no HN.out, Below.refl _ _⟩
      have h18i : decide (18 < ((r.length + 1 : Nat) : Int)) = false := decide_eq_false (by omega)
      cases hd : allDig (c :: r) with
      | false =>
        have HN := Lib.hid (numOk_no (c :: r) (fun h => by have e2 := h.2.2; rw [HB.out, hd] at e2; cases e2))
        have hqt : (str (Lib.trimS (c :: r) digitsS)).toList.isEmpty = false := str_some _ (fun e => by rw [(trim_digits _).1 e] at hd; cases hd)
        clear hd
        go_enter Tryd.func12, Tryd.ntmps12
        go_wp2_with fail
        refine (contains_any c false HC.out w).mono ?_
        rintro e w1 ⟨rfl, hw⟩
        rw [hw]
        clear hw w1
        go_wp2_with fail
        refine (trim_any (c :: r) w (by first | omega | (simp only [List.length_cons]; omega))).mono ?_
        rintro e w1 ⟨rfl, hB⟩
        go_wp2_with fail
        go_ret2
        exact ⟨NumIs.no HN.out, hB⟩
      | true =>
        have HN := Lib.hid (numOk_yes (c :: r) (by rw [HB.out]; first | omega | (simp only [List.length_cons]; omega)) (by rw [HB.out]; first | omega | (simp only [List.length_cons]; omega)) (by rw [HB.out]; exact hd))
        have ht : Lib.trimS (c :: r) digitsS = [] := (trim_digits _).2 hd
        have hq : (str []).toList.isEmpty = true := str_isEmpty
        clear hd
        go_enter Tryd.func12, Tryd.ntmps12
        go_wp2_with fail
        refine (contains_any c false HC.out w).mono ?_
        rintro e w1 ⟨rfl, hw⟩
        rw [hw]
        clear hw w1
        go_wp2_with fail
        refine (trim_any (c :: r) w (by first | omega | (simp only [List.length_cons]; omega))).mono ?_
        rintro e w1 ⟨rfl, hB⟩
        rw [ht]
        clear ht
        go_wp2_with fail
        refine (atoi_any (c :: r) w1 HN.out (by simp only [List.length_cons]; omega)).mono ?_
        rintro e w2 ⟨rfl, hB2⟩
        go_wp2_with (go_quiet (fail))
        go_ret2
        exact ⟨NumIs.yes HN.out rfl, below_then hB hB.size (hB2.trans ⟨rfl, rfl, rfl, Nat.le_refl _, fun _ _ => rfl⟩)⟩
end Go.Proofs.YtghkdfjmahmolaaDoor
