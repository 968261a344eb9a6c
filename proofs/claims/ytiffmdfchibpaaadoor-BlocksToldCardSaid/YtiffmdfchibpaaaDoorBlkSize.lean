/-
  Sizes of words: plain; blocks.Size: its contract.
-/
import Derived.Test.YtiffmdfchibpaaaDoorNumCore
set_option linter.unusedVariables false
set_option linter.unusedSimpArgs false
namespace Go.Proofs.YtiffmdfchibpaaaDoor
open Go.RowKit

/-- A word's digits, and how many times. -/
def sizeB (s : List UInt8) : List UInt8 × Nat := if s.getLast? = some 107 then (s.dropLast, 1024) else if s.getLast? = some 98 then (s.dropLast, 512) else (s, 1)
def sizeOk (d : List UInt8) (t : Nat) : Bool := decide (1 ≤ d.length) && decide (d.length ≤ 10) && allDig d && decide (decV d * t ≤ 2147483647)
def SizeIs (d : List UInt8) (t : Nat) (e : Ending) : Prop := e = .returned (.tuple #[.int .i64 (if sizeOk d t = true then (decV d * t : Nat) else (0 : Nat) : Nat), .bool (sizeOk d t)])
theorem SizeIs.no {d : List UInt8} {t : Nat} (h : sizeOk d t = false) : SizeIs d t (.returned (.tuple #[.int .i64 0, .bool false])) := by
  unfold SizeIs
  rw [h]
  rfl
theorem SizeIs.yes {d : List UInt8} {t : Nat} {v : Int} (h : sizeOk d t = true) (hv : v = ((decV d * t : Nat) : Int)) : SizeIs d t (.returned (.tuple #[.int .i64 v, .bool true])) := by
  unfold SizeIs
  rw [h, if_pos rfl, hv]
theorem sizeOk_no (d : List UInt8) (t : Nat) (h : ¬ (1 ≤ d.length ∧ d.length ≤ 10 ∧ allDig d = true ∧ decV d * t ≤ 2147483647)) : sizeOk d t = false := by
  rw [Bool.eq_false_iff]
  intro e
  unfold sizeOk at e
  rw [Bool.and_eq_true, Bool.and_eq_true, Bool.and_eq_true, decide_eq_true_eq, decide_eq_true_eq, decide_eq_true_eq] at e
  exact h ⟨e.1.1.1, e.1.1.2, e.1.2, e.2⟩
theorem sizeOk_yes (d : List UInt8) (t : Nat) (h1 : 1 ≤ d.length) (h2 : d.length ≤ 10) (h3 : allDig d = true) (h4 : decV d * t ≤ 2147483647) : sizeOk d t = true := by
  unfold sizeOk
  rw [decide_eq_true h1, decide_eq_true h2, h3, decide_eq_true h4]
  rfl
theorem snoc_cases (s : List UInt8) : s = [] ∨ ∃ d c, s = d ++ [c] := by
  rcases List.eq_nil_or_concat s with h | ⟨d, c, h⟩
  · exact .inl h
  · exact .inr ⟨d, c, by rw [h, List.concat_eq_append]⟩
/-- The three kinds of words. -/
theorem sizeB_cases (s : List UInt8) : (∃ d, s = d ++ [107] ∧ sizeB s = (d, 1024)) ∨ (∃ d, s = d ++ [98] ∧ sizeB s = (d, 512)) ∨ (s.getLast? ≠ some 107 ∧ s.getLast? ≠ some 98 ∧ sizeB s = (s, 1)) := by
  rcases snoc_cases s with rfl | ⟨d, c, rfl⟩
  · exact .inr (.inr ⟨by simp, by simp, by simp [sizeB]⟩)
  · by_cases h1 : c = 107
    · subst h1; exact .inl ⟨d, rfl, by simp [sizeB]⟩
    · by_cases h2 : c = 98
      · subst h2; exact .inr (.inl ⟨d, rfl, by simp [sizeB]⟩)
      · exact .inr (.inr ⟨by simpa using h1, by simpa using h2, by simp [sizeB, h1, h2]⟩)
theorem cut_yes (d : List UInt8) (c : UInt8) (w : World) (hl : d.length ≤ 2097152) :
    Calls Tryd.prog 21 #[.string (str (d ++ [c])), .string { data := #[c] }] w fun e w' => e = .returned (.tuple #[.string (str d), .bool true]) ∧ w' = w :=
  (Go.Proofs.Tryd.strings_CutSuffix (str (d ++ [c])) (str [c]) w (by rw [str_size, List.length_append]; simp; omega)).mono fun e w' h => ⟨by
    rw [h.1]
    have e1 : Lib.hasSuffix (d ++ [c]) [c] = true := by unfold Lib.hasSuffix; simp [List.isSuffixOf]
    have e2 : Lib.trimSuffix (d ++ [c]) [c] = d := by unfold Lib.trimSuffix; rw [if_pos e1]; simp
    show Ending.returned (.tuple #[.string (str (Lib.trimSuffix (d ++ [c]) [c])), .bool (Lib.hasSuffix (d ++ [c]) [c])]) = _
    rw [e1, e2], h.2⟩
theorem cut_no (s : List UInt8) (c : UInt8) (h : s.getLast? ≠ some c) (w : World) (hl : s.length ≤ 2097152) :
    Calls Tryd.prog 21 #[.string (str s), .string { data := #[c] }] w fun e w' => e = .returned (.tuple #[.string (str s), .bool false]) ∧ w' = w :=
  (Go.Proofs.Tryd.strings_CutSuffix (str s) (str [c]) w (by rw [str_size]; omega)).mono fun e w' k => ⟨by
    rw [k.1]
    have e1 : Lib.hasSuffix s [c] = false := by
      rcases snoc_cases s with rfl | ⟨d, x, rfl⟩
      · rfl
      · have hx : ¬ x = c := by simpa using h
        have hx2 : ¬ c = x := fun e => hx e.symm
        unfold Lib.hasSuffix
        simp [List.isSuffixOf, List.isPrefixOf, hx2]
    have e2 : Lib.trimSuffix s [c] = s := by unfold Lib.trimSuffix; rw [if_neg (by rw [e1]; simp)]
    show Ending.returned (.tuple #[.string (str (Lib.trimSuffix s [c])), .bool (Lib.hasSuffix s [c])]) = _
    rw [e1, e2], k.2⟩
theorem atoi_dec (d : List UInt8) (w : World) (h : allDig d = true) (hne : d ≠ []) (hl : d.length ≤ 10) :
    Calls Tryd.prog 23 #[.string (str d)] w fun e w' => e = .returned (.tuple #[.int .i64 (decV d : Nat), .nilIface]) ∧ Below w.heap.size w w' := by
  have hb := decV_lt d h
  have h10 := Nat.pow_le_pow_right (show 0 < 10 by omega) hl
  exact (Go.Proofs.Tryd.strconv_Atoi_ok (str d) (by rw [str_size]; omega) (decV d : Nat) (atoi_digits d h hne (by omega)) w).mono fun e w' h => ⟨h.1, atoi_below w w' h.2⟩
theorem decV_10 (l : List UInt8) (h : allDig l = true) (hl : l.length ≤ 10) : decV l < 10000000000 := by
  have h1 := decV_lt l h
  have h2 := Nat.pow_le_pow_right (show 0 < 10 by omega) hl
  omega
set_option maxRecDepth 100000 in
set_option maxHeartbeats 2000000 in
theorem size_k (d : List UInt8) (w : World) (hl : d.length ≤ 2097151) :
    Calls Tryd.prog 13 #[.string (str (d ++ [107]))] w fun e w' => SizeIs d 1024 e ∧ Below w.heap.size w w' := by
  have hsd : (str d).size = d.length := str_size d
  by_cases hz : d = []
  · have hq : (str d).toList.isEmpty = true := by rw [hz]; exact strN_isEmpty
    have HN := Lib.hid (sizeOk_no d 1024 (fun h => by rw [hz] at h; have := h.1; simp at this))
    clear hz
    go_enter Tryd.func13, Tryd.ntmps13
    go_wp2_with fail
    refine (cut_yes d 107 w (by omega)).mono ?_
    rintro e w1 ⟨rfl, hw⟩; rw [hw]; clear hw w1
    go_wp2_with fail
    go_ret2
    exact ⟨SizeIs.no HN.out, Below.refl _ _⟩
  have hq : (str d).toList.isEmpty = false := strN_some d hz
  have HZ := Lib.hid hz
  have hz1 : 1 ≤ d.length := by cases d with | nil => exact absurd rfl hz | cons _ _ => simp
  clear hz
  by_cases h10 : 10 < d.length
  · have HN := Lib.hid (sizeOk_no d 1024 (fun h => by have := h.2.1; omega))
    have h10i : decide (10 < ((d.length : Nat) : Int)) = true := decide_eq_true (by omega)
    go_enter Tryd.func13, Tryd.ntmps13
    go_wp2_with fail
    refine (cut_yes d 107 w (by omega)).mono ?_
    rintro e w1 ⟨rfl, hw⟩; rw [hw]; clear hw w1
    go_wp2_with fail
    go_ret2
    exact ⟨SizeIs.no HN.out, Below.refl _ _⟩
  have h10i : decide (10 < ((d.length : Nat) : Int)) = false := decide_eq_false (by omega)
  cases hd : allDig d with
  | false =>
    have HN := Lib.hid (sizeOk_no d 1024 (fun h => by rw [hd] at h; simp at h))
    have hqt : (str (Lib.trimS d digitsS)).toList.isEmpty = false := strN_some _ (fun e => by rw [(trim_digits _).1 e] at hd; cases hd)
    clear hd
    go_enter Tryd.func13, Tryd.ntmps13
    go_wp2_with fail
    refine (cut_yes d 107 w (by omega)).mono ?_
    rintro e w1 ⟨rfl, hw⟩; rw [hw]; clear hw w1
    go_wp2_with fail
    refine (trim_any d w (by omega)).mono ?_
    rintro e w1 ⟨rfl, hB⟩
    go_wp2_with fail
    go_ret2
    exact ⟨SizeIs.no HN.out, hB⟩
  | true =>
    have ht : Lib.trimS d digitsS = [] := (trim_digits _).2 hd
    have hqe : (str []).toList.isEmpty = true := strN_isEmpty
    have hv10 := decV_10 d hd (by omega)
    have HD := Lib.hid hd
    have hat := fun w => atoi_dec d w HD.out HZ.out (by omega)
    obtain ⟨v, hv⟩ : ∃ v, v = decV d := ⟨_, rfl⟩
    rw [← hv] at hv10
    have HV := Lib.hid hv
    clear hd hv
    by_cases hbig : 2097151 < v
    · have HN := Lib.hid (sizeOk_no d 1024 (fun h => by have := h.2.2.2; rw [← HV.out] at this; omega))
      have hbi : decide ((2097151 : Int) < (v : Int)) = true := decide_eq_true (by omega)
      go_enter Tryd.func13, Tryd.ntmps13
      go_wp2_with fail
      refine (cut_yes d 107 w (by omega)).mono ?_
      rintro e w1 ⟨rfl, hw⟩; rw [hw]; clear hw w1
      go_wp2_with fail
      refine (trim_any d w (by omega)).mono ?_
      rintro e w1 ⟨rfl, hB⟩
      rw [ht]
      clear ht
      go_wp2_with fail
      refine (hat w1).mono ?_
      rintro e w2 ⟨rfl, hB2⟩
      rw [← HV.out]
      have h2 := below_then hB hB.size hB2
      clear hat hB hB2
      go_wp2_with fail
      go_ret2
      exact ⟨SizeIs.no HN.out, h2⟩
    · have HN := Lib.hid (sizeOk_yes d 1024 hz1 (by omega) HD.out (by rw [← HV.out]; omega))
      have hbi : decide ((2097151 : Int) < (v : Int)) = false := decide_eq_false (by omega)
      go_enter Tryd.func13, Tryd.ntmps13
      go_wp2_with fail
      refine (cut_yes d 107 w (by omega)).mono ?_
      rintro e w1 ⟨rfl, hw⟩; rw [hw]; clear hw w1
      go_wp2_with fail
      refine (trim_any d w (by omega)).mono ?_
      rintro e w1 ⟨rfl, hB⟩
      rw [ht]
      clear ht
      go_wp2_with fail
      refine (hat w1).mono ?_
      rintro e w2 ⟨rfl, hB2⟩
      rw [← HV.out]
      have h2 := below_then hB hB.size hB2
      clear hat hB hB2
      go_wp2_with fail
      go_ret2
      exact ⟨SizeIs.yes HN.out (by rw [← HV.out]; first | rfl | omega | (simp; done)), h2⟩
set_option maxRecDepth 100000 in
set_option maxHeartbeats 2000000 in
theorem size_b (d : List UInt8) (w : World) (hl : d.length ≤ 2097151) :
    Calls Tryd.prog 13 #[.string (str (d ++ [98]))] w fun e w' => SizeIs d 512 e ∧ Below w.heap.size w w' := by
  have hsd : (str d).size = d.length := str_size d
  by_cases hz : d = []
  · have hq : (str d).toList.isEmpty = true := by rw [hz]; exact strN_isEmpty
    have HN := Lib.hid (sizeOk_no d 512 (fun h => by rw [hz] at h; have := h.1; simp at this))
    clear hz
    go_enter Tryd.func13, Tryd.ntmps13
    go_wp2_with fail
    refine (cut_no (d ++ [98]) 107 (by simp) w (by rw [List.length_append]; simp; omega)).mono ?_
    rintro e w1 ⟨rfl, hw⟩; rw [hw]; clear hw w1
    go_wp2_with fail
    refine (cut_yes d 98 w (by omega)).mono ?_
    rintro e w1 ⟨rfl, hw⟩; rw [hw]; clear hw w1
    go_wp2_with fail
    go_ret2
    exact ⟨SizeIs.no HN.out, Below.refl _ _⟩
  have hq : (str d).toList.isEmpty = false := strN_some d hz
  have HZ := Lib.hid hz
  have hz1 : 1 ≤ d.length := by cases d with | nil => exact absurd rfl hz | cons _ _ => simp
  clear hz
  by_cases h10 : 10 < d.length
  · have HN := Lib.hid (sizeOk_no d 512 (fun h => by have := h.2.1; omega))
    have h10i : decide (10 < ((d.length : Nat) : Int)) = true := decide_eq_true (by omega)
    go_enter Tryd.func13, Tryd.ntmps13
    go_wp2_with fail
    refine (cut_no (d ++ [98]) 107 (by simp) w (by rw [List.length_append]; simp; omega)).mono ?_
    rintro e w1 ⟨rfl, hw⟩; rw [hw]; clear hw w1
    go_wp2_with fail
    refine (cut_yes d 98 w (by omega)).mono ?_
    rintro e w1 ⟨rfl, hw⟩; rw [hw]; clear hw w1
    go_wp2_with fail
    go_ret2
    exact ⟨SizeIs.no HN.out, Below.refl _ _⟩
  have h10i : decide (10 < ((d.length : Nat) : Int)) = false := decide_eq_false (by omega)
  cases hd : allDig d with
  | false =>
    have HN := Lib.hid (sizeOk_no d 512 (fun h => by rw [hd] at h; simp at h))
    have hqt : (str (Lib.trimS d digitsS)).toList.isEmpty = false := strN_some _ (fun e => by rw [(trim_digits _).1 e] at hd; cases hd)
    clear hd
    go_enter Tryd.func13, Tryd.ntmps13
    go_wp2_with fail
    refine (cut_no (d ++ [98]) 107 (by simp) w (by rw [List.length_append]; simp; omega)).mono ?_
    rintro e w1 ⟨rfl, hw⟩; rw [hw]; clear hw w1
    go_wp2_with fail
    refine (cut_yes d 98 w (by omega)).mono ?_
    rintro e w1 ⟨rfl, hw⟩; rw [hw]; clear hw w1
    go_wp2_with fail
    refine (trim_any d w (by omega)).mono ?_
    rintro e w1 ⟨rfl, hB⟩
    go_wp2_with fail
    go_ret2
    exact ⟨SizeIs.no HN.out, hB⟩
  | true =>
    have ht : Lib.trimS d digitsS = [] := (trim_digits _).2 hd
    have hqe : (str []).toList.isEmpty = true := strN_isEmpty
    have hv10 := decV_10 d hd (by omega)
    have HD := Lib.hid hd
    have hat := fun w => atoi_dec d w HD.out HZ.out (by omega)
    obtain ⟨v, hv⟩ : ∃ v, v = decV d := ⟨_, rfl⟩
    rw [← hv] at hv10
    have HV := Lib.hid hv
    clear hd hv
    by_cases hbig : 4194303 < v
    · have HN := Lib.hid (sizeOk_no d 512 (fun h => by have := h.2.2.2; rw [← HV.out] at this; omega))
      have hbi : decide ((4194303 : Int) < (v : Int)) = true := decide_eq_true (by omega)
      go_enter Tryd.func13, Tryd.ntmps13
      go_wp2_with fail
      refine (cut_no (d ++ [98]) 107 (by simp) w (by rw [List.length_append]; simp; omega)).mono ?_
      rintro e w1 ⟨rfl, hw⟩; rw [hw]; clear hw w1
      go_wp2_with fail
      refine (cut_yes d 98 w (by omega)).mono ?_
      rintro e w1 ⟨rfl, hw⟩; rw [hw]; clear hw w1
      go_wp2_with fail
      refine (trim_any d w (by omega)).mono ?_
      rintro e w1 ⟨rfl, hB⟩
      rw [ht]
      clear ht
      go_wp2_with fail
      refine (hat w1).mono ?_
      rintro e w2 ⟨rfl, hB2⟩
      rw [← HV.out]
      have h2 := below_then hB hB.size hB2
      clear hat hB hB2
      go_wp2_with fail
      go_ret2
      exact ⟨SizeIs.no HN.out, h2⟩
    · have HN := Lib.hid (sizeOk_yes d 512 hz1 (by omega) HD.out (by rw [← HV.out]; omega))
      have hbi : decide ((4194303 : Int) < (v : Int)) = false := decide_eq_false (by omega)
      go_enter Tryd.func13, Tryd.ntmps13
      go_wp2_with fail
      refine (cut_no (d ++ [98]) 107 (by simp) w (by rw [List.length_append]; simp; omega)).mono ?_
      rintro e w1 ⟨rfl, hw⟩; rw [hw]; clear hw w1
      go_wp2_with fail
      refine (cut_yes d 98 w (by omega)).mono ?_
      rintro e w1 ⟨rfl, hw⟩; rw [hw]; clear hw w1
      go_wp2_with fail
      refine (trim_any d w (by omega)).mono ?_
      rintro e w1 ⟨rfl, hB⟩
      rw [ht]
      clear ht
      go_wp2_with fail
      refine (hat w1).mono ?_
      rintro e w2 ⟨rfl, hB2⟩
      rw [← HV.out]
      have h2 := below_then hB hB.size hB2
      clear hat hB hB2
      go_wp2_with fail
      go_ret2
      exact ⟨SizeIs.yes HN.out (by rw [← HV.out]; first | rfl | omega | (simp; done)), h2⟩
set_option maxRecDepth 100000 in
set_option maxHeartbeats 2000000 in
theorem size_n (d : List UInt8) (w : World) (hl : d.length ≤ 2097151) (hk : d.getLast? ≠ some 107) (hb : d.getLast? ≠ some 98) :
    Calls Tryd.prog 13 #[.string (str d)] w fun e w' => SizeIs d 1 e ∧ Below w.heap.size w w' := by
  have hsd : (str d).size = d.length := str_size d
  have HK := Lib.hid hk
  have HB := Lib.hid hb
  clear hk hb
  by_cases hz : d = []
  · have hq : (str d).toList.isEmpty = true := by rw [hz]; exact strN_isEmpty
    have HN := Lib.hid (sizeOk_no d 1 (fun h => by rw [hz] at h; have := h.1; simp at this))
    clear hz
    go_enter Tryd.func13, Tryd.ntmps13
    go_wp2_with fail
    refine (cut_no d 107 HK.out w (by omega)).mono ?_
    rintro e w1 ⟨rfl, hw⟩; rw [hw]; clear hw w1
    go_wp2_with fail
    refine (cut_no d 98 HB.out w (by omega)).mono ?_
    rintro e w1 ⟨rfl, hw⟩; rw [hw]; clear hw w1
    go_wp2_with fail
    go_ret2
    exact ⟨SizeIs.no HN.out, Below.refl _ _⟩
  have hq : (str d).toList.isEmpty = false := strN_some d hz
  have HZ := Lib.hid hz
  have hz1 : 1 ≤ d.length := by cases d with | nil => exact absurd rfl hz | cons _ _ => simp
  clear hz
  by_cases h10 : 10 < d.length
  · have HN := Lib.hid (sizeOk_no d 1 (fun h => by have := h.2.1; omega))
    have h10i : decide (10 < ((d.length : Nat) : Int)) = true := decide_eq_true (by omega)
    go_enter Tryd.func13, Tryd.ntmps13
    go_wp2_with fail
    refine (cut_no d 107 HK.out w (by omega)).mono ?_
    rintro e w1 ⟨rfl, hw⟩; rw [hw]; clear hw w1
    go_wp2_with fail
    refine (cut_no d 98 HB.out w (by omega)).mono ?_
    rintro e w1 ⟨rfl, hw⟩; rw [hw]; clear hw w1
    go_wp2_with fail
    go_ret2
    exact ⟨SizeIs.no HN.out, Below.refl _ _⟩
  have h10i : decide (10 < ((d.length : Nat) : Int)) = false := decide_eq_false (by omega)
  cases hd : allDig d with
  | false =>
    have HN := Lib.hid (sizeOk_no d 1 (fun h => by rw [hd] at h; simp at h))
    have hqt : (str (Lib.trimS d digitsS)).toList.isEmpty = false := strN_some _ (fun e => by rw [(trim_digits _).1 e] at hd; cases hd)
    clear hd
    go_enter Tryd.func13, Tryd.ntmps13
    go_wp2_with fail
    refine (cut_no d 107 HK.out w (by omega)).mono ?_
    rintro e w1 ⟨rfl, hw⟩; rw [hw]; clear hw w1
    go_wp2_with fail
    refine (cut_no d 98 HB.out w (by omega)).mono ?_
    rintro e w1 ⟨rfl, hw⟩; rw [hw]; clear hw w1
    go_wp2_with fail
    refine (trim_any d w (by omega)).mono ?_
    rintro e w1 ⟨rfl, hB⟩
    go_wp2_with fail
    go_ret2
    exact ⟨SizeIs.no HN.out, hB⟩
  | true =>
    have ht : Lib.trimS d digitsS = [] := (trim_digits _).2 hd
    have hqe : (str []).toList.isEmpty = true := strN_isEmpty
    have hv10 := decV_10 d hd (by omega)
    have HD := Lib.hid hd
    have hat := fun w => atoi_dec d w HD.out HZ.out (by omega)
    obtain ⟨v, hv⟩ : ∃ v, v = decV d := ⟨_, rfl⟩
    rw [← hv] at hv10
    have HV := Lib.hid hv
    clear hd hv
    by_cases hbig : 2147483647 < v
    · have HN := Lib.hid (sizeOk_no d 1 (fun h => by have := h.2.2.2; rw [← HV.out] at this; omega))
      have hbi : decide ((2147483647 : Int) < (v : Int)) = true := decide_eq_true (by omega)
      go_enter Tryd.func13, Tryd.ntmps13
      go_wp2_with fail
      refine (cut_no d 107 HK.out w (by omega)).mono ?_
      rintro e w1 ⟨rfl, hw⟩; rw [hw]; clear hw w1
      go_wp2_with fail
      refine (cut_no d 98 HB.out w (by omega)).mono ?_
      rintro e w1 ⟨rfl, hw⟩; rw [hw]; clear hw w1
      go_wp2_with fail
      refine (trim_any d w (by omega)).mono ?_
      rintro e w1 ⟨rfl, hB⟩
      rw [ht]
      clear ht
      go_wp2_with fail
      refine (hat w1).mono ?_
      rintro e w2 ⟨rfl, hB2⟩
      rw [← HV.out]
      have h2 := below_then hB hB.size hB2
      clear hat hB hB2
      go_wp2_with fail
      go_ret2
      exact ⟨SizeIs.no HN.out, h2⟩
    · have HN := Lib.hid (sizeOk_yes d 1 hz1 (by omega) HD.out (by rw [← HV.out]; omega))
      have hbi : decide ((2147483647 : Int) < (v : Int)) = false := decide_eq_false (by omega)
      go_enter Tryd.func13, Tryd.ntmps13
      go_wp2_with fail
      refine (cut_no d 107 HK.out w (by omega)).mono ?_
      rintro e w1 ⟨rfl, hw⟩; rw [hw]; clear hw w1
      go_wp2_with fail
      refine (cut_no d 98 HB.out w (by omega)).mono ?_
      rintro e w1 ⟨rfl, hw⟩; rw [hw]; clear hw w1
      go_wp2_with fail
      refine (trim_any d w (by omega)).mono ?_
      rintro e w1 ⟨rfl, hB⟩
      rw [ht]
      clear ht
      go_wp2_with fail
      refine (hat w1).mono ?_
      rintro e w2 ⟨rfl, hB2⟩
      rw [← HV.out]
      have h2 := below_then hB hB.size hB2
      clear hat hB hB2
      go_wp2_with fail
      go_ret2
      exact ⟨SizeIs.yes HN.out (by rw [← HV.out]; first | rfl | omega | (simp; done)), h2⟩

/-- blocks.Size. -/
theorem size_any (s : List UInt8) (w : World) (hl : s.length ≤ 2097151) :
    Calls Tryd.prog 13 #[.string (str s)] w fun e w' => SizeIs (sizeB s).1 (sizeB s).2 e ∧ Below w.heap.size w w' := by
  rcases sizeB_cases s with ⟨d, hs, hb⟩ | ⟨d, hs, hb⟩ | ⟨h1, h2, hb⟩
  · rw [hb, hs]
    exact size_k d w (by rw [hs, List.length_append] at hl; omega)
  · rw [hb, hs]
    exact size_b d w (by rw [hs, List.length_append] at hl; omega)
  · rw [hb]
    exact size_n s w hl h1 h2
end Go.Proofs.YtiffmdfchibpaaaDoor
