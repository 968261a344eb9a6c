/-
  Numbers as digits, and back: plain lists, no program.
-/
import Derived.Lib.AtoiAll
import Derived.Lib.ItoaNum
namespace Go.Proofs.YtiffmdfchibpaaaDoor

/-- The number that digits spell, behind one. -/
def decF (a : Nat) (l : List UInt8) : Nat := l.foldl (fun a c => 10 * a + (c.toNat - 48)) a
def decV (l : List UInt8) : Nat := decF 0 l
def isDig (c : UInt8) : Bool := decide (48 ≤ c.toNat) && decide (c.toNat ≤ 57)
def allDig (l : List UInt8) : Bool := l.all isDig
theorem decF_cons (a : Nat) (c : UInt8) (l : List UInt8) : decF a (c :: l) = decF (10 * a + (c.toNat - 48)) l := by unfold decF; rw [List.foldl_cons]
theorem head_append (l m : List UInt8) (h : l ≠ []) : (l ++ m).head? = l.head? := by
  cases l with
  | nil => exact absurd rfl h
  | cons a b => rfl
theorem decF_snoc (a : Nat) (l : List UInt8) (c : UInt8) : decF a (l ++ [c]) = 10 * decF a l + (c.toNat - 48) := by simp [decF, List.foldl_append]
theorem decV_snoc (l : List UInt8) (c : UInt8) : decV (l ++ [c]) = 10 * decV l + (c.toNat - 48) := decF_snoc 0 l c
theorem decF_ge (l : List UInt8) : ∀ a : Nat, a ≤ decF a l := by
  induction l with
  | nil => exact fun a => Nat.le_refl _
  | cons c l ih =>
    intro a
    rw [decF_cons]
    have := ih (10 * a + (c.toNat - 48))
    omega
theorem isDig_iff (c : UInt8) : isDig c = true ↔ 48 ≤ c.toNat ∧ c.toNat ≤ 57 := by
  unfold isDig
  rw [Bool.and_eq_true, decide_eq_true_eq, decide_eq_true_eq]
theorem decF_lt : ∀ (l : List UInt8) (a : Nat), allDig l = true → decF a l < (a + 1) * 10 ^ l.length
  | [], a, _ => by simp [decF]
  | c :: l, a, h => by
    unfold allDig at h
    rw [List.all_cons, Bool.and_eq_true, isDig_iff] at h
    have := decF_lt l (10 * a + (c.toNat - 48)) h.2
    rw [decF_cons, List.length_cons, Nat.pow_succ]
    have h1 : 10 * a + (c.toNat - 48) + 1 ≤ (a + 1) * 10 := by omega
    have h2 := Nat.mul_le_mul_right (10 ^ l.length) h1
    rw [Nat.mul_assoc (a + 1), Nat.mul_comm 10 (10 ^ l.length)] at h2
    exact Nat.lt_of_lt_of_le this h2
theorem decV_lt (l : List UInt8) (h : allDig l = true) : decV l < 10 ^ l.length := by
  have := decF_lt l 0 h
  rw [Nat.zero_add, Nat.one_mul] at this
  exact this
theorem allDig_snoc (l : List UInt8) (c : UInt8) : allDig (l ++ [c]) = (allDig l && isDig c) := by simp [allDig]
theorem dig_of (d : Nat) (h : d < 10) : isDig (UInt8.ofNat (48 + d)) = true ∧ (UInt8.ofNat (48 + d)).toNat - 48 = d ∧ (UInt8.ofNat (48 + d)).toNat = 48 + d := by
  have e : (UInt8.ofNat (48 + d)).toNat = 48 + d := by simp; omega
  exact ⟨(isDig_iff _).2 (by omega), by omega, e⟩
theorem dec_digits : ∀ (n u : Nat), u ≤ n → decV (Lib.decDigits u) = u ∧ allDig (Lib.decDigits u) = true ∧ Lib.decDigits u ≠ [] ∧ (0 < u → (Lib.decDigits u).head? ≠ some 48) := by
  intro n
  induction n with
  | zero =>
    intro u h
    obtain rfl : u = 0 := by omega
    rw [Lib.decDigits_one (by omega)]
    refine ⟨rfl, rfl, by simp, fun h => absurd h (by omega)⟩
  | succ n ih =>
    intro u h
    by_cases h10 : u < 10
    · rw [Lib.decDigits_one h10]
      obtain ⟨h1, h2, h3⟩ := dig_of u h10
      refine ⟨?_, by unfold allDig; rw [List.all_cons, h1]; rfl, by simp, fun h0 e => ?_⟩
      · show 10 * 0 + ((UInt8.ofNat (48 + u)).toNat - 48) = u
        omega
      · simp only [List.head?_cons, Option.some.injEq] at e
        rw [e] at h3
        have : (48 : UInt8).toNat = 48 := rfl
        omega
    · rw [Lib.decDigits, dif_neg h10]
      obtain ⟨i1, i2, i3, i4⟩ := ih (u / 10) (by omega)
      obtain ⟨h1, h2, h3⟩ := dig_of (u % 10) (by omega)
      refine ⟨?_, by rw [allDig_snoc, i2, h1]; rfl, by simp, fun _ => ?_⟩
      · rw [decV_snoc, i1, h2]; omega
      · rw [head_append _ _ i3]
        exact i4 (by omega)
theorem decV_digits (u : Nat) : decV (Lib.decDigits u) = u := (dec_digits u u (Nat.le_refl _)).1
theorem digits_dig (u : Nat) : allDig (Lib.decDigits u) = true := (dec_digits u u (Nat.le_refl _)).2.1
theorem digits_ne (u : Nat) : Lib.decDigits u ≠ [] := (dec_digits u u (Nat.le_refl _)).2.2.1
theorem digits_head (u : Nat) (h : 0 < u) : (Lib.decDigits u).head? ≠ some 48 := (dec_digits u u (Nat.le_refl _)).2.2.2 h
theorem decF_pos (l : List UInt8) (h : allDig l = true) (hne : l ≠ []) (h0 : l.head? ≠ some 48) : 1 ≤ decV l := by
  cases l with
  | nil => exact absurd rfl hne
  | cons c l =>
    unfold allDig at h
    rw [List.all_cons, Bool.and_eq_true, isDig_iff] at h
    have hc : c.toNat ≠ 48 := fun e => h0 (by rw [List.head?_cons]; congr 1; exact UInt8.toNat_inj.1 e)
    have := decF_ge l (10 * 0 + (c.toNat - 48))
    show 1 ≤ decF 0 (c :: l)
    rw [decF_cons]
    omega
/-- Digits without a nought ahead are those of their number. -/
theorem digits_dec : ∀ (n : Nat) (l : List UInt8), l.length = n + 1 → allDig l = true → l.head? ≠ some 48 → Lib.decDigits (decV l) = l := by
  intro n
  induction n with
  | zero =>
    intro l hl h h0
    match l, hl with
    | [c], _ =>
      unfold allDig at h
      simp only [List.all_cons, List.all_nil, Bool.and_true] at h
      rw [isDig_iff] at h
      have e : decV [c] = c.toNat - 48 := by show 10 * 0 + (c.toNat - 48) = _; omega
      rw [e, Lib.decDigits_one (by omega)]
      congr 1
      apply UInt8.toNat_inj.1
      simp
      omega
  | succ n ih =>
    intro l hl h h0
    have hne : l ≠ [] := fun e => by rw [e] at hl; simp at hl
    obtain ⟨m, c, rfl⟩ : ∃ m c, l = m ++ [c] := ⟨l.dropLast, l.getLast hne, (List.dropLast_concat_getLast hne).symm⟩
    rw [allDig_snoc, Bool.and_eq_true, isDig_iff] at h
    have hml : m.length = n + 1 := by simp at hl; exact hl
    have hmne : m ≠ [] := fun e => by rw [e] at hml; simp at hml
    rw [head_append _ _ hmne] at h0
    have hp := decF_pos m h.1 hmne h0
    rw [decV_snoc, Lib.decDigits, dif_neg (by omega), show (10 * decV m + (c.toNat - 48)) / 10 = decV m from by omega, show (10 * decV m + (c.toNat - 48)) % 10 = c.toNat - 48 from by omega, ih m hml h.1 h0]
    congr 2
    apply UInt8.toNat_inj.1
    simp
    omega
theorem parse_digits : ∀ (l : List UInt8) (a : Nat), allDig l = true → decF a l < 18446744073709551616 → Lib.parseUint10 a l = .ok (decF a l)
  | [], a, _, _ => rfl
  | c :: l, a, h, hb => by
    unfold allDig at h
    rw [List.all_cons, Bool.and_eq_true, isDig_iff] at h
    rw [decF_cons] at hb
    have hge := decF_ge l (10 * a + (c.toNat - 48))
    rw [Lib.parseUint10, if_pos h.1, if_neg (by omega), if_neg (by omega), decF_cons, show a * 10 + (c.toNat - 48) = 10 * a + (c.toNat - 48) from by omega]
    exact parse_digits l _ h.2 hb
theorem atoi_digits (l : List UInt8) (h : allDig l = true) (hne : l ≠ []) (hb : decV l < 9223372036854775808) : Lib.atoiAll l = .ok (decV l) := by
  cases l with
  | nil => exact absurd rfl hne
  | cons c r =>
    have hd := h
    unfold allDig at hd
    rw [List.all_cons, Bool.and_eq_true, isDig_iff] at hd
    have hp : Lib.parseMag (c :: r) = .ok (decV (c :: r)) := by
      unfold Lib.parseMag
      rw [if_neg (by simp)]
      exact parse_digits _ 0 h (Nat.lt_trans hb (by decide))
    unfold Lib.atoiAll
    have h43 : ¬ (c.toNat = 43 ∨ c.toNat = 45) := by omega
    have h45 : ¬ c.toNat = 45 := by omega
    simp only [if_neg h43, hp]
    rw [if_neg (by omega), if_neg (by omega), if_neg h45]
end Go.Proofs.YtiffmdfchibpaaaDoor
