/-
  Numbers of words: plain lists, no program: the document's number (numV), and what Atoi, Trim, Contains say of it.
-/
import Derived.Test.YtiffmdfchibpaaaDoorNumPlain
import Derived.Lib.AtoiAll
import Derived.Lib.SlTrimSet
import Derived.Lib.IndexMore
namespace Go.Proofs.YtiffmdfchibpaaaDoor

/-- A word without its sign. -/
def bareV : List UInt8 → List UInt8
  | [] => []
  | c :: r => if c = 43 ∨ c = 45 then r else c :: r
def digitsS : List UInt8 := [48, 49, 50, 51, 52, 53, 54, 55, 56, 57]
/-- May a word be a number? -/
def numOk (s : List UInt8) : Bool := decide (1 ≤ (bareV s).length) && decide ((bareV s).length ≤ 18) && allDig (bareV s)
def numV (s : List UInt8) : Int := if s.head? = some 45 then -(decV (bareV s) : Int) else decV (bareV s)
theorem digitsS_dig (c : UInt8) : digitsS.contains c = isDig c := by
  rw [Bool.eq_iff_iff, isDig_iff]
  unfold digitsS
  simp only [List.contains_cons, List.contains_nil, Bool.or_false, Bool.or_eq_true, beq_iff_eq, ← UInt8.toNat_inj]
  simp
  omega
theorem dropWhile_nil (p : UInt8 → Bool) : ∀ l : List UInt8, l.dropWhile p = [] ↔ ∀ c ∈ l, p c = true
  | [] => by simp
  | a :: l => by
    rw [List.dropWhile_cons]
    by_cases h : p a = true
    · rw [if_pos h, dropWhile_nil p l]
      simp [h]
    · rw [if_neg h]
      simp [h]
theorem trim_left_nil (l cs : List UInt8) : Lib.trimLeftS l cs = [] ↔ ∀ c ∈ l, cs.contains c = true := by
  unfold Lib.trimLeftS
  rw [dropWhile_nil]
theorem trim_right_nil (l cs : List UInt8) : Lib.trimRightS l cs = [] ↔ ∀ c ∈ l, cs.contains c = true := by
  unfold Lib.trimRightS
  rw [List.reverse_eq_nil_iff, dropWhile_nil]
  simp
theorem trim_digits (l : List UInt8) : Lib.trimS l digitsS = [] ↔ allDig l = true := by
  have hall : allDig l = true ↔ ∀ c ∈ l, digitsS.contains c = true := by
    unfold allDig
    rw [List.all_eq_true]
    exact ⟨fun h c hc => by rw [digitsS_dig]; exact h c hc, fun h c hc => by rw [← digitsS_dig]; exact h c hc⟩
  rw [hall]
  constructor
  · intro h
    unfold Lib.trimS at h
    rw [trim_left_nil] at h
    have h2 : Lib.trimRightS l digitsS = [] := by
      cases hr : Lib.trimRightS l digitsS with
      | nil => rfl
      | cons c r =>
        unfold Lib.trimRightS at hr
        have hw : (l.reverse.dropWhile (digitsS.contains ·)) ≠ [] := fun e => by rw [e] at hr; cases hr
        have hb := List.head_dropWhile_not (p := (digitsS.contains ·)) (l := l.reverse) hw
        have hm : (l.reverse.dropWhile (digitsS.contains ·)).head hw ∈ Lib.trimRightS l digitsS := by
          unfold Lib.trimRightS
          rw [List.mem_reverse]
          exact List.head_mem hw
        have := h _ hm
        rw [this] at hb
        cases hb
    exact (trim_right_nil l digitsS).1 h2
  · intro h
    unfold Lib.trimS
    rw [(trim_right_nil l digitsS).2 h]
    rfl
theorem decV_18 (l : List UInt8) (h : allDig l = true) (hl : l.length ≤ 18) : decV l < 1000000000000000000 := by
  have h1 := decV_lt l h
  have h2 := Nat.pow_le_pow_right (show 0 < 10 by omega) hl
  omega
theorem atoi_signed (c : UInt8) (d : List UInt8) (hc : c = 43 ∨ c = 45) (h : allDig d = true) (hne : d ≠ []) (hb : decV d < 9223372036854775808) : Lib.atoiAll (c :: d) = .ok (if c = 45 then -(decV d : Int) else decV d) := by
  have hp : Lib.parseMag d = .ok (decV d) := by
    unfold Lib.parseMag
    rw [if_neg hne]
    exact parse_digits _ 0 h (Nat.lt_trans hb (by decide))
  unfold Lib.atoiAll
  rcases hc with rfl | rfl
  · have e1 : (43 : UInt8).toNat = 43 ∨ (43 : UInt8).toNat = 45 := .inl rfl
    have e2 : ¬ (43 : UInt8).toNat = 45 := by decide
    simp only [if_pos e1, hp]
    rw [if_neg (by omega), if_neg (by omega), if_neg e2]
    simp
  · have e1 : (45 : UInt8).toNat = 43 ∨ (45 : UInt8).toNat = 45 := .inr rfl
    have e2 : (45 : UInt8).toNat = 45 := rfl
    simp only [if_pos e1, hp]
    rw [if_neg (by omega), if_neg (by omega), if_pos e2]
    simp
/-- Atoi of a word that may be a number. -/
theorem atoi_num (s : List UInt8) (h : numOk s = true) : Lib.atoiAll s = .ok (numV s) := by
  unfold numOk at h
  rw [Bool.and_eq_true, Bool.and_eq_true, decide_eq_true_eq, decide_eq_true_eq] at h
  obtain ⟨⟨h1, h2⟩, h3⟩ := h
  have hb := decV_18 _ h3 h2
  unfold numV
  cases s with
  | nil => simp [bareV] at h1
  | cons c r =>
    by_cases hc : c = 43 ∨ c = 45
    · have e : bareV (c :: r) = r := by show (if c = 43 ∨ c = 45 then r else c :: r) = r; rw [if_pos hc]
      rw [e] at h1 h3 hb ⊢
      rw [atoi_signed c r hc h3 (fun e => by rw [e] at h1; simp at h1) (by omega)]
      by_cases h45 : c = 45
      · subst h45; rfl
      · rw [if_neg h45, if_neg (by simpa using h45)]
    · have e : bareV (c :: r) = c :: r := by show (if c = 43 ∨ c = 45 then r else c :: r) = c :: r; rw [if_neg hc]
      rw [e] at h3 hb ⊢
      rw [atoi_digits (c :: r) h3 (by simp) (by omega), if_neg (by simp; exact fun e => hc (.inr e))]
theorem contains_sign (c : UInt8) : Lib.contains [43, 45] [c] = (decide (c = 43) || decide (c = 45)) := by
  unfold Lib.contains
  by_cases h1 : c = 43
  · subst h1; decide
  · by_cases h2 : c = 45
    · subst h2; decide
    · rw [decide_eq_false h1, decide_eq_false h2]
      simp [Lib.index, List.isPrefixOf, h1, h2]
end Go.Proofs.YtiffmdfchibpaaaDoor
