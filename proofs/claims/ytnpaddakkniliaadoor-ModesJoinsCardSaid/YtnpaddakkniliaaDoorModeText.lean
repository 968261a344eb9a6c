/-
  modes.Parse: plain lists, no program: octal texts (readV), clauses (clauseV), texts of changes (modesV).
-/
import Derived.Test.YtnpaddakkniliaaDoorLstChanges
namespace Go.Proofs.YtnpaddakkniliaaDoor

def isOct (c : UInt8) : Bool := decide (48 ≤ c.toNat) && decide (c.toNat ≤ 55)
def allOct (l : List UInt8) : Bool := l.all isOct
def octF (a : Nat) (l : List UInt8) : Nat := l.foldl (fun a c => 8 * a + (c.toNat - 48)) a
def octV (l : List UInt8) : Nat := octF 0 l
theorem octF_snoc (a : Nat) (l : List UInt8) (c : UInt8) : octF a (l ++ [c]) = 8 * octF a l + (c.toNat - 48) := by simp [octF, List.foldl_append]
theorem octV_snoc (l : List UInt8) (c : UInt8) : octV (l ++ [c]) = 8 * octV l + (c.toNat - 48) := octF_snoc 0 l c
theorem isOct_iff (c : UInt8) : isOct c = true ↔ 48 ≤ c.toNat ∧ c.toNat ≤ 55 := by unfold isOct; rw [Bool.and_eq_true, decide_eq_true_eq, decide_eq_true_eq]
theorem allOct_snoc (l : List UInt8) (c : UInt8) : allOct (l ++ [c]) = (allOct l && isOct c) := by simp [allOct]
theorem octF_lt : ∀ (l : List UInt8) (a : Nat), allOct l = true → octF a l < (a + 1) * 8 ^ l.length
  | [], a, _ => by show a < (a + 1) * 8 ^ 0; rw [Nat.pow_zero, Nat.mul_one]; omega
  | c :: l, a, h => by
    unfold allOct at h
    rw [List.all_cons, Bool.and_eq_true] at h
    obtain ⟨h1, h2⟩ := (isOct_iff c).1 h.1
    have ih := octF_lt l (8 * a + (c.toNat - 48)) h.2
    show octF (8 * a + (c.toNat - 48)) l < (a + 1) * 8 ^ (l.length + 1)
    refine Nat.lt_of_lt_of_le ih ?_
    rw [Nat.pow_succ, Nat.mul_comm (8 ^ l.length) 8, ← Nat.mul_assoc]
    exact Nat.mul_le_mul_right _ (by omega)
theorem octV_lt (l : List UInt8) (h : allOct l = true) : octV l < 8 ^ l.length := by
  have := octF_lt l 0 h
  rw [Nat.zero_add, Nat.one_mul] at this
  exact this
theorem octV_4 (l : List UInt8) (h : allOct l = true) (hl : l.length ≤ 4) : octV l < 4096 := by
  have h1 := octV_lt l h
  have h2 := Nat.pow_le_pow_right (show 0 < 8 by omega) hl
  omega
/-- modes.Read. -/
def readV (s : List UInt8) : Option Nat := if 1 ≤ s.length ∧ s.length ≤ 4 ∧ allOct s = true ∧ octV s ≤ 511 then some (octV s) else none

abbrev BitM := List (UInt8 × Nat)
def lookM : BitM → UInt8 → Option Nat
  | [], _ => none
  | x :: es, c => if c = x.1 then some x.2 else lookM es c
def lettersM (es : BitM) : Nat → List UInt8 → Nat × List UInt8
  | a, [] => (a, [])
  | a, c :: r => match lookM es c with
    | none => (a, c :: r)
    | some b => lettersM es (a ||| b) r
def whoM : BitM := [(117, 4), (103, 2), (111, 1), (97, 7)]
def bitM : BitM := [(114, 4), (119, 2), (120, 1), (88, 8)]
theorem lettersM_len (es : BitM) : ∀ (s : List UInt8) (a : Nat), (lettersM es a s).2.length ≤ s.length
  | [], _ => Nat.le_refl _
  | c :: r, a => by
    show (match lookM es c with | none => (a, c :: r) | some b => lettersM es (a ||| b) r).2.length ≤ _
    cases lookM es c with
    | none => exact Nat.le_refl _
    | some b => exact Nat.le_succ_of_le (lettersM_len es r (a ||| b))
def isOp (c : UInt8) : Bool := decide (c = 43) || decide (c = 45) || decide (c = 61)
def isUgo (c : UInt8) : Bool := decide (c = 117) || decide (c = 103) || decide (c = 111)
/-- One change of a clause, behind its op. -/
def oneV (who : Nat) (op : UInt8) (r : List UInt8) : Chg × List UInt8 :=
  match r with
  | c :: r2 => if isUgo c = true then (⟨who, op, 0, c, false⟩, r2) else (⟨who, op, (((lettersM bitM 0 r).1 % 8 : Nat) : Int), 0, decide ((lettersM bitM 0 r).1 / 8 % 2 = 1)⟩, (lettersM bitM 0 r).2)
  | [] => (⟨who, op, 0, 0, false⟩, [])
theorem oneV_len (who : Nat) (op : UInt8) (r : List UInt8) : (oneV who op r).2.length ≤ r.length := by
  cases r with
  | nil => exact Nat.le_refl _
  | cons c r =>
    show (if isUgo c = true then ((⟨who, op, 0, c, false⟩, r) : Chg × List UInt8) else _).2.length ≤ _
    split
    · exact Nat.le_succ _
    · exact lettersM_len bitM (c :: r) 0
def clauseGo (who : Nat) : Nat → List UInt8 → Option (List Chg)
  | _, [] => some []
  | 0, _ :: _ => none
  | n + 1, op :: r => if isOp op = true then (clauseGo who n (oneV who op r).2).map ((oneV who op r).1 :: ·) else none
/-- modes' clause. -/
def clauseV (s : List UInt8) : Option (List Chg) :=
  match clauseGo (lettersM whoM 0 s).1 s.length (lettersM whoM 0 s).2 with
  | none => none
  | some [] => none
  | some (x :: l) => some (x :: l)
theorem clauseGo_more (who : Nat) : ∀ (n m : Nat) (s : List UInt8), s.length ≤ n → s.length ≤ m → clauseGo who n s = clauseGo who m s
  | _, _, [], _, _ => by
    rename_i n m _ _
    cases n <;> cases m <;> rfl
  | 0, _, _ :: _, h, _ => by simp at h
  | _, 0, _ :: _, _, h => by simp at h
  | n + 1, m + 1, op :: r, h1, h2 => by
    have hl := oneV_len who op r
    simp only [List.length_cons] at h1 h2
    show (if isOp op = true then (clauseGo who n (oneV who op r).2).map ((oneV who op r).1 :: ·) else none) = (if isOp op = true then (clauseGo who m (oneV who op r).2).map ((oneV who op r).1 :: ·) else none)
    rw [clauseGo_more who n m _ (by omega) (by omega)]
def allClauses : List (List UInt8) → Option (List Chg)
  | [] => some []
  | x :: r => match clauseV x with
    | none => none
    | some l => (allClauses r).map (l ++ ·)
theorem allClauses_append (a b : List (List UInt8)) : allClauses (a ++ b) = match allClauses a with
    | none => none
    | some l => (allClauses b).map (l ++ ·) := by
  induction a with
  | nil => show allClauses b = (allClauses b).map ([] ++ ·); cases allClauses b <;> rfl
  | cons x a ih =>
    show (match clauseV x with | none => none | some l => (allClauses (a ++ b)).map (l ++ ·)) = match (match clauseV x with | none => none | some l => (allClauses a).map (l ++ ·)) with | none => none | some l => (allClauses b).map (l ++ ·)
    cases clauseV x with
    | none => rfl
    | some l =>
      simp only
      rw [ih]
      cases allClauses a with
      | none => rfl
      | some l2 => cases allClauses b <;> simp
end Go.Proofs.YtnpaddakkniliaaDoor
