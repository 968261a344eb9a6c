/-
  Names by patterns: plain lists, no program: what a pattern is taken for (parse), and when a name matches (gm).
-/
import Derived.Test.YtafiadlkfjacnaaBase
namespace Go.Proofs.Ytafiadlkfjacnaa

/-- A thing of a pattern: any bytes (none), or one byte that is so. -/
abbrev Thing := Option (UInt8 → Bool)

/-- Does a byte stand in a bracket's inside? -/
def brk : List UInt8 → UInt8 → Bool
  | [], _ => false
  | [a], c => a == c
  | [a, x], c => a == c || x == c
  | a :: x :: b :: r, c => if x = 45 then (decide (a ≤ c) && decide (c ≤ b)) || brk r c else a == c || brk (x :: b :: r) c
termination_by l => l.length

/-- Where the first ] stands. -/
def closeAt (l : List UInt8) : Option Nat := l.findIdx? (· == 93)

def brackOf (rest : List UInt8) (neg : Bool) (inside : List UInt8) : Thing × List UInt8 :=
  match inside with
  | [] => (some (· == 91), rest)
  | a :: tl => match closeAt tl with
    | some n => (some (fun c => brk (a :: tl.take n) c != neg), tl.drop (n + 1))
    | none => (some (· == 91), rest)

/-- The thing that a pattern begins with, and what is behind it; none: it may not be. -/
def nextP : List UInt8 → Option (Thing × List UInt8)
  | [] => none
  | c :: rest =>
    if c = 42 then some (none, rest)
    else if c = 63 then some (some fun _ => true, rest)
    else if c = 92 then match rest with
      | [] => none
      | x :: r => some (some (· == x), r)
    else if c = 91 then match rest with
      | 33 :: r => some (brackOf rest true r)
      | r => some (brackOf rest false r)
    else some (some (· == c), rest)

theorem closeAt_lt {l : List UInt8} {n : Nat} (h : closeAt l = some n) : n < l.length := by
  unfold closeAt at h
  rw [List.findIdx?_eq_some_iff_getElem] at h
  exact h.1

theorem brackOf_len (rest : List UInt8) (neg : Bool) (inside : List UInt8) (h : inside.length ≤ rest.length) : (brackOf rest neg inside).2.length ≤ rest.length := by
  unfold brackOf
  split
  · exact Nat.le_refl _
  · split
    · simp at h ⊢; omega
    · exact Nat.le_refl _
theorem nextP_len {s r : List UInt8} {t : Thing} (h : nextP s = some (t, r)) : r.length < s.length := by
  unfold nextP at h
  split at h
  · cases h
  · rename_i c rest
    split at h
    · cases h; simp
    · split at h
      · cases h; simp
      · split at h
        · split at h
          · cases h
          · cases h; simp only [List.length_cons]; omega
        · split at h
          · split at h
            · have := brackOf_len (33 :: ‹List UInt8›) true ‹List UInt8› (by simp)
              injection h with h
              rw [h] at this
              simp at this ⊢
              omega
            · have := brackOf_len rest false rest (Nat.le_refl _)
              injection h with h
              rw [h] at this
              simp at this ⊢
              omega
          · cases h; simp

/-- The things of a pattern; none: it may not be. -/
def parseF : Nat → List UInt8 → Option (List Thing)
  | _, [] => some []
  | 0, _ :: _ => none
  | k + 1, c :: s => match nextP (c :: s) with
    | none => none
    | some (t, r) => (parseF k r).map (t :: ·)
def parse (s : List UInt8) : Option (List Thing) := parseF s.length s
theorem parseF_enough : ∀ (k m : Nat) (s : List UInt8), s.length ≤ k → s.length ≤ m → parseF k s = parseF m s := by
  intro k
  induction k with
  | zero =>
    intro m s h1 _
    have : s = [] := List.eq_nil_of_length_eq_zero (by omega)
    subst this
    cases m <;> rfl
  | succ k ih =>
    intro m s h1 h2
    cases s with
    | nil => cases m <;> rfl
    | cons c s =>
      cases m with
      | zero => simp at h2
      | succ m =>
        unfold parseF
        cases hn : nextP (c :: s) with
        | none => rfl
        | some x =>
          obtain ⟨t, r⟩ := x
          have := nextP_len hn
          simp at h1 h2 this
          show Option.map _ (parseF k r) = Option.map _ (parseF m r)
          rw [ih m r (by omega) (by omega)]
theorem parse_nil : parse [] = some [] := rfl
theorem parse_cons (c : UInt8) (s : List UInt8) : parse (c :: s) = match nextP (c :: s) with
    | none => none
    | some (t, r) => (parse r).map (t :: ·) := by
  show parseF (s.length + 1) (c :: s) = _
  unfold parseF
  cases hn : nextP (c :: s) with
  | none => rfl
  | some x =>
    obtain ⟨t, r⟩ := x
    have := nextP_len hn
    simp at this
    show (parseF s.length r).map _ = (parseF r.length r).map _
    rw [parseF_enough s.length r.length r (by omega) (Nat.le_refl _)]

/-- Does a name match things? -/
def gm : List Thing → List UInt8 → Bool
  | [], s => s.isEmpty
  | none :: ts, [] => gm ts []
  | none :: ts, c :: r => gm ts (c :: r) || gm (none :: ts) r
  | some _ :: _, [] => false
  | some p :: ts, c :: r => p c && gm ts r
termination_by ts s => (ts.length, s.length)

theorem gm_star_iff (ts : List Thing) (s : List UInt8) : gm (none :: ts) s = true ↔ ∃ j, j ≤ s.length ∧ gm ts (s.drop j) = true := by
  induction s with
  | nil =>
    rw [gm]
    exact ⟨fun h => ⟨0, Nat.le_refl _, h⟩, fun ⟨j, _, h⟩ => by simpa using h⟩
  | cons c r ih =>
    rw [gm, Bool.or_eq_true, ih]
    constructor
    · rintro (h | ⟨j, hj, h⟩)
      · exact ⟨0, Nat.zero_le _, h⟩
      · exact ⟨j + 1, by simpa using hj, h⟩
    · rintro ⟨j, hj, h⟩
      cases j with
      | zero => exact .inl h
      | succ j => exact .inr ⟨j, by simpa using hj, h⟩

/-- Two patterns, one behind the other. -/
theorem gm_append (ts us : List Thing) : ∀ s, gm (ts ++ us) s = true ↔ ∃ j, j ≤ s.length ∧ gm ts (s.take j) = true ∧ gm us (s.drop j) = true := by
  induction ts with
  | nil =>
    intro s
    constructor
    · intro h
      exact ⟨0, Nat.zero_le _, by simp [gm], h⟩
    · rintro ⟨j, hj, h1, h2⟩
      have : j = 0 := by
        rw [gm] at h1
        cases j with
        | zero => rfl
        | succ j => cases s with
          | nil => simp at hj
          | cons c r => simp at h1
      subst this
      exact h2
  | cons t ts ih =>
    intro s
    cases t with
    | none =>
      rw [List.cons_append, gm_star_iff]
      constructor
      · rintro ⟨i, hi, h⟩
        obtain ⟨j, hj, h1, h2⟩ := (ih _).1 h
        rw [List.length_drop] at hj
        refine ⟨i + j, by omega, (gm_star_iff _ _).2 ⟨i, by rw [List.length_take]; omega, ?_⟩, by rw [List.drop_drop] at h2; exact h2⟩
        rw [List.drop_take, Nat.add_sub_cancel_left]
        exact h1
      · rintro ⟨j, hj, h1, h2⟩
        obtain ⟨i, hi, h3⟩ := (gm_star_iff _ _).1 h1
        rw [List.length_take] at hi
        refine ⟨i, by omega, (ih _).2 ⟨j - i, by rw [List.length_drop]; omega, ?_, ?_⟩⟩
        · rw [List.drop_take] at h3; exact h3
        · rw [List.drop_drop, show i + (j - i) = j from by omega]; exact h2
    | some p =>
      cases s with
      | nil =>
        rw [List.cons_append, gm]
        constructor
        · intro h; cases h
        · rintro ⟨j, hj, h1, _⟩
          simp [gm] at h1
      | cons c r =>
        rw [List.cons_append, gm, Bool.and_eq_true, ih]
        constructor
        · rintro ⟨hp, j, hj, h1, h2⟩
          exact ⟨j + 1, by simpa using hj, by rw [List.take_succ_cons, gm, hp, h1]; rfl, h2⟩
        · rintro ⟨j, hj, h1, h2⟩
          cases j with
          | zero => simp [gm] at h1
          | succ j =>
            rw [List.take_succ_cons, gm, Bool.and_eq_true] at h1
            exact ⟨h1.1, j, by simpa using hj, h1.2, h2⟩
end Go.Proofs.Ytafiadlkfjacnaa
