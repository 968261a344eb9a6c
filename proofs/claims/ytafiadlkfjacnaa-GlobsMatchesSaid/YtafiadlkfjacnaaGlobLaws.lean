/-
  What follows for patterns: plain lists, no program.
-/
import Derived.Test.YtafiadlkfjacnaaGlobGreedy
import Derived.Test.YtafiadlkfjacnaaQuote
namespace Go.Proofs.Ytafiadlkfjacnaa

/-! ### Patterns one behind the other -/
theorem parse_cons_plain (c : UInt8) (s : List UInt8) (h1 : c ≠ 42) (h2 : c ≠ 63) (h3 : c ≠ 92) (h4 : c ≠ 91) : parse (c :: s) = (parse s).map (some (· == c) :: ·) := by
  rw [parse_cons]
  unfold nextP
  simp only [if_neg h1, if_neg h2, if_neg h3, if_neg h4]
theorem parse_cons_any (s : List UInt8) : parse (63 :: s) = (parse s).map (some (fun _ => true) :: ·) := by
  rw [parse_cons]; rfl
theorem parse_cons_star (s : List UInt8) : parse (42 :: s) = (parse s).map (none :: ·) := by
  rw [parse_cons]; rfl
theorem parse_cons_back (x : UInt8) (s : List UInt8) : parse (92 :: x :: s) = (parse s).map (some (· == x) :: ·) := by
  rw [parse_cons]; rfl
theorem parse_back_end : parse [92] = none := by
  rw [parse_cons]; rfl
theorem parse_append (q : List UInt8) : ∀ (n : Nat) (p : List UInt8) (ts : List Thing), p.length ≤ n → (∀ c ∈ p, c ≠ 91) → parse p = some ts → parse (p ++ q) = (parse q).map (ts ++ ·) := by
  intro n
  induction n with
  | zero =>
    intro p ts hl _ hp
    have : p = [] := List.eq_nil_of_length_eq_zero (by omega)
    subst this
    rw [parse_nil] at hp
    injection hp with hp
    subst hp
    simp
  | succ n ih =>
    intro p ts hl hb hp
    cases p with
    | nil =>
      rw [parse_nil] at hp
      injection hp with hp
      subst hp
      simp
    | cons c p =>
      simp only [List.length_cons] at hl
      have h4 : c ≠ 91 := hb c (by simp)
      have key : ∀ (t : Thing) (p' : List UInt8), p'.length ≤ n → (∀ c ∈ p', c ≠ 91) → parse (c :: p) = (parse p').map (t :: ·) → parse (c :: p ++ q) = (parse (p' ++ q)).map (t :: ·) → parse (c :: p ++ q) = (parse q).map (ts ++ ·) := by
        intro t p' hl' hb' h1 h2
        rw [h1] at hp
        cases hp' : parse p' with
        | none => rw [hp'] at hp; cases hp
        | some ts' =>
          rw [hp'] at hp
          injection hp with hp
          rw [h2, ih p' ts' hl' hb' hp', ← hp]
          cases parse q <;> rfl
      by_cases h1 : c = 42
      · subst h1
        exact key none p (by omega) (fun d hd => hb d (by simp [hd])) (parse_cons_star p) (parse_cons_star _)
      by_cases h2 : c = 63
      · subst h2
        exact key _ p (by omega) (fun d hd => hb d (by simp [hd])) (parse_cons_any p) (parse_cons_any _)
      by_cases h3 : c = 92
      · subst h3
        cases p with
        | nil => rw [parse_back_end] at hp; cases hp
        | cons x p => exact key _ p (by simp at hl; omega) (fun d hd => hb d (by simp [hd])) (parse_cons_back x p) (parse_cons_back x _)
      · exact key _ p (by omega) (fun d hd => hb d (by simp [hd])) (parse_cons_plain c p h1 h2 h3 h4) (parse_cons_plain c _ h1 h2 h3 h4)
theorem gm_only_star (s : List UInt8) : gm [none] s = true := by
  rw [gm_star_iff]
  exact ⟨s.length, Nat.le_refl _, by simp [gm]⟩
theorem gm_two_stars (s : List UInt8) : gm [none, none] s = true := by
  rw [gm_star_iff]
  exact ⟨s.length, Nat.le_refl _, gm_only_star _⟩
theorem gm_star_behind (ts us : List Thing) (h : ∀ s, gm us s = true) (s : List UInt8) : gm (ts ++ us) s = true ↔ ∃ j, j ≤ s.length ∧ gm ts (s.take j) = true := by
  rw [gm_append]
  exact ⟨fun ⟨j, hj, h1, _⟩ => ⟨j, hj, h1⟩, fun ⟨j, hj, h1⟩ => ⟨j, hj, h1, h _⟩⟩
/-- Single bytes. -/
def singles (l : List UInt8) : List Thing := l.map fun c => some (· == c)
theorem gm_singles : ∀ l s : List UInt8, gm (singles l) s = decide (s = l) := by
  intro l
  induction l with
  | nil => intro s; cases s <;> simp [singles, gm]
  | cons c l ih =>
    intro s
    cases s with
    | nil => simp [singles, gm]
    | cons d r =>
      have := ih r
      simp only [singles] at this
      simp only [singles, List.map_cons, gm, this]
      by_cases h : d = c <;> by_cases h2 : r = l <;> simp [h, h2]
theorem parse_plain : ∀ l : List UInt8, (∀ c ∈ l, isSign c = false) → parse l = some (singles l) := by
  intro l
  induction l with
  | nil => intro _; rfl
  | cons c l ih =>
    intro h
    have hc := h c (by simp)
    simp only [isSign, Bool.or_eq_false_iff, beq_eq_false_iff_ne] at hc
    rw [parse_cons_plain c l hc.1.1.1 hc.1.1.2 hc.2 hc.1.2, ih (fun d hd => h d (by simp [hd]))]
    rfl
theorem parse_quote : ∀ l : List UInt8, parse (quoteL l) = some (singles l) := by
  intro l
  induction l with
  | nil => rfl
  | cons c l ih =>
    have e : quoteL (c :: l) = quote1 c ++ quoteL l := by simp [quoteL]
    rw [e]
    cases hs : isSign c with
    | true =>
      have e2 : quote1 c = [92, c] := by simp [quote1, hs]
      rw [e2]
      show parse (92 :: c :: quoteL l) = _
      rw [parse_cons_back, ih]
      rfl
    | false =>
      have e2 : quote1 c = [c] := by simp [quote1, hs]
      rw [e2]
      show parse (c :: quoteL l) = _
      simp only [isSign, Bool.or_eq_false_iff, beq_eq_false_iff_ne] at hs
      rw [parse_cons_plain c _ hs.1.1.1 hs.1.1.2 hs.2 hs.1.2, ih]
      rfl
theorem quoteL_plain : ∀ l : List UInt8, (∀ c ∈ l, isSign c = false) → quoteL l = l := by
  intro l
  induction l with
  | nil => intro _; rfl
  | cons c l ih =>
    intro h
    have e : quoteL (c :: l) = quote1 c ++ quoteL l := by simp [quoteL]
    rw [e, ih (fun d hd => h d (by simp [hd]))]
    simp [quote1, h c (by simp)]
theorem parse_marks : ∀ n : Nat, parse (List.replicate n 63) = some (List.replicate n (some fun _ => true))
  | 0 => rfl
  | n + 1 => by rw [List.replicate_succ, parse_cons_any, parse_marks n]; rfl
theorem gm_marks : ∀ (n : Nat) (s : List UInt8), gm (List.replicate n (some fun _ => true)) s = decide (s.length = n)
  | 0, s => by cases s <;> simp [gm]
  | n + 1, [] => by rw [List.replicate_succ, gm]; simp
  | n + 1, c :: s => by rw [List.replicate_succ, gm, gm_marks n s]; simp
theorem parse_marks_star (a b : Nat) : parse (List.replicate a 63 ++ 42 :: List.replicate b 63) = some (List.replicate a (some fun _ => true) ++ none :: List.replicate b (some fun _ => true)) := by
  rw [parse_append _ _ _ _ (Nat.le_refl _) (by intro c hc; rw [List.eq_of_mem_replicate hc]; decide) (parse_marks a), parse_cons_star, parse_marks]
  rfl
theorem gm_marks_star (a b : Nat) (s : List UInt8) : gm (List.replicate a (some fun _ => true) ++ none :: List.replicate b (some fun _ => true)) s = decide (a + b ≤ s.length) := by
  rw [Bool.eq_iff_iff, gm_append, decide_eq_true_eq]
  constructor
  · rintro ⟨j, hj, h1, h2⟩
    obtain ⟨i, hi, h3⟩ := (gm_star_iff _ _).1 h2
    rw [gm_marks, decide_eq_true_eq, List.length_take] at h1
    rw [gm_marks, decide_eq_true_eq, List.length_drop, List.length_drop] at h3
    rw [List.length_drop] at hi
    omega
  · intro h
    refine ⟨a, by omega, ?_, (gm_star_iff _ _).2 ⟨s.length - a - b, by rw [List.length_drop]; omega, ?_⟩⟩
    · rw [gm_marks, decide_eq_true_eq, List.length_take]; omega
    · rw [gm_marks, decide_eq_true_eq, List.length_drop, List.length_drop]; omega
theorem closeAt_range (b : UInt8) (hb : b ≠ 93) : closeAt [45, b, 93] = some 2 := by
  simp [closeAt, List.findIdx?_cons, hb]
theorem parse_range (a b : UInt8) (ha : a ≠ 33) (hb : b ≠ 93) : parse [91, a, 45, b, 93] = some [some fun c => (decide (a ≤ c) && decide (c ≤ b)) != false] := by
  have e : brackOf [a, 45, b, 93] false [a, 45, b, 93] = (some (fun c => (decide (a ≤ c) && decide (c ≤ b)) != false), []) := by
    unfold brackOf
    dsimp only
    rw [closeAt_range b hb]
    simp [brk]
  have e2 : nextP [91, a, 45, b, 93] = some (brackOf [a, 45, b, 93] false [a, 45, b, 93]) := by
    unfold nextP
    simp only [show ¬ ((91 : UInt8) = 42) from by decide, show ¬ ((91 : UInt8) = 63) from by decide, show ¬ ((91 : UInt8) = 92) from by decide, if_true, if_false]
    split
    · rename_i r heq
      injection heq with h1 _
      exact absurd h1 ha
    · rfl
  rw [parse_cons, e2, e]
  rfl
theorem parse_nrange (a b : UInt8) (hb : b ≠ 93) : parse [91, 33, a, 45, b, 93] = some [some fun c => (decide (a ≤ c) && decide (c ≤ b)) != true] := by
  have e : brackOf (33 :: [a, 45, b, 93]) true [a, 45, b, 93] = (some (fun c => (decide (a ≤ c) && decide (c ≤ b)) != true), []) := by
    unfold brackOf
    dsimp only
    rw [closeAt_range b hb]
    simp [brk]
  have e2 : nextP [91, 33, a, 45, b, 93] = some (brackOf (33 :: [a, 45, b, 93]) true [a, 45, b, 93]) := rfl
  rw [parse_cons, e2, e]
  rfl
theorem gm_one (p : UInt8 → Bool) (s : List UInt8) : gm [some p] s = match s with | [c] => p c | _ => false := by
  cases s with
  | nil => rw [gm]
  | cons c r =>
    rw [gm]
    cases r with
    | nil => simp [gm]
    | cons d r => simp [gm]

/-! ### The reference's table -/
theorem dp_star (ts : List Thing) (N : List UInt8) (i : Nat) (hi : i ≤ N.length) : gm (ts ++ [none]) (N.take i) = (gm ts (N.take i) || (decide (0 < i) && gm (ts ++ [none]) (N.take (i - 1)))) := by
  rw [Bool.eq_iff_iff, gm_star_behind ts [none] gm_only_star, Bool.or_eq_true, Bool.and_eq_true, gm_star_behind ts [none] gm_only_star]
  simp only [List.length_take, decide_eq_true_eq, List.take_take]
  constructor
  · rintro ⟨j, hj, h⟩
    by_cases e : j = i
    · subst e
      rw [Nat.min_self] at h
      exact .inl h
    · exact .inr ⟨by omega, j, by omega, by rw [show min j (i - 1) = min j i from by omega]; exact h⟩
  · rintro (h | ⟨h0, j, hj, h⟩)
    · exact ⟨i, by omega, by rw [Nat.min_self]; exact h⟩
    · exact ⟨j, by omega, by rw [show min j i = min j (i - 1) from by omega]; exact h⟩
theorem dp_zero (ts : List Thing) (p : UInt8 → Bool) : gm (ts ++ [some p]) [] = false := by
  rw [Bool.eq_false_iff]
  intro h
  obtain ⟨j, hj, _, h2⟩ := (gm_append _ _ _).1 h
  rw [List.drop_nil, gm] at h2
  cases h2
theorem dp_some (ts : List Thing) (p : UInt8 → Bool) (N : List UInt8) (i : Nat) (hi : i < N.length) : gm (ts ++ [some p]) (N.take (i + 1)) = (gm ts (N.take i) && p N[i]) := by
  rw [Bool.eq_iff_iff, gm_append, Bool.and_eq_true]
  simp only [List.length_take, List.take_take]
  constructor
  · rintro ⟨j, hj, h1, h2⟩
    rw [gm_one] at h2
    rw [List.drop_take] at h2
    have hjl : (List.take (i + 1 - j) (N.drop j)).length = i + 1 - j := by rw [List.length_take, List.length_drop]; omega
    by_cases e : j = i
    · subst e
      rw [show j + 1 - j = 1 from by omega, List.drop_eq_getElem_cons hi] at h2
      rw [show min j (j + 1) = j from by omega] at h1
      exact ⟨h1, h2⟩
    · revert h2
      generalize List.take (i + 1 - j) (N.drop j) = S at hjl ⊢
      intro h2
      match S, hjl with
      | [], _ => cases h2
      | [c], hjl => simp at hjl; omega
      | _ :: _ :: _, _ => cases h2
  · rintro ⟨h1, h2⟩
    refine ⟨i, by omega, by rw [show min i (i + 1) = i from by omega]; exact h1, ?_⟩
    rw [gm_one, List.drop_take, show i + 1 - i = 1 from by omega, List.drop_eq_getElem_cons hi]
    exact h2
end Go.Proofs.Ytafiadlkfjacnaa
