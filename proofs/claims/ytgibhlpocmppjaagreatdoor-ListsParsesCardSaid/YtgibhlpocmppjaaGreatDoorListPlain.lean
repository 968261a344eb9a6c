/-
  Lists of places: plain lists, no program.
-/
import Derived.Test.YtgibhlpocmppjaaGreatDoorNumPlain
import Derived.Test.YtgibhlpocmppjaaGreatDoorLstRanges
namespace Go.Proofs.YtgibhlpocmppjaaGreatDoor
open Go

/-! ### A place -/
def placeV (l : List UInt8) : Nat := if 1 ≤ l.length ∧ l.length ≤ 10 ∧ l.head? ≠ some 48 ∧ allDig l = true ∧ decV l ≤ 2147483647 then decV l else 0
theorem digits_len : ∀ (k u : Nat), u < 10 ^ (k + 1) → (Lib.decDigits u).length ≤ k + 1 := by
  intro k
  induction k with
  | zero =>
    intro u h
    rw [Lib.decDigits_one (by simpa using h)]
    simp
  | succ k ih =>
    intro u h
    by_cases h10 : u < 10
    · rw [Lib.decDigits_one h10]; simp
    · rw [Lib.decDigits, dif_neg h10, List.length_append]
      have := ih (u / 10) (by rw [Nat.pow_succ] at h; omega)
      simp; omega
theorem placeV_digits (u : Nat) (h1 : 1 ≤ u) (h2 : u ≤ 2147483647) : placeV (Lib.decDigits u) = u := by
  unfold placeV
  have hne := digits_ne u
  have hl : 1 ≤ (Lib.decDigits u).length := by cases h : Lib.decDigits u with | nil => exact absurd h hne | cons a b => simp
  rw [if_pos ⟨hl, digits_len 9 u (by omega), digits_head u h1, digits_dig u, by rw [decV_digits]; exact h2⟩, decV_digits]
theorem placeV_le (l : List UInt8) : placeV l ≤ 2147483647 := by
  unfold placeV
  split
  · rename_i h; exact h.2.2.2.2
  · omega
theorem placeV_pos (l : List UInt8) (h : 0 < placeV l) : l = Lib.decDigits (placeV l) := by
  unfold placeV at h ⊢
  split at h
  · rename_i hh
    rw [if_pos hh]
    exact (digits_dec (l.length - 1) l (by omega) hh.2.2.2.1 hh.2.2.1).symm
  · omega
theorem placeV_atoi (l : List UInt8) (h : 0 < placeV l) : Lib.atoiAll l = .ok (placeV l) := by
  have e := placeV_pos l h
  have hle := placeV_le l
  have := atoi_digits l (by rw [e]; exact digits_dig _) (by rw [e]; exact digits_ne _) (by rw [e, decV_digits]; omega)
  rw [this]
  congr 2
  rw [e, decV_digits, ← e]
/-- What the program's place asks. -/
theorem placeV_none (l : List UInt8) (v : Int) (h : Lib.atoiAll l = .ok v) (h1 : 1 ≤ v) (h2 : v ≤ 2147483647) (h3 : Lib.itoa v = l) : placeV l = v.toNat := by
  obtain ⟨u, rfl⟩ : ∃ u : Nat, v = u := ⟨v.toNat, by omega⟩
  have e : Lib.itoa (u : Int) = Lib.decDigits u := by unfold Lib.itoa; rw [if_neg (by omega)]; rfl
  rw [e] at h3
  rw [← h3, placeV_digits u (by omega) (by omega)]
  rfl
theorem placeV_zero (l : List UInt8) (h : placeV l = 0) (v : Int) (ha : Lib.atoiAll l = .ok v) : v < 1 ∨ 2147483647 < v ∨ Lib.itoa v ≠ l := by
  by_cases h1 : v < 1
  · exact .inl h1
  · by_cases h2 : 2147483647 < v
    · exact .inr (.inl h2)
    · refine .inr (.inr fun e => ?_)
      have := placeV_none l v ha (by omega) (by omega) e
      omega
theorem place_itoa (l : List UInt8) (h : 0 < placeV l) : Lib.itoa (placeV l) = l := by
  have e : Lib.itoa ((placeV l : Nat) : Int) = Lib.decDigits (placeV l) := by unfold Lib.itoa; rw [if_neg (by omega)]; rfl
  rw [e]
  exact (placeV_pos l h).symm

/-! ### An item -/
def dash (l : List UInt8) : Option Nat := l.findIdx? (· == 45)
def itemV (l : List UInt8) : Option Rng := match dash l with
  | none => if 0 < placeV l then some ⟨placeV l, placeV l⟩ else none
  | some i =>
    if l.take i = [] then (if 0 < placeV (l.drop (i + 1)) then some ⟨1, placeV (l.drop (i + 1))⟩ else none)
    else if l.drop (i + 1) = [] then (if 0 < placeV (l.take i) then some ⟨placeV (l.take i), 0⟩ else none)
    else if 0 < placeV (l.take i) ∧ placeV (l.take i) ≤ placeV (l.drop (i + 1)) then some ⟨placeV (l.take i), placeV (l.drop (i + 1))⟩ else none
/-- May a range be told? -/
def rngOk (r : Rng) : Bool := decide (1 ≤ r.fr) && decide (r.fr ≤ 2147483647) && decide (r.to ≤ 2147483647) && (decide (r.to = 0) || decide (r.fr ≤ r.to))
theorem rngOk_iff (r : Rng) : rngOk r = true ↔ 1 ≤ r.fr ∧ r.fr ≤ 2147483647 ∧ r.to ≤ 2147483647 ∧ (r.to = 0 ∨ r.fr ≤ r.to) := by
  unfold rngOk
  simp only [Bool.and_eq_true, Bool.or_eq_true, decide_eq_true_eq, and_assoc]
def rngT (r : Rng) : List UInt8 := Lib.itoa r.fr ++ (if r.to = 0 then [45] else if r.fr < r.to then 45 :: Lib.itoa r.to else [])
theorem itoa_pos (v : Int) (h : 1 ≤ v) : Lib.itoa v = Lib.decDigits v.toNat := by unfold Lib.itoa; rw [if_neg (by omega)]
theorem no_dash (l : List UInt8) (h : allDig l = true) : dash l = none := by
  unfold dash
  rw [List.findIdx?_eq_none_iff]
  intro c hc
  unfold allDig at h
  have := List.all_eq_true.1 h c hc
  rw [isDig_iff] at this
  simp only [beq_eq_false_iff_ne]
  intro e
  rw [e] at this
  exact absurd this.1 (by decide)
theorem dash_behind (l m : List UInt8) (h : allDig l = true) : dash (l ++ 45 :: m) = some l.length := by
  have hn := no_dash l h
  unfold dash at hn ⊢
  rw [List.findIdx?_append, hn]
  simp [List.findIdx?_cons]
theorem drop_behind (l m : List UInt8) : (l ++ 45 :: m).drop (l.length + 1) = m := by
  rw [List.drop_append, List.drop_eq_nil_of_le (by omega), Nat.add_sub_cancel_left]; rfl
theorem take_behind (l m : List UInt8) : (l ++ 45 :: m).take l.length = l := by simp
theorem item_text (r : Rng) (h : rngOk r = true) : itemV (rngT r) = some r := by
  rw [rngOk_iff] at h
  obtain ⟨h1, h2, h3, h4⟩ := h
  obtain ⟨f, hf⟩ : ∃ f : Nat, r.fr = f := ⟨r.fr.toNat, by omega⟩
  obtain ⟨fr, to⟩ := r
  simp only at h1 h2 h3 h4 hf
  subst hf
  have ef : Lib.itoa (f : Int) = Lib.decDigits f := itoa_pos _ h1
  have hp := placeV_digits f (by omega) (by omega)
  have hd := digits_dig f
  have hn := digits_ne f
  unfold rngT
  simp only [ef]
  by_cases h0 : to = 0
  · subst h0
    rw [if_pos rfl]
    unfold itemV
    rw [dash_behind _ [] hd]
    simp only [List.take_left', List.drop_append]
    rw [if_neg hn]
    simp [hp]
    omega
  · rw [if_neg h0]
    by_cases hlt : (f : Int) < to
    · rw [if_pos hlt]
      obtain ⟨t, rfl⟩ : ∃ t : Nat, to = t := ⟨to.toNat, by omega⟩
      have et : Lib.itoa (t : Int) = Lib.decDigits t := itoa_pos _ (by omega)
      have hpt := placeV_digits t (by omega) (by omega)
      rw [et]
      unfold itemV
      rw [dash_behind _ _ hd]
      simp only [take_behind, drop_behind]
      rw [if_neg hn, if_neg (digits_ne t), hp, hpt, if_pos ⟨by omega, by omega⟩]
    · rw [if_neg hlt, List.append_nil]
      unfold itemV
      rw [no_dash _ hd]
      simp only [hp]
      rw [if_pos (by omega)]
      congr 2
      omega
theorem item_ok (l : List UInt8) (r : Rng) (h : itemV l = some r) : rngOk r = true ∧ (rngT r).length ≤ l.length + 1 := by
  unfold itemV at h
  rw [rngOk_iff]
  cases hd : dash l with
  | none =>
    rw [hd] at h
    simp only at h
    split at h
    · rename_i hp
      injection h with h
      subst h
      have := placeV_le l
      refine ⟨⟨by show 1 ≤ ((placeV l : Nat) : Int); omega, by show ((placeV l : Nat) : Int) ≤ _; omega, by show ((placeV l : Nat) : Int) ≤ _; omega, .inr (Int.le_refl _)⟩, ?_⟩
      unfold rngT
      simp only
      rw [if_neg (by omega), if_neg (by omega), List.append_nil, place_itoa l hp]
      omega
    · cases h
  | some i =>
    rw [hd] at h
    simp only at h
    have hil : i < l.length := by
      unfold dash at hd
      rw [List.findIdx?_eq_some_iff_getElem] at hd
      exact hd.1
    have hle1 := placeV_le (l.take i)
    have hle2 := placeV_le (l.drop (i + 1))
    have hl1 : (l.take i).length = i := by rw [List.length_take]; omega
    have hl2 : (l.drop (i + 1)).length = l.length - (i + 1) := List.length_drop
    split at h
    · split at h
      · rename_i he hp
        injection h with h
        subst h
        refine ⟨⟨by show (1 : Int) ≤ 1; omega, by show (1 : Int) ≤ _; omega, by show ((placeV (l.drop (i + 1)) : Nat) : Int) ≤ _; omega, .inr (by show (1 : Int) ≤ ((placeV (l.drop (i + 1)) : Nat) : Int); omega)⟩, ?_⟩
        unfold rngT
        simp only
        rw [if_neg (by omega), place_itoa _ hp]
        have e1 : (Lib.itoa 1).length = 1 := by rw [itoa_pos 1 (by omega)]; rw [show (1 : Int).toNat = 1 from rfl, Lib.decDigits_one (by omega)]; rfl
        rw [List.length_append, e1]
        split
        · rw [List.length_cons, hl2]; omega
        · simp
      · cases h
    · split at h
      · split at h
        · rename_i he he2 hp
          injection h with h
          subst h
          refine ⟨⟨by show (1 : Int) ≤ ((placeV (l.take i) : Nat) : Int); omega, by show ((placeV (l.take i) : Nat) : Int) ≤ _; omega, by show (0 : Int) ≤ _; omega, .inl rfl⟩, ?_⟩
          unfold rngT
          simp only
          rw [if_pos trivial, place_itoa _ hp, List.length_append, hl1]
          simp; try omega
        · cases h
      · split at h
        · rename_i he he2 hp
          injection h with h
          subst h
          refine ⟨⟨by show (1 : Int) ≤ ((placeV (l.take i) : Nat) : Int); omega, by show ((placeV (l.take i) : Nat) : Int) ≤ _; omega, by show ((placeV (l.drop (i + 1)) : Nat) : Int) ≤ _; omega, .inr (by show ((placeV (l.take i) : Nat) : Int) ≤ ((placeV (l.drop (i + 1)) : Nat) : Int); omega)⟩, ?_⟩
          unfold rngT
          simp only
          rw [if_neg (by omega), place_itoa _ hp.1, place_itoa _ (by omega), List.length_append, hl1]
          split
          · rw [List.length_cons, hl2]; omega
          · simp; omega
        · cases h

/-! ### Parts between commas -/
def splitC (c : UInt8) : List UInt8 → List (List UInt8)
  | [] => [[]]
  | x :: r => if x = c then [] :: splitC c r else match splitC c r with
    | [] => [[x]]
    | h :: t => (x :: h) :: t
theorem splitC_cons (c x : UInt8) (r : List UInt8) : splitC c (x :: r) = if x = c then [] :: splitC c r else match splitC c r with
    | [] => [[x]]
    | h :: t => (x :: h) :: t := by rw [splitC]
theorem splitC_ne (c : UInt8) : ∀ l, splitC c l ≠ []
  | [] => by simp [splitC]
  | x :: r => by
    unfold splitC
    split
    · simp
    · split <;> simp
theorem splitC_append (c : UInt8) (t : List UInt8) : ∀ s : List UInt8, splitC c (s ++ c :: t) = splitC c s ++ splitC c t
  | [] => by
    rw [List.nil_append, splitC_cons, if_pos rfl]
    rfl
  | x :: r => by
    have ih := splitC_append c t r
    rw [List.cons_append, splitC_cons, splitC_cons]
    by_cases h : x = c
    · rw [if_pos h, if_pos h, ih]; rfl
    · rw [if_neg h, if_neg h, ih]
      cases hs : splitC c r with
      | nil => exact absurd hs (splitC_ne c r)
      | cons a b => rfl
theorem splitC_no (c : UInt8) : ∀ s : List UInt8, c ∉ s → splitC c s = [s]
  | [], _ => rfl
  | x :: r, h => by
    simp only [List.mem_cons, not_or] at h
    unfold splitC
    rw [if_neg (fun e => h.1 e.symm), splitC_no c r h.2]
theorem splitC_len (c : UInt8) : ∀ s : List UInt8, ((splitC c s).map fun x => x.length + 1).sum = s.length + 1
  | [] => rfl
  | x :: r => by
    have ih := splitC_len c r
    unfold splitC
    by_cases h : x = c
    · rw [if_pos h, List.map_cons, List.sum_cons, ih]; simp; omega
    · rw [if_neg h]
      cases hs : splitC c r with
      | nil => exact absurd hs (splitC_ne c r)
      | cons a b =>
        rw [hs] at ih
        simp at ih ⊢
        omega
end Go.Proofs.YtgibhlpocmppjaaGreatDoor
