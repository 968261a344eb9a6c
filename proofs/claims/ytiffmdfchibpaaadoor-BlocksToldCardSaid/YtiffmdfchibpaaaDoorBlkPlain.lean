/-
  Blocks: what a plan makes of a text, as lists of bytes: plain definitions and lemmas, no program.
-/
import Derived.Test.YtiffmdfchibpaaaDoorStr
set_option linter.unusedVariables false
set_option linter.unusedSimpArgs false
namespace Go.Proofs.YtiffmdfchibpaaaDoor

/-- A plan's numbers and signs. -/
structure PlanV where
  inn : Int
  out : Int
  skip : Int
  count : Int
  seek : Int
  keep : Bool
  swab : Bool
  upper : Bool
  lower : Bool
  sync : Bool
/-- May a plan be? -/
def PlanV.ok (p : PlanV) : Prop := (1 ≤ p.inn ∧ p.inn ≤ 65536) ∧ (1 ≤ p.out ∧ p.out ≤ 65536) ∧ (0 ≤ p.skip ∧ p.skip ≤ 2147483647) ∧ (0 ≤ p.seek ∧ p.seek ≤ 2147483647) ∧ (p.upper && p.lower) = false
instance (p : PlanV) : Decidable p.ok := by unfold PlanV.ok; infer_instance
def PlanV.k (p : PlanV) : Nat := p.inn.toNat
/-- What is done to a block. -/
def swabV : List UInt8 → List UInt8
  | a :: b :: r => b :: a :: swabV r
  | l => l
def upB (c : UInt8) : UInt8 := if 97 ≤ c.toNat ∧ c.toNat ≤ 122 then c ^^^ 32 else c
def loB (c : UInt8) : UInt8 := if 65 ≤ c.toNat ∧ c.toNat ≤ 90 then c ^^^ 32 else c
def fillV (p : PlanV) (s : List UInt8) : List UInt8 := if p.sync = true then s ++ List.replicate (p.k - s.length) 0 else s
def turnV (p : PlanV) (s : List UInt8) : List UInt8 := if p.swab = true then swabV s else s
def raiseV (p : PlanV) (s : List UInt8) : List UInt8 := if p.upper = true then s.map upB else s
def lowerV (p : PlanV) (s : List UInt8) : List UInt8 := if p.lower = true then s.map loB else s
def blkV (p : PlanV) (s : List UInt8) : List UInt8 := lowerV p (raiseV p (turnV p (fillV p s)))

/-- A text's blocks. -/
def chunksF (k : Nat) : Nat → List UInt8 → List (List UInt8)
  | 0, _ => []
  | n + 1, s => if s = [] then [] else s.take k :: chunksF k n (s.drop k)
def chunks (k : Nat) (s : List UInt8) : List (List UInt8) := chunksF k s.length s
theorem chunksF_more (k : Nat) (hk : 1 ≤ k) : ∀ (n m : Nat) (s : List UInt8), s.length ≤ n → s.length ≤ m → chunksF k n s = chunksF k m s
  | 0, 0, _, _, _ => rfl
  | 0, m + 1, s, h, _ => by
    have : s = [] := List.eq_nil_of_length_eq_zero (by omega)
    subst this
    rfl
  | n + 1, 0, s, _, h => by
    have : s = [] := List.eq_nil_of_length_eq_zero (by omega)
    subst this
    rfl
  | n + 1, m + 1, s, h1, h2 => by
    unfold chunksF
    by_cases hs : s = []
    · rw [if_pos hs, if_pos hs]
    · rw [if_neg hs, if_neg hs]
      have hl : 1 ≤ s.length := by
        cases s with
        | nil => exact absurd rfl hs
        | cons _ _ => simp
      rw [chunksF_more k hk n m (s.drop k) (by rw [List.length_drop]; omega) (by rw [List.length_drop]; omega)]
theorem chunks_nil (k : Nat) : chunks k [] = [] := rfl
theorem chunks_cons (k : Nat) (hk : 1 ≤ k) (s : List UInt8) (hs : s ≠ []) : chunks k s = s.take k :: chunks k (s.drop k) := by
  have hl : 1 ≤ s.length := by
    cases s with
    | nil => exact absurd rfl hs
    | cons _ _ => simp
  unfold chunks
  obtain ⟨n, hn⟩ : ∃ n, s.length = n + 1 := ⟨s.length - 1, by omega⟩
  rw [hn]
  show (if s = [] then [] else s.take k :: chunksF k n (s.drop k)) = _
  rw [if_neg hs, chunksF_more k hk n _ (s.drop k) (by rw [List.length_drop]; omega) (Nat.le_refl _)]
/-- Induction along a text's blocks. -/
theorem chunks_ind (k : Nat) (hk : 1 ≤ k) (P : List UInt8 → Prop) (h0 : P []) (h1 : ∀ s, s ≠ [] → P (s.drop k) → P s) : ∀ s, P s := by
  intro s
  suffices h : ∀ n (s : List UInt8), s.length ≤ n → P s from h s.length s (Nat.le_refl _)
  intro n
  induction n with
  | zero =>
    intro s hs
    have : s = [] := List.eq_nil_of_length_eq_zero (by omega)
    rw [this]; exact h0
  | succ n ih =>
    intro s hs
    by_cases h : s = []
    · rw [h]; exact h0
    · refine h1 s h (ih _ ?_)
      have hl : 1 ≤ s.length := by
        cases s with
        | nil => exact absurd rfl h
        | cons _ _ => simp
      rw [List.length_drop]
      omega
theorem chunks_flat (k : Nat) (hk : 1 ≤ k) : ∀ s, (chunks k s).flatten = s :=
  chunks_ind k hk _ rfl fun s hs ih => by
    rw [chunks_cons k hk s hs, List.flatten_cons, ih, List.take_append_drop]
/-- Cut behind whole blocks. -/
theorem chunks_cut (k : Nat) (hk : 1 ≤ k) : ∀ (c : Nat) (s : List UInt8), chunks k s = chunks k (s.take (c * k)) ++ chunks k (s.drop (c * k))
  | 0, s => by simp [chunks_nil]
  | c + 1, s => by
    by_cases hs : s = []
    · subst hs; simp [chunks_nil]
    · have ht : s.take ((c + 1) * k) ≠ [] := by
        intro h
        have h2 := congrArg List.length h
        rw [List.length_take] at h2
        have hl : 1 ≤ s.length := by
          cases s with
          | nil => exact absurd rfl hs
          | cons _ _ => simp
        have h3 : 1 ≤ (c + 1) * k := Nat.mul_le_mul (by omega : 1 ≤ c + 1) hk
        rw [List.length_nil] at h2
        generalize (c + 1) * k = z at h2 h3
        omega
      have hm : (c + 1) * k = c * k + k := Nat.succ_mul c k
      rw [chunks_cons k hk s hs, chunks_cons k hk _ ht, chunks_cut k hk c (s.drop k), List.take_take, List.drop_take, List.drop_drop, List.cons_append, hm, Nat.min_eq_left (by omega), Nat.add_sub_cancel, Nat.add_comm k (c * k)]
theorem swabV_len : ∀ s : List UInt8, (swabV s).length = s.length
  | [] => rfl
  | [_] => rfl
  | a :: b :: r => by
    show (b :: a :: swabV r).length = _
    simp [swabV_len r]
theorem swabV_twice : ∀ s : List UInt8, swabV (swabV s) = s
  | [] => rfl
  | [_] => rfl
  | a :: b :: r => by
    show swabV (b :: a :: swabV r) = _
    show a :: b :: swabV (swabV r) = _
    rw [swabV_twice r]
theorem fillV_len (p : PlanV) (s : List UInt8) (h : s.length ≤ p.k) : (fillV p s).length = if p.sync = true then p.k else s.length := by
  unfold fillV
  split
  · rw [List.length_append, List.length_replicate]; omega
  · rfl
theorem turnV_len (p : PlanV) (s : List UInt8) : (turnV p s).length = s.length := by
  unfold turnV
  split
  · exact swabV_len s
  · rfl
theorem raiseV_len (p : PlanV) (s : List UInt8) : (raiseV p s).length = s.length := by
  unfold raiseV
  split <;> simp
theorem lowerV_len (p : PlanV) (s : List UInt8) : (lowerV p s).length = s.length := by
  unfold lowerV
  split <;> simp
theorem blkV_len (p : PlanV) (s : List UInt8) (h : s.length ≤ p.k) : (blkV p s).length = if p.sync = true then p.k else s.length := by
  unfold blkV
  rw [lowerV_len, raiseV_len, turnV_len, fillV_len p s h]

/-- What is taken of a text: blocks behind those that are skipped, so many at most. -/
def limV (p : PlanV) (n : Nat) (s : List UInt8) : List UInt8 := if p.count < 0 then s else s.take ((p.count.toNat - n) * p.k)
def takenV (p : PlanV) (s : List UInt8) : List UInt8 := limV p 0 (s.drop (p.skip.toNat * p.k))
def goesL (p : PlanV) (l : List (List UInt8)) : List UInt8 := (l.map (blkV p)).flatten
def goesV (p : PlanV) (s : List UInt8) : List UInt8 := goesL p (chunks p.k (takenV p s))
def wholes (k : Nat) (l : List (List UInt8)) : Nat := (l.filter fun b => decide (b.length = k)).length
def parts (k : Nat) (l : List (List UInt8)) : Nat := (l.filter fun b => !decide (b.length = k)).length
theorem goesL_cons (p : PlanV) (x : List UInt8) (l : List (List UInt8)) : goesL p (x :: l) = blkV p x ++ goesL p l := by simp [goesL]
theorem goesL_append (p : PlanV) (l m : List (List UInt8)) : goesL p (l ++ m) = goesL p l ++ goesL p m := by simp [goesL]
theorem wholes_cons (k : Nat) (x : List UInt8) (l : List (List UInt8)) : wholes k (x :: l) = (if x.length = k then 1 else 0) + wholes k l := by
  unfold wholes
  by_cases h : x.length = k
  · rw [List.filter_cons_of_pos (by simpa using h), if_pos h, List.length_cons, Nat.add_comm]
  · rw [List.filter_cons_of_neg (by simpa using h), if_neg h, Nat.zero_add]
theorem parts_cons (k : Nat) (x : List UInt8) (l : List (List UInt8)) : parts k (x :: l) = (if x.length = k then 0 else 1) + parts k l := by
  unfold parts
  by_cases h : x.length = k
  · rw [List.filter_cons_of_neg (by simpa using h), if_pos h, Nat.zero_add]
  · rw [List.filter_cons_of_pos (by simpa using h), if_neg h, List.length_cons, Nat.add_comm]
theorem wholes_append (k : Nat) (l m : List (List UInt8)) : wholes k (l ++ m) = wholes k l + wholes k m := by simp [wholes]
theorem parts_append (k : Nat) (l m : List (List UInt8)) : parts k (l ++ m) = parts k l + parts k m := by simp [parts]
/-- The text that comes out. -/
def textV (p : PlanV) (goes out : List UInt8) : List UInt8 :=
  let at_ := p.seek.toNat * p.out.toNat
  let b := out.take at_ ++ List.replicate (at_ - out.length) 0 ++ goes
  if p.keep = true then b ++ out.drop b.length else b
/-- What Run answers: a text, four numbers, an error's number. -/
structure RunV where
  text : List UInt8
  n0 : Nat
  n1 : Nat
  n2 : Nat
  n3 : Nat
  err : Nat
def runV (p : PlanV) (s out : List UInt8) : RunV :=
  if ¬ p.ok then ⟨[], 0, 0, 0, 0, 1⟩
  else if 1048576 < max s.length out.length then ⟨[], 0, 0, 0, 0, 3⟩
  else
    let l := chunks p.k (takenV p s)
    let g := goesL p l
    if 1048576 < p.seek.toNat * p.out.toNat + g.length then ⟨[], 0, 0, 0, 0, 3⟩
    else ⟨textV p g out, wholes p.k l, parts p.k l, g.length / p.out.toNat, min (g.length % p.out.toNat) 1, 0⟩

/-! ### How a block is turned, place by place -/
theorem chunks_len (k : Nat) (hk : 1 ≤ k) : ∀ s : List UInt8, ∀ x ∈ chunks k s, x.length ≤ k ∧ x ≠ [] :=
  chunks_ind k hk _ (fun x hx => by cases hx) fun s hs ih x hx => by
    rw [chunks_cons k hk s hs] at hx
    rcases List.mem_cons.1 hx with rfl | hx
    · refine ⟨by rw [List.length_take]; omega, fun h => ?_⟩
      cases s with
      | nil => exact hs rfl
      | cons a r =>
        obtain ⟨k, rfl⟩ : ∃ q, k = q + 1 := ⟨k - 1, by omega⟩
        simp at h
    · exact ih x hx
theorem goes_len (p : PlanV) (hk : 1 ≤ p.k) : ∀ s : List UInt8, (goesL p (chunks p.k s)).length ≤ s.length + (p.k - 1) ∧ (s.length % p.k = 0 → (goesL p (chunks p.k s)).length = s.length) :=
  chunks_ind p.k hk _ ⟨by simp [chunks_nil, goesL], fun _ => by simp [chunks_nil, goesL]⟩ fun s hs ih => by
    rw [chunks_cons p.k hk s hs, goesL_cons, List.length_append, blkV_len p _ (by rw [List.length_take]; omega), List.length_take]
    rw [List.length_drop] at ih
    have hl : 1 ≤ s.length := by
      cases s with
      | nil => exact absurd rfl hs
      | cons _ _ => simp
    by_cases hks : p.k ≤ s.length
    · rw [Nat.min_eq_left hks, ite_self]
      refine ⟨by omega, fun h => ?_⟩
      have := ih.2 (by rw [← Nat.mod_eq_sub_mod hks]; exact h)
      omega
    · have h0 : chunks p.k (s.drop p.k) = [] := by
        rw [List.drop_eq_nil_of_le (by omega)]; rfl
      rw [h0]
      have hg : (goesL p []).length = 0 := rfl
      rw [hg, Nat.min_eq_right (by omega)]
      refine ⟨by split <;> omega, fun h => ?_⟩
      rw [Nat.mod_eq_of_lt (by omega)] at h
      omega
end Go.Proofs.YtiffmdfchibpaaaDoor
