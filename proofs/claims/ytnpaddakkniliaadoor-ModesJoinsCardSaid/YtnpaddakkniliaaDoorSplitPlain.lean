/-
  Texts parted at commas: plain, and what strings.Split says of them. (Taken out of ListPlain, LstItem, LstParse: never import it beside these.)
-/
import Derived.Test.YtnpaddakkniliaaDoorStr
import Derived.Lib.SplitLaws
namespace Go.Proofs.YtnpaddakkniliaaDoor
open Go

/-! ### Parts between commas -/
def splitC (c : UInt8) : List UInt8 → List (List UInt8)
  | [] => [[]]
  | x :: r => if x = c then [] :: splitC c r else match splitC c r with
    | [] => [[x]]
    | h :: t => (x :: h) :: t
theorem splitC_cons (c x : UInt8) (r : List UInt8) : splitC c (x :: r) = if x = c then [] :: splitC c r else match splitC c r with
    | [] => [[x]]
    | h :: t => (x :: h) :: t := by rw [splitC]
theorem splitC_ne (c : UInt8) : ∀ l, splitC c l ≠ []
  | [] => by simp [splitC]
  | x :: r => by
    unfold splitC
    split
    · simp
    · split <;> simp
theorem splitC_append (c : UInt8) (t : List UInt8) : ∀ s : List UInt8, splitC c (s ++ c :: t) = splitC c s ++ splitC c t
  | [] => by
    rw [List.nil_append, splitC_cons, if_pos rfl]
    rfl
  | x :: r => by
    have ih := splitC_append c t r
    rw [List.cons_append, splitC_cons, splitC_cons]
    by_cases h : x = c
    · rw [if_pos h, if_pos h, ih]; rfl
    · rw [if_neg h, if_neg h, ih]
      cases hs : splitC c r with
      | nil => exact absurd hs (splitC_ne c r)
      | cons a b => rfl
theorem splitC_no (c : UInt8) : ∀ s : List UInt8, c ∉ s → splitC c s = [s]
  | [], _ => rfl
  | x :: r, h => by
    simp only [List.mem_cons, not_or] at h
    unfold splitC
    rw [if_neg (fun e => h.1 e.symm), splitC_no c r h.2]
theorem splitC_len (c : UInt8) : ∀ s : List UInt8, ((splitC c s).map fun x => x.length + 1).sum = s.length + 1
  | [] => rfl
  | x :: r => by
    have ih := splitC_len c r
    unfold splitC
    by_cases h : x = c
    · rw [if_pos h, List.map_cons, List.sum_cons, ih]; simp; omega
    · rw [if_neg h]
      cases hs : splitC c r with
      | nil => exact absurd hs (splitC_ne c r)
      | cons a b =>
        rw [hs] at ih
        simp at ih ⊢
        omega
theorem split_comma : ∀ (k : Nat) (s : List UInt8), s.count 44 = k → Lib.splitK [44] 0 k s = splitC 44 s := by
  intro k
  induction k with
  | zero =>
    intro s h
    rw [splitC_no 44 s (List.count_eq_zero.1 h)]
    rfl
  | succ k ih =>
    intro s h
    have hm : (44 : UInt8) ∈ s := List.count_pos_iff.1 (by omega)
    unfold Lib.splitK
    rw [Lib.index_one]
    obtain ⟨i, hi⟩ : ∃ i : Nat, Lib.indexByte s 44 = i := by
      have h1 := Lib.indexByte_ge s 44
      by_cases h2 : Lib.indexByte s 44 = -1
      · obtain ⟨j, hj, e⟩ := List.getElem_of_mem hm
        exact absurd (by rw [List.getElem?_eq_getElem hj, e]) (Lib.indexByte_none h2 j)
      · exact ⟨(Lib.indexByte s 44).toNat, by omega⟩
    obtain ⟨h1, h2⟩ := Lib.indexByte_some hi
    have hil : i < s.length := (List.getElem?_eq_some_iff.1 h1).1
    have hs : s = s.take i ++ 44 :: s.drop (i + 1) := by
      have e : s[i] = 44 := by rw [List.getElem?_eq_getElem hil] at h1; injection h1
      rw [← e, List.getElem_cons_drop hil, List.take_append_drop]
    have hno : (44 : UInt8) ∉ s.take i := fun hh => by
      obtain ⟨j, hj, e⟩ := List.getElem_of_mem hh
      rw [List.length_take] at hj
      refine h2 j (by omega) ?_
      rw [← e, List.getElem_take, List.getElem?_eq_getElem (by omega)]
    have hc : (s.drop (i + 1)).count 44 = k := by
      have := h
      rw [hs, List.count_append, List.count_eq_zero.2 hno, List.count_cons] at this
      simp at this
      omega
    rw [hi, if_neg (by simp)]
    simp only [Int.toNat_natCast, Nat.add_zero, List.length_cons, List.length_nil, Nat.zero_add]
    rw [ih _ hc]
    conv => rhs; rw [hs, splitC_append, splitC_no 44 _ hno]
    rfl

theorem split_str (L : List UInt8) : (Lib.splitB { data := #[44] } 0 (Lib.countB (str L) { data := #[44] }) (str L)) = (splitC 44 L).map str := by
  have h := Lib.splitB_data { data := #[44] } 0 (Lib.countB (str L) { data := #[44] }) (str L)
  have hc : Lib.countB (str L) { data := #[44] } = L.count 44 := Lib.count_one 44 L
  rw [hc] at h ⊢
  have h2 : Lib.splitK [44] 0 (L.count 44) L = splitC 44 L := split_comma _ L rfl
  have h3 : (Lib.splitB { data := #[44] } 0 (L.count 44) (str L)).map (·.data.toList) = splitC 44 L := h.trans h2
  rw [← h3, List.map_map]
  conv => lhs; rw [← List.map_id (Lib.splitB _ _ _ _)]
  apply List.map_congr_left
  intro a _
  exact str_of a
theorem splitC_count (L : List UInt8) : (splitC 44 L).length = Lib.countB (str L) { data := #[44] } + 1 := by
  have h := congrArg List.length (split_str L)
  rw [List.length_map] at h
  rw [← h]
  exact Lib.splitB_all _ (by decide) 0 _ _ rfl
theorem mem_le_sum : ∀ (l : List Nat) (x : Nat), x ∈ l → x ≤ l.sum
  | [], x, h => by simp at h
  | a :: l, x, h => by
    rw [List.sum_cons]
    rcases List.mem_cons.1 h with rfl | h
    · omega
    · have := mem_le_sum l x h
      omega
theorem splitC_piece (L : List UInt8) (q : Nat) (h : q < (splitC 44 L).length) : (splitC 44 L)[q].length ≤ L.length := by
  have hs := splitC_len 44 L
  have := mem_le_sum _ ((splitC 44 L)[q].length + 1) (List.mem_map.2 ⟨_, List.getElem_mem h, rfl⟩ : (splitC 44 L)[q].length + 1 ∈ (splitC 44 L).map fun x => x.length + 1)
  omega

end Go.Proofs.YtnpaddakkniliaaDoor
