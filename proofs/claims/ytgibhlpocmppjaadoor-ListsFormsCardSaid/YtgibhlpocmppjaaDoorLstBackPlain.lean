/-
  A list that is told is read as it was; a list that is read is told in at most one byte more for each item: plain lists, no program.
-/
import Derived.Test.YtgibhlpocmppjaaDoorLstParse
import Derived.Test.YtgibhlpocmppjaaDoorLstRefText
namespace Go.Proofs.YtgibhlpocmppjaaDoor
open Go

theorem no_comma_dig (l : List UInt8) (h : allDig l = true) : (44 : UInt8) ∉ l := fun hm => by
  unfold allDig at h
  have := List.all_eq_true.1 h 44 hm
  rw [isDig_iff] at this
  exact absurd this.1 (by decide)
theorem no_comma (r : Rng) (h : rngOk r = true) : (44 : UInt8) ∉ rngT r := by
  rw [rngOk_iff] at h
  obtain ⟨h1, h2, h3, h4⟩ := h
  unfold rngT
  rw [itoa_pos _ h1]
  have d1 := no_comma_dig _ (digits_dig r.fr.toNat)
  intro hm
  rcases List.mem_append.1 hm with hm | hm
  · exact d1 hm
  · split at hm
    · simp at hm
    · split at hm
      · rename_i h5
        rw [itoa_pos _ (by omega)] at hm
        rcases List.mem_cons.1 hm with hm | hm
        · exact absurd hm (by decide)
        · exact no_comma_dig _ (digits_dig r.to.toNat) hm
      · simp at hm
theorem allItems_cons (x : List UInt8) (m : List (List UInt8)) (r : Rng) (rs : List Rng) (h1 : itemV x = some r) (h2 : allItems m = some rs) : allItems (x :: m) = some (r :: rs) := by
  unfold allItems
  rw [h1, h2]
  rfl
theorem join_cons (r r2 : Rng) (rs : List Rng) : joinT (r :: r2 :: rs) = rngT r ++ 44 :: joinT (r2 :: rs) := by
  have hne : catT (r2 :: rs) ≠ [] := by simp [catT, one1]
  unfold joinT
  rw [show catT (r :: r2 :: rs) = (rngT r ++ [44]) ++ catT (r2 :: rs) from by simp [catT, one1], List.dropLast_append_of_ne_nil hne]
  simp
theorem join_one (r : Rng) : joinT [r] = rngT r := by simp [joinT, catT, one1]
theorem parse_join : ∀ (l : List Rng), l ≠ [] → (∀ r ∈ l, rngOk r = true) → parseV (joinT l) = some l
  | [], h, _ => absurd rfl h
  | [r], _, h => by
    unfold parseV
    rw [join_one, splitC_no _ _ (no_comma r (h r (by simp)))]
    exact allItems_cons _ _ _ _ (item_text r (h r (by simp))) rfl
  | r :: r2 :: rs, _, h => by
    have ih := parse_join (r2 :: rs) (by simp) (fun x hx => h x (by simp at hx ⊢; exact .inr hx))
    unfold parseV at ih ⊢
    rw [join_cons, splitC_append, splitC_no _ _ (no_comma r (h r (by simp)))]
    exact allItems_cons _ _ _ _ (item_text r (h r (by simp))) ih
theorem any_ok (l : List Rng) : (∀ r ∈ l, rngOk r = true) ↔ l.any badV = false := by
  rw [List.any_eq_false]
  constructor
  · intro h r hr; unfold badV; rw [h r hr]; decide
  · intro h r hr; have := h r hr; unfold badV at this; simpa using this
theorem items_ok : ∀ (p : List (List UInt8)) (rs : List Rng), allItems p = some rs → (∀ r ∈ rs, rngOk r = true) ∧ (catT rs).length ≤ (p.map fun x => x.length + 1).sum + p.length
  | [], rs, h => by
    unfold allItems at h
    cases h
    exact ⟨fun r hr => by simp at hr, by simp [catT]⟩
  | x :: m, rs, h => by
    unfold allItems at h
    cases hi : itemV x with
    | none => rw [hi] at h; cases h
    | some r =>
      cases hm : allItems m with
      | none => rw [hi, hm] at h; cases h
      | some ys =>
        rw [hi, hm] at h
        have h : some (r :: ys) = some rs := h
        cases h
        obtain ⟨h1, h2⟩ := items_ok m ys hm
        obtain ⟨g1, g2⟩ := item_ok x r hi
        refine ⟨fun y hy => ?_, ?_⟩
        · rcases List.mem_cons.1 hy with rfl | hy
          · exact g1
          · exact h1 y hy
        · rw [show catT (r :: ys) = (rngT r ++ [44]) ++ catT ys from by simp [catT, one1]]
          rw [List.length_append, List.length_append, List.map_cons, List.sum_cons, List.length_cons, List.length_nil, List.length_cons]
          omega
theorem parse_ok (L : List UInt8) (rs : List Rng) (h : parseV L = some rs) : rs ≠ [] ∧ rs.any badV = false ∧ (catT rs).length ≤ L.length + 1 + rs.length ∧ rs.length ≤ L.length + 1 := by
  unfold parseV at h
  have hl := allItems_len _ _ h
  obtain ⟨h1, h2⟩ := items_ok _ _ h
  have h3 := splitC_len 44 L
  have h4 := splitC_ne 44 L
  have h5 : (splitC 44 L).length ≤ ((splitC 44 L).map fun x => x.length + 1).sum := by
    generalize splitC 44 L = p
    induction p with
    | nil => simp
    | cons a b ih => simp at ih ⊢; omega
  refine ⟨fun e => h4 (List.eq_nil_of_length_eq_zero (by rw [← hl, e]; rfl)), (any_ok rs).1 h1, by omega, by omega⟩
theorem allItems_append : ∀ (p m : List (List UInt8)), allItems (p ++ m) = match allItems p, allItems m with
    | some a, some b => some (a ++ b)
    | _, _ => none
  | [], m => by
    rw [List.nil_append]
    show _ = match some [], allItems m with | some a, some b => some (a ++ b) | _, _ => none
    cases allItems m <;> rfl
  | x :: p, m => by
    have ih := allItems_append p m
    have e : ∀ q, allItems (x :: q) = match itemV x with | none => none | some y => (allItems q).map (y :: ·) := fun _ => rfl
    rw [List.cons_append, e, e, ih]
    cases itemV x with
    | none => cases allItems p <;> cases allItems m <;> rfl
    | some r => cases allItems p <;> cases allItems m <;> rfl
theorem parse_comma (s t : List UInt8) : parseV (s ++ 44 :: t) = match parseV s, parseV t with
    | some a, some b => some (a ++ b)
    | _, _ => none := by
  unfold parseV
  rw [splitC_append, allItems_append]
theorem has_append (a b : List Rng) (n : Int) : hasV (a ++ b) n = (hasV a n || hasV b n) := by unfold hasV; rw [List.any_append]
end Go.Proofs.YtgibhlpocmppjaaDoor
