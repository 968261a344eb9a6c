/-
  The four forms of an item, by digits: plain lists; one contract for Parse whatever it answers.
-/
import Derived.Test.YtgibhlpocmppjaaDoorLstAliveWalk
namespace Go.Proofs.YtgibhlpocmppjaaDoor
open Go.RowKit

def placeB (u : Nat) : Bool := decide (0 < u) && decide (u ≤ 2147483647)
theorem placeB_true {u : Nat} (h : placeB u = true) : 1 ≤ u ∧ u ≤ 2147483647 := by unfold placeB at h; simp at h; omega
theorem placeB_false {u : Nat} (h : placeB u = false) : ¬ (1 ≤ u ∧ u ≤ 2147483647) := by unfold placeB at h; simp at h; omega
theorem placeV_of (u : Nat) : placeV (Lib.decDigits u) = if placeB u = true then u else 0 := by
  cases h : placeB u with
  | true => rw [if_pos rfl]; exact placeV_digits u (placeB_true h).1 (placeB_true h).2
  | false =>
    have h1 := placeB_false h
    rw [if_neg (by simp)]
    by_cases h0 : u = 0
    · subst h0; rw [Lib.decDigits_one (by omega)]; decide
    · unfold placeV
      rw [if_neg (fun hh => h1 ⟨by omega, by have := hh.2.2.2.2; rw [decV_digits] at this; exact this⟩)]
theorem parse_item (L : List UInt8) (h : (44 : UInt8) ∉ L) : parseV L = (itemV L).map fun y => [y] := by
  unfold parseV
  rw [splitC_no _ _ h]
  show (match itemV L with | none => none | some y => (allItems []).map (y :: ·)) = _
  cases itemV L <;> rfl
def lst (b : Bool) (r : Rng) : List Rng := if b = true then [r] else []
def code (b : Bool) : Int := if b = true then 0 else 5
def optL (b : Bool) (r : Rng) : Option (List Rng) := if b = true then some [r] else none
theorem form_one (f : Nat) : parseV (Lib.decDigits f) = optL (placeB f) ⟨f, f⟩ := by
  rw [parse_item _ (no_comma_dig _ (digits_dig f))]
  unfold itemV optL
  rw [no_dash _ (digits_dig f)]
  simp only [placeV_of]
  cases h : placeB f with
  | true => have := placeB_true h; simp; omega
  | false => simp
theorem form_on (f : Nat) : parseV (Lib.decDigits f ++ [45]) = optL (placeB f) ⟨f, 0⟩ := by
  rw [parse_item _ (fun hm => by rcases List.mem_append.1 hm with h | h; · exact no_comma_dig _ (digits_dig f) h
                                 · simp at h)]
  unfold itemV optL
  rw [dash_behind _ [] (digits_dig f)]
  simp only [take_behind, drop_behind]
  rw [if_neg (digits_ne f), placeV_of]
  cases h : placeB f with
  | true => have := placeB_true h; simp; omega
  | false => simp
theorem form_up (t : Nat) : parseV (45 :: Lib.decDigits t) = optL (placeB t) ⟨1, t⟩ := by
  rw [parse_item _ (fun hm => by rcases List.mem_cons.1 hm with h | h; · exact absurd h (by decide)
                                 · exact no_comma_dig _ (digits_dig t) h)]
  have hd : dash (45 :: Lib.decDigits t) = some 0 := dash_behind [] (Lib.decDigits t) rfl
  unfold itemV optL
  rw [hd]
  simp only [List.take_zero, List.drop_succ_cons, List.drop_zero, Nat.zero_add]
  rw [if_pos trivial, placeV_of]
  cases h : placeB t with
  | true => have := placeB_true h; simp; omega
  | false => simp
theorem form_two (f t : Nat) : parseV (Lib.decDigits f ++ 45 :: Lib.decDigits t) = optL (placeB f && placeB t && decide (f ≤ t)) ⟨f, t⟩ := by
  rw [parse_item _ (fun hm => by rcases List.mem_append.1 hm with h | h; · exact no_comma_dig _ (digits_dig f) h
                                 · rcases List.mem_cons.1 h with h | h; · exact absurd h (by decide)
                                   · exact no_comma_dig _ (digits_dig t) h)]
  unfold itemV optL
  rw [dash_behind _ _ (digits_dig f)]
  simp only [take_behind, drop_behind]
  rw [if_neg (digits_ne f), if_neg (digits_ne t), placeV_of, placeV_of]
  cases h : placeB f with
  | true =>
    have := placeB_true h
    cases h2 : placeB t with
    | true =>
      by_cases h3 : f ≤ t
      · simp [h3]; omega
      · simp [h3]
    | false => simp; omega
  | false => simp
theorem parse_gen (B : Nat) (L : List UInt8) (b : Bool) (r : Rng) (w : World) (hE : Env B w) (hl : L.length ≤ 4096) (hp : parseV L = optL b r) :
    Calls Tryd.prog 16 #[.string (str L)] w fun e w' => (∃ A c, e = .returned (.tuple #[.slice A (lst b r).length c, .int .i64 (code b)]) ∧ Reads w' w'.heap.size 2 A (lst b r).length (rngv (lst b r))) ∧ Below w.heap.size w w' := by
  cases b with
  | true => exact (parse_some B L [r] w hE hl hp).mono fun e w' ⟨A, c, he, ho, hB⟩ => ⟨⟨A, c, he, Reads.of_own ho⟩, hB⟩
  | false => exact (parse_none B L w hE hl hp).mono fun e w' ⟨he, hB⟩ => ⟨⟨none, 0, he, Reads.none_⟩, hB⟩
end Go.Proofs.YtgibhlpocmppjaaDoor
