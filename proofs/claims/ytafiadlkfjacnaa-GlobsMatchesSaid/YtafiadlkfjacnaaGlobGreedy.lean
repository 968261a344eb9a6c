/-
  The star's way through a name, by plain lists: no program.
-/
import Derived.Test.YtafiadlkfjacnaaGlobPlain
namespace Go.Proofs.Ytafiadlkfjacnaa

/-- Do things, none of them a star, match a beginning? -/
def km : List Thing → List UInt8 → Bool
  | [], _ => true
  | some p :: K, c :: r => p c && km K r
  | _ :: _, _ => false
theorem gm_km (R : List Thing) : ∀ (K : List Thing) (s : List UInt8), (∀ t ∈ K, t ≠ none) → gm (K ++ R) s = (km K s && gm R (s.drop K.length)) := by
  intro K
  induction K with
  | nil => intro s _; simp [km]
  | cons t K ih =>
    intro s h
    cases t with
    | none => exact absurd rfl (h none (by simp))
    | some p =>
      cases s with
      | nil => rw [List.cons_append, gm]; simp [km]
      | cons c r =>
        rw [List.cons_append, gm, ih r (fun t ht => h t (by simp [ht])), km, Bool.and_assoc]
        simp
theorem km_len : ∀ (K : List Thing) (S : List UInt8), km K S = true → K.length ≤ S.length := by
  intro K
  induction K with
  | nil => intro S _; simp
  | cons t K ih =>
    intro S h
    cases t with
    | none => simp [km] at h
    | some q =>
      cases S with
      | nil => simp [km] at h
      | cons d r =>
        simp only [km, Bool.and_eq_true] at h
        have := ih r h.2
        simp; omega
theorem km_snoc (p : UInt8 → Bool) : ∀ (K : List Thing) (s : List UInt8) (c : UInt8), s[K.length]? = some c → km K s = true → p c = true → km (K ++ [some p]) s = true := by
  intro K
  induction K with
  | nil =>
    intro s c h _ hp
    cases s with
    | nil => simp at h
    | cons d r => simp at h; subst h; simp [km, hp]
  | cons t K ih =>
    intro s c h hk hp
    cases t with
    | none => simp [km] at hk
    | some q =>
      cases s with
      | nil => simp [km] at hk
      | cons d r =>
        simp only [km, Bool.and_eq_true] at hk
        simp only [List.cons_append, km, Bool.and_eq_true]
        exact ⟨hk.1, ih r c (by simpa using h) hk.2 hp⟩
/-- Where the star's way stands. -/
def GI (T : List Thing) (N : List UInt8) (a i : Nat) (back : Int) (f : Nat) : Prop :=
  a ≤ T.length ∧ i ≤ N.length ∧ f ≤ i ∧
  ((back = -1 ∧ f = 0 ∧ gm T N = gm (T.drop a) (N.drop i)) ∨
   ∃ (b : Nat) (K : List Thing), back = (b : Int) ∧ T.drop (b + 1) = K ++ T.drop a ∧ a = b + 1 + K.length ∧ i = f + K.length ∧ (∀ t ∈ K, t ≠ none) ∧ km K (N.drop f) = true ∧ gm T N = gm (none :: T.drop (b + 1)) (N.drop f))
theorem GI.start (T : List Thing) (N : List UInt8) : GI T N 0 0 (-1) 0 := ⟨Nat.zero_le _, Nat.zero_le _, Nat.zero_le _, .inl ⟨rfl, rfl, rfl⟩⟩
theorem gm_star_drop (R : List Thing) (N : List UInt8) (f k : Nat) (hk : f + k ≤ N.length) (h : gm (none :: R) (N.drop (f + k)) = true) : gm (none :: R) (N.drop f) = true := by
  obtain ⟨j, hj, hm⟩ := (gm_star_iff _ _).1 h
  rw [List.length_drop] at hj
  rw [List.drop_drop] at hm
  exact (gm_star_iff _ _).2 ⟨k + j, by rw [List.length_drop]; omega, by rw [List.drop_drop, ← Nat.add_assoc]; exact hm⟩
theorem GI.here {T : List Thing} {N : List UInt8} {a i f : Nat} {back : Int} (h : GI T N a i back f) : gm (T.drop a) (N.drop i) = true → gm T N = true := by
  obtain ⟨ha, hi, hf, h | ⟨b, K, hb, hT, hal, hil, hK, hkm, hg⟩⟩ := h
  · intro h2; rw [h.2.2]; exact h2
  · intro h2
    rw [hg, gm_star_iff]
    refine ⟨0, Nat.zero_le _, ?_⟩
    rw [List.drop_zero, hT, gm_km _ K _ hK, hkm, List.drop_drop, ← hil, h2]
    rfl
theorem GI.done {T : List Thing} {N : List UInt8} {f : Nat} {back : Int} (h : GI T N T.length N.length back f) : gm T N = true :=
  h.here (by simp [gm])
theorem GI.star {T : List Thing} {N : List UInt8} {a i f : Nat} {back : Int} (h : GI T N a i back f) (ha : T[a]? = some none) : GI T N (a + 1) i a i := by
  have hal : a < T.length := (List.getElem?_eq_some_iff.1 ha).1
  have hd : T.drop a = none :: T.drop (a + 1) := by
    rw [List.drop_eq_getElem_cons hal]
    rw [List.getElem?_eq_getElem hal] at ha
    injection ha with ha
    rw [ha]
  obtain ⟨_, hi, hf, h'⟩ := h
  refine ⟨hal, hi, Nat.le_refl _, .inr ⟨a, [], rfl, rfl, rfl, rfl, fun t ht => by simp at ht, rfl, ?_⟩⟩
  rw [← hd]
  obtain h' | ⟨b, K, hb, hT, hal', hil, hK, hkm, hg⟩ := h'
  · exact h'.2.2
  · rw [hg, Bool.eq_iff_iff]
    constructor
    · intro h
      obtain ⟨j, hj, hm⟩ := (gm_star_iff _ _).1 h
      rw [hT, gm_km _ K _ hK, Bool.and_eq_true, List.drop_drop, List.drop_drop, hd] at hm
      rw [List.length_drop] at hj
      rw [hd]
      by_cases hjl : f + j + K.length ≤ N.length
      · refine gm_star_drop _ N i j (by omega) ?_
        rw [show i + j = f + j + K.length from by omega]
        exact hm.2
      · have hl := km_len K (N.drop (f + j)) hm.1
        rw [List.length_drop] at hl
        omega
    · intro h
      refine (gm_star_iff _ _).2 ⟨0, Nat.zero_le _, ?_⟩
      rw [List.drop_zero, hT, gm_km _ K _ hK, hkm, List.drop_drop, ← hil, h]
      rfl
theorem drop_thing {T : List Thing} {a : Nat} {t : Thing} (h : T[a]? = some t) : T.drop a = t :: T.drop (a + 1) := by
  have hal : a < T.length := (List.getElem?_eq_some_iff.1 h).1
  rw [List.drop_eq_getElem_cons hal]
  rw [List.getElem?_eq_getElem hal] at h
  injection h with h
  rw [h]
theorem drop_byte {N : List UInt8} {a : Nat} {t : UInt8} (h : N[a]? = some t) : N.drop a = t :: N.drop (a + 1) := by
  have hal : a < N.length := (List.getElem?_eq_some_iff.1 h).1
  rw [List.drop_eq_getElem_cons hal]
  rw [List.getElem?_eq_getElem hal] at h
  injection h with h
  rw [h]
theorem GI.step {T : List Thing} {N : List UInt8} {a i f : Nat} {back : Int} {p : UInt8 → Bool} {c : UInt8} (h : GI T N a i back f) (ha : T[a]? = some (some p)) (hi : N[i]? = some c) (hp : p c = true) : GI T N (a + 1) (i + 1) back f := by
  have hal : a < T.length := (List.getElem?_eq_some_iff.1 ha).1
  have hil : i < N.length := (List.getElem?_eq_some_iff.1 hi).1
  have hd := drop_thing ha
  have hn := drop_byte hi
  obtain ⟨_, _, hf, h'⟩ := h
  refine ⟨hal, hil, by omega, ?_⟩
  obtain h' | ⟨b, K, hb, hT, hal', hil', hK, hkm, hg⟩ := h'
  · refine .inl ⟨h'.1, h'.2.1, ?_⟩
    rw [h'.2.2, hd, hn, gm, hp, Bool.true_and]
  · refine .inr ⟨b, K ++ [some p], hb, by rw [hT, hd]; simp, by simp; omega, by simp; omega, ?_, km_snoc p K _ c ?_ hkm hp, hg⟩
    · intro t ht
      rcases List.mem_append.1 ht with ht | ht
      · exact hK t ht
      · simp at ht; subst ht; simp
    · rw [List.getElem?_drop, ← hil']; exact hi
/-- Nothing goes on here. -/
theorem stuck_end {T : List Thing} {N : List UInt8} {a i : Nat} (ha : a = T.length) (hi : i < N.length) : gm (T.drop a) (N.drop i) = false := by
  subst ha
  rw [List.drop_length, gm]
  rw [List.isEmpty_eq_false_iff]
  intro h
  have := congrArg List.length h
  simp at this
  omega
theorem stuck_name {T : List Thing} {N : List UInt8} {a i : Nat} {p : UInt8 → Bool} (ha : T[a]? = some (some p)) (hi : N.length ≤ i) : gm (T.drop a) (N.drop i) = false := by
  rw [drop_thing ha, List.drop_eq_nil_of_le hi, gm]
theorem stuck_byte {T : List Thing} {N : List UInt8} {a i : Nat} {p : UInt8 → Bool} {c : UInt8} (ha : T[a]? = some (some p)) (hi : N[i]? = some c) (hp : p c = false) : gm (T.drop a) (N.drop i) = false := by
  rw [drop_thing ha, drop_byte hi, gm, hp, Bool.false_and]
theorem GI.back {T : List Thing} {N : List UInt8} {a i f b : Nat} (h : GI T N a i (b : Int) f) (hs : gm (T.drop a) (N.drop i) = false) (hf : f < N.length) : GI T N (b + 1) (f + 1) (b : Int) (f + 1) := by
  obtain ⟨ha, hi, hfi, h' | ⟨b', K, hb, hT, hal', hil', hK, hkm, hg⟩⟩ := h
  · omega
  · obtain rfl : b = b' := by omega
    refine ⟨by omega, hf, Nat.le_refl _, .inr ⟨b, [], rfl, rfl, rfl, rfl, fun t ht => by simp at ht, rfl, ?_⟩⟩
    rw [hg, drop_byte (List.getElem?_eq_getElem hf), gm, ← drop_byte (List.getElem?_eq_getElem hf), hT, gm_km _ K _ hK, List.drop_drop, ← hil', hs, Bool.and_false, Bool.false_or]
theorem GI.back_lt {T : List Thing} {N : List UInt8} {a i f b : Nat} (h : GI T N a i (b : Int) f) : b < a := by
  obtain ⟨ha, hi, hfi, h' | ⟨b', K, hb, hT, hal', hil', hK, hkm, hg⟩⟩ := h
  · omega
  · omega
theorem GI.back_or {T : List Thing} {N : List UInt8} {a i f : Nat} {back : Int} (h : GI T N a i back f) : back = -1 ∨ ∃ b : Nat, back = b := by
  obtain ⟨ha, hi, hfi, h' | ⟨b', K, hb, _⟩⟩ := h
  · exact .inl h'.1
  · exact .inr ⟨b', hb⟩
theorem GI.none_ {T : List Thing} {N : List UInt8} {a i f : Nat} (h : GI T N a i (-1) f) (hs : gm (T.drop a) (N.drop i) = false) : gm T N = false := by
  obtain ⟨ha, hi, hfi, h' | ⟨b', K, hb, _⟩⟩ := h
  · rw [h'.2.2, hs]
  · omega
theorem GI.over {T : List Thing} {N : List UInt8} {a i f b : Nat} (h : GI T N a i (b : Int) f) (hs : gm (T.drop a) (N.drop i) = false) (hf : N.length ≤ f) : gm T N = false := by
  obtain ⟨ha, hi, hfi, h' | ⟨b', K, hb, hT, hal', hil', hK, hkm, hg⟩⟩ := h
  · omega
  · rw [hg, List.drop_eq_nil_of_le hf, gm, hT, gm_km _ K _ hK]
    rw [show (N.drop i) = [] from List.drop_eq_nil_of_le (by omega)] at hs
    rw [List.drop_nil, hs, Bool.and_false]
end Go.Proofs.Ytafiadlkfjacnaa
