/-
  opts.Parse: plain lists, no program: which letters there are (lettersV), what words tell (parseW).
-/
import Derived.Test.YtghkdfjmahmolaaDoorBase
namespace Go.Proofs.YtghkdfjmahmolaaDoor

abbrev Told := List (UInt8 × Bool)
abbrev FlagL := UInt8 × List UInt8
def isLet (c : UInt8) : Bool := (decide (97 ≤ (c ||| 32).toNat) && decide ((c ||| 32).toNat ≤ 122)) || (decide (48 ≤ c.toNat) && decide (c.toNat ≤ 57))
def look : Told → UInt8 → Option Bool
  | [], _ => none
  | x :: es, c => if c = x.1 then some x.2 else look es c
def setTold : Told → UInt8 → Told
  | [], _ => []
  | x :: es, c => if c = x.1 then (x.1, true) :: es else x :: setTold es c
def letStep (es : Told) (last c : UInt8) : Option (Told × UInt8) :=
  if c = 58 ∧ look es last = some false then some (setTold es last, 0)
  else if look es c ≠ none ∨ isLet c = false then none
  else some (es ++ [(c, false)], c)
def lettersGo : Told → UInt8 → List UInt8 → Option Told
  | es, _, [] => some es
  | es, last, c :: r => match letStep es last c with
    | none => none
    | some x => lettersGo x.1 x.2 r
def lettersV (s : List UInt8) : Option Told := lettersGo [] 0 s

/-- The letters of a word: what is told, and the letter that wants the next word. -/
def wordV (es : Told) : List UInt8 → Option (List FlagL × Option UInt8)
  | [] => some ([], none)
  | c :: r => match look es c with
    | none => none
    | some false => (wordV es r).map fun x => ((c, []) :: x.1, x.2)
    | some true => if r = [] then some ([], some c) else some ([(c, r)], none)
def isOpt : List UInt8 → Bool
  | a :: _ :: _ => decide (a = 45)
  | _ => false
def parseW (es : Told) : List (List UInt8) → Option (List FlagL × List (List UInt8))
  | [] => some ([], [])
  | w :: ws =>
    if isOpt w = true then
      if w = [45, 45] then some ([], ws)
      else match wordV es w.tail with
        | none => none
        | some (fs, none) => (parseW es ws).map fun x => (fs ++ x.1, x.2)
        | some (fs, some c) => match ws with
          | [] => none
          | a :: ws' => (parseW es ws').map fun x => (fs ++ (c, a) :: x.1, x.2)
    else some ([], w :: ws)
/-- opts.Parse: the flags, what is left, the number of the fault. -/
def optsV (which : List UInt8) (args : List (List UInt8)) : List FlagL × List (List UInt8) × Nat :=
  match lettersV which with
  | none => ([], [], 1)
  | some es => if 256 < args.length then ([], [], 3) else match parseW es args with
    | none => ([], [], 4)
    | some x => (x.1, x.2, 0)
theorem alive1 : optsV [97, 110, 58] [[45, 97, 110], [53], [45, 45], [45, 97]] = ([(97, []), (110, [53])], [[45, 97]], 0) := by decide
theorem alive2 : optsV [97, 110, 58] [[45, 97], [45, 110, 53], [120], [45, 97]] = ([(97, []), (110, [53])], [[120], [45, 97]], 0) := by decide
theorem alive3 : optsV [97, 110, 58] [[45, 98]] = ([], [], 4) := by decide
theorem alive4 : optsV [97, 97] [] = ([], [], 1) := by decide

/-! ### Laws -/
theorem wordV_all (es : Told) : ∀ cs : List UInt8, (∀ c ∈ cs, look es c = some false) → wordV es cs = some (cs.map fun c => (c, []), none)
  | [], _ => rfl
  | c :: cs, h => by
    have ih := wordV_all es cs (fun x hx => h x (List.mem_cons_of_mem _ hx))
    have h0 := h c (List.mem_cons_self ..)
    show (match look es c with | none => none | some false => (wordV es cs).map fun (x : List FlagL × Option UInt8) => ((c, []) :: x.1, x.2) | some true => if cs = [] then some ([], some c) else some ([(c, cs)], none)) = _
    rw [h0, ih]
    rfl
theorem wordV_told (es : Told) (c : UInt8) (r : List UInt8) (hc : look es c = some true) : ∀ cs : List UInt8, (∀ x ∈ cs, look es x = some false) →
    wordV es (cs ++ c :: r) = some (if r = [] then (cs.map (fun x => (x, [])), some c) else (cs.map (fun x => (x, [])) ++ [(c, r)], none))
  | [], _ => by
    show (match look es c with | none => none | some false => (wordV es r).map fun (x : List FlagL × Option UInt8) => ((c, []) :: x.1, x.2) | some true => if r = [] then some ([], some c) else some ([(c, r)], none)) = _
    rw [hc]
    by_cases hr : r = []
    · simp [hr]
    · simp [hr]
  | x :: cs, h => by
    have ih := wordV_told es c r hc cs (fun y hy => h y (List.mem_cons_of_mem _ hy))
    have h0 := h x (List.mem_cons_self ..)
    show (match look es x with | none => none | some false => (wordV es (cs ++ c :: r)).map fun (y : List FlagL × Option UInt8) => ((x, []) :: y.1, y.2) | some true => if (cs ++ c :: r) = [] then some ([], some x) else some ([(x, cs ++ c :: r)], none)) = _
    rw [h0, ih]
    by_cases hr : r = []
    · simp [hr]
    · simp [hr]
theorem parseW_left (es : Told) (w : List UInt8) (ws : List (List UInt8)) (h : isOpt w = false) : parseW es (w :: ws) = some ([], w :: ws) := by
  unfold parseW
  rw [h]
  rfl
theorem parseW_word (es : Told) (w : List UInt8) (ws : List (List UInt8)) (fs : List FlagL) (h : isOpt w = true) (h2 : w ≠ [45, 45]) (hw : wordV es w.tail = some (fs, none)) :
    parseW es (w :: ws) = (parseW es ws).map fun x => (fs ++ x.1, x.2) := by
  conv => lhs; unfold parseW
  rw [if_pos h, if_neg h2, hw]
theorem parseW_next (es : Told) (w a : List UInt8) (ws : List (List UInt8)) (fs : List FlagL) (c : UInt8) (h : isOpt w = true) (h2 : w ≠ [45, 45]) (hw : wordV es w.tail = some (fs, some c)) :
    parseW es (w :: a :: ws) = (parseW es ws).map fun x => (fs ++ (c, a) :: x.1, x.2) := by
  conv => lhs; unfold parseW
  rw [if_pos h, if_neg h2, hw]
theorem parseW_want (es : Told) (w : List UInt8) (fs : List FlagL) (c : UInt8) (h : isOpt w = true) (h2 : w ≠ [45, 45]) (hw : wordV es w.tail = some (fs, some c)) :
    parseW es [w] = none := by
  conv => lhs; unfold parseW
  rw [if_pos h, if_neg h2, hw]
theorem parseW_bad (es : Told) (w : List UInt8) (ws : List (List UInt8)) (h : isOpt w = true) (h2 : w ≠ [45, 45]) (hw : wordV es w.tail = none) : parseW es (w :: ws) = none := by
  conv => lhs; unfold parseW
  rw [if_pos h, if_neg h2, hw]
theorem parseW_dash (es : Told) (ws : List (List UInt8)) : parseW es ([45, 45] :: ws) = some ([], ws) := by
  unfold parseW
  rw [if_pos (by decide), if_pos rfl]
/-- Words that are all options, and a -- behind them. -/
theorem parseW_end (es : Told) (rest : List (List UInt8)) : ∀ (n : Nat) (args : List (List UInt8)) (fs : List FlagL), args.length ≤ n → parseW es args = some (fs, []) → (∀ w ∈ args, w ≠ [45, 45]) →
    parseW es (args ++ [45, 45] :: rest) = some (fs, rest)
  | n, [], fs, _, h, _ => by
    have : fs = [] := by
      have h2 : some (([] : List FlagL), ([] : List (List UInt8))) = some (fs, []) := h
      injection h2 with h2
      injection h2 with h2
      exact h2.symm
    rw [this]
    exact parseW_dash es rest
  | 0, w :: ws, _, hn, _, _ => by simp at hn
  | n + 1, w :: ws, fs, hn, h, hd => by
    have hw2 := hd w (List.mem_cons_self ..)
    cases hi : isOpt w with
    | false =>
      rw [parseW_left es w ws hi] at h
      injection h with h
      injection h with h1 h2
      cases h2
    | true =>
      cases hv : wordV es w.tail with
      | none => rw [parseW_bad es w ws hi hw2 hv] at h; cases h
      | some x =>
        obtain ⟨f, o⟩ := x
        cases o with
        | none =>
          rw [parseW_word es w ws f hi hw2 hv] at h
          rw [List.cons_append, parseW_word es w _ f hi hw2 hv]
          cases hp : parseW es ws with
          | none => rw [hp] at h; cases h
          | some y =>
            rw [hp] at h
            simp only [Option.map_some, Option.some.injEq, Prod.mk.injEq] at h
            have ih := parseW_end es rest n ws y.1 (by simpa using hn) (by rw [hp, ← h.2]) (fun v hv => hd v (List.mem_cons_of_mem _ hv))
            rw [ih]
            simp [h.1]
        | some c =>
          cases ws with
          | nil => rw [parseW_want es w f c hi hw2 hv] at h; cases h
          | cons a ws =>
            rw [parseW_next es w a ws f c hi hw2 hv] at h
            rw [List.cons_append, List.cons_append, parseW_next es w a _ f c hi hw2 hv]
            cases hp : parseW es ws with
            | none => rw [hp] at h; cases h
            | some y =>
              rw [hp] at h
              simp only [Option.map_some, Option.some.injEq, Prod.mk.injEq] at h
              have ih := parseW_end es rest n ws y.1 (by simp at hn; omega) (by rw [hp, ← h.2]) (fun v hv => hd v (List.mem_cons_of_mem _ (List.mem_cons_of_mem _ hv)))
              rw [ih]
              simp [h.1]
/-- Letters with which nothing is told, each in a word of its own. -/
theorem parseW_each (es : Told) (rest : List (List UInt8)) : ∀ cs : List UInt8, (∀ c ∈ cs, look es c = some false) → look es 45 = none →
    parseW es (cs.map (fun c => [45, c]) ++ rest) = (parseW es rest).map fun x => (cs.map (fun c => (c, [])) ++ x.1, x.2)
  | [], _, _ => by simp
  | c :: cs, h, h45 => by
    have ih := parseW_each es rest cs (fun x hx => h x (List.mem_cons_of_mem _ hx)) h45
    have h0 := h c (List.mem_cons_self ..)
    have hne : ([45, c] : List UInt8) ≠ [45, 45] := by
      intro e
      have e2 : c = 45 := by simpa using e
      rw [e2, h45] at h0
      cases h0
    have hw : wordV es ([45, c] : List UInt8).tail = some ([(c, [])], none) := wordV_all es [c] (fun x hx => by rw [List.mem_singleton.1 hx]; exact h0)
    rw [List.map_cons, List.cons_append, parseW_word es [45, c] _ _ rfl hne hw, ih]
    cases parseW es rest with
    | none => rfl
    | some y => simp
end Go.Proofs.YtghkdfjmahmolaaDoor
