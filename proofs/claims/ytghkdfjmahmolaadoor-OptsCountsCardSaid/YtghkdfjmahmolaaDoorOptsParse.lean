/-
  opts.Parse: its contract.
-/
import Derived.Test.YtghkdfjmahmolaaDoorOptsNext
import Derived.Test.YtghkdfjmahmolaaDoorFlag1
import Derived.Test.YtghkdfjmahmolaaDoorShelf
namespace Go.Proofs.YtghkdfjmahmolaaDoor
open Go.RowKit

/-- Flags of lists, as they lie. -/
def flv (l : List FlagL) : List Value := fv (l.map fun x => (x.1, str x.2))
theorem flv_append (l m : List FlagL) : flv (l ++ m) = flv l ++ flv m := by unfold flv; rw [List.map_append, fv_append]
theorem flv_one (c : UInt8) (x : List UInt8) : flv [(c, x)] = [.int .u8 (c.toNat : Int), .string (str x)] := rfl
theorem flv_length (l : List FlagL) : (flv l).length = l.length * 2 := by unfold flv; rw [fv_length, List.length_map]
theorem txv_one (l : List (List UInt8)) : ∀ u ∈ txv l, u.oneCell' = true := by
  intro u hu
  simp only [txv, List.mem_map] at hu
  obtain ⟨x, _, rfl⟩ := hu
  rfl
theorem str_ne (a b : List UInt8) (h : a ≠ b) : ((str a).toList == (str b).toList) = false := by
  rw [ByteArray.toList_eq, ByteArray.toList_eq]
  simpa [str] using h
theorem str_beq (a : List UInt8) : ((str a).toList == (str a).toList) = true := by simp
theorem spot_none {w : World} {ad : Addr} {u : Value} (h : w.cell? ad = some u) : ad = ⟨ad.block, ad.off, none⟩ := by
  obtain ⟨b, o, sp⟩ := ad
  cases sp with
  | none => rfl
  | some x =>
    exfalso
    unfold World.cell? at h
    simp only [Option.isSome_some, if_true] at h
    split at h <;> cases h
/-- slices.Clone at texts. -/
theorem clone_any (A : Option Addr) (m c B : Nat) (l : List (List UInt8)) (w : World) (hr : Reads w B 1 A m (txv l)) (hm : m ≤ 4096) :
    Calls Tryd.prog 30 #[.slice A m c] w fun e w' => (∃ v, e = .returned v ∧ w'.ownsRow w.heap.size 9 1 v m (txv l)) ∧ Below w.heap.size w w' := by
  have hl : l.length = m := by have := hr.1; rw [txv_length] at this; omega
  rcases Nat.eq_zero_or_pos m with h0 | h0
  · subst h0
    obtain rfl : l = [] := List.eq_nil_of_length_eq_zero hl
    cases A with
    | none => exact (Go.Proofs.Tryd.slices_Clone_string_nil 0 c w).mono fun e w' h => ⟨⟨_, h.1, World.ownsRow_nil _ _ _ _⟩, by rw [h.2]; exact Below.refl _ _⟩
    | some a => exact (Go.Proofs.Tryd.slices_Clone_string_zero a c w).mono fun e w' ⟨v, h1, h2, _, h4⟩ => ⟨⟨v, h1, h2⟩, h4⟩
  · obtain ⟨ad, rfl, had, hc⟩ := hr.2 h0
    have hc0 := hc 0 _ (txv_at l 0 (by omega))
    have hsp := spot_none (show w.cell? ad = _ by simpa [Addr.add] using hc0)
    obtain ⟨b, off, sp⟩ := ad
    injection hsp with _ _ hsp
    subst hsp
    refine (Go.Proofs.Tryd.slices_Clone_string b off m c (l.map str) w (by rw [List.length_map]; omega) (by omega) (fun j hj => ?_)).mono fun e w' ⟨v, h1, h2, _, h4⟩ => ⟨⟨v, h1, ?_⟩, h4⟩
    · rw [List.length_map] at hj
      have := hc j _ (txv_at l j hj)
      rw [Addr.add_lit] at this
      rw [this, List.getD_eq_getElem?_getD, List.getElem?_map, List.getElem?_eq_getElem hj]
      rfl
    · have e1 : ((l.map str).take m).map Value.string = txv l := by
        rw [List.take_of_length_le (by rw [List.length_map]; omega), List.map_map]
        rfl
      rwa [e1] at h2
def OptsIs (which : List UInt8) (args : List (List UInt8)) (B : Nat) (w' : World) (e : Ending) : Prop :=
  ∃ v v', e = .returned (.tuple #[v, v', .int .i64 ((optsV which args).2.2 : Nat)]) ∧ w'.ownsRow B 38 2 v (optsV which args).1.length (flv (optsV which args).1) ∧ w'.ownsRow B 9 1 v' (optsV which args).2.1.length (txv (optsV which args).2.1)
theorem OptsIs.no {which : List UInt8} {args : List (List UInt8)} {B : Nat} {w' : World} {n : Nat} (h : optsV which args = ([], [], n)) : OptsIs which args B w' (.returned (.tuple #[.slice none 0 0, .slice none 0 0, .int .i64 (n : Int)])) := by
  unfold OptsIs
  rw [h]
  exact ⟨_, _, rfl, World.ownsRow_nil _ _ _ _, World.ownsRow_nil _ _ _ _⟩
theorem OptsIs.yes {which : List UInt8} {args rest : List (List UInt8)} {fl : List FlagL} {B : Nat} {w' : World} {v v' : Value} (h : optsV which args = (fl, rest, 0)) (h1 : w'.ownsRow B 38 2 v fl.length (flv fl)) (h2 : w'.ownsRow B 9 1 v' rest.length (txv rest)) :
    OptsIs which args B w' (.returned (.tuple #[v, v', .int .i64 0])) := by
  unfold OptsIs
  rw [h]
  exact ⟨_, _, rfl, h1, h2⟩
def sumL (l : List (List UInt8)) : Nat := (l.map List.length).sum
theorem sumL_cons (a : List UInt8) (l : List (List UInt8)) : sumL (a :: l) = a.length + sumL l := by simp [sumL]
def pre (fl : List FlagL) (x : Option (List FlagL × List (List UInt8))) : Option (List FlagL × List (List UInt8)) := x.map fun y => (fl ++ y.1, y.2)
theorem pre_pre (a b : List FlagL) (x : Option (List FlagL × List (List UInt8))) : pre a (pre b x) = pre (a ++ b) x := by
  cases x with
  | none => rfl
  | some y => simp [pre]
theorem pre_word {es : Told} {w : List UInt8} {ws : List (List UInt8)} {fs : List FlagL} (h : isOpt w = true) (h2 : w ≠ [45, 45]) (hw : wordV es w.tail = some (fs, none)) : parseW es (w :: ws) = pre fs (parseW es ws) := parseW_word es w ws fs h h2 hw
theorem pre_next {es : Told} {w a : List UInt8} {ws : List (List UInt8)} {fs : List FlagL} {c : UInt8} (h : isOpt w = true) (h2 : w ≠ [45, 45]) (hw : wordV es w.tail = some (fs, some c)) : parseW es (w :: a :: ws) = pre (fs ++ [(c, a)]) (parseW es ws) := by
  rw [parseW_next es w a ws fs c h h2 hw]
  unfold pre
  cases parseW es ws <;> simp
def preW (ds : List FlagL) (x : Option (List FlagL × Option UInt8)) : Option (List FlagL × Option UInt8) := x.map fun y => (ds ++ y.1, y.2)
theorem wordV_cons (es : Told) (c : UInt8) (r : List UInt8) : wordV es (c :: r) = match look es c with
    | none => none
    | some false => preW [(c, [])] (wordV es r)
    | some true => if r = [] then some ([], some c) else some ([(c, r)], none) := rfl
theorem preW_preW (a b : List FlagL) (x : Option (List FlagL × Option UInt8)) : preW a (preW b x) = preW (a ++ b) x := by
  cases x with
  | none => rfl
  | some y => simp [preW]
end Go.Proofs.YtghkdfjmahmolaaDoor
