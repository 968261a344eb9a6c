/-
  codec.reader: what it is, and its methods' contracts.
-/
import Derived.Test.YtejneiakpeeamaaWText
namespace Go.Proofs.Ytejneiakpeeamaa
open Go.RowKit

/-- How far a reader is, and whether what it read may not be. -/
structure RS where
  at_ : Nat
  bad : Bool
def takeOk (L : List UInt8) (s : RS) (m : Nat) : Prop := s.bad = false ∧ m ≤ L.length - s.at_
instance (L : List UInt8) (s : RS) (m : Nat) : Decidable (takeOk L s m) := by unfold takeOk; exact inferInstance
def takeL (L : List UInt8) (s : RS) (m : Nat) : List UInt8 := if takeOk L s m then (L.drop s.at_).take m else []
def takeS (L : List UInt8) (s : RS) (m : Nat) : RS := if takeOk L s m then ⟨s.at_ + m, s.bad⟩ else ⟨s.at_, true⟩
theorem takeS_at {L : List UInt8} {s : RS} {m : Nat} (h : s.at_ ≤ L.length) : (takeS L s m).at_ ≤ L.length := by
  by_cases h2 : takeOk L s m
  · simp only [takeS, if_pos h2]; have := h2.2; omega
  · simp only [takeS, if_neg h2]; exact h
/-- A reader in block g. -/
def IsR (g : Nat) (A : Option Addr) (n c : Nat) (s : RS) (w : World) : Prop := Blk w g 62 #[.slice A n c, .int .i64 (s.at_ : Int), .bool s.bad]
theorem Reads.sub {w : World} {B n lo m : Nat} {A : Option Addr} {L : List UInt8} (h : Reads w B 1 A n (bv L)) (hm : lo + m ≤ n) (ad : Addr) (hA : A = some ad) : Reads w B 1 (some (ad.add lo)) m (bv ((L.drop lo).take m)) := by
  have hl : L.length = n := by have := h.1; simp [bv] at this; exact this
  refine ⟨by rw [bv_length, List.length_take, List.length_drop]; omega, fun h0 => ⟨_, rfl, ?_, fun j u hu => ?_⟩⟩
  · obtain ⟨ad', e, hlt, _⟩ := h.2 (by omega)
    rw [hA] at e; injection e with e; subst e
    rw [block_of_add]; exact hlt
  · obtain ⟨ad', e, hlt, hc⟩ := h.2 (by omega)
    rw [hA] at e; injection e with e; subst e
    rw [add_of_add]
    refine hc (lo + j) u ?_
    have hj : j < m := by have := (List.getElem?_eq_some_iff.1 hu).1; rw [bv_length, List.length_take] at this; omega
    simp only [bv, List.getElem?_map, List.getElem?_take, List.getElem?_drop] at hu ⊢
    rw [if_pos hj] at hu
    exact hu

theorem Reads.resliced {w : World} {B n c lo m : Nat} {A : Option Addr} {L : List UInt8} (h : Reads w B 1 A n (bv L)) (hm : lo + m ≤ n) (hc : n ≤ c) : Reads w B 1 (if c = lo then A else Option.map (fun x => x.add lo) A) m (bv ((L.drop lo).take m)) := by
  rcases Nat.eq_zero_or_pos m with h0 | h0
  · subst h0
    exact ⟨by simp [bv], fun h => absurd h (by omega)⟩
  · obtain ⟨ad, e, _, _⟩ := h.2 (by omega)
    subst e
    rw [if_neg (by omega)]
    exact h.sub hm ad rfl
theorem wk_set (g i a b : Nat) (v : Value) (w : World) : WK g none w (((w.drewN a).setCell ⟨g, i, none⟩ v).drewN b) none :=
  ⟨rfl, rfl, rfl, by simp [World.setCell, World.drewN], fun k _ hg _ => Below.heap_setCell (w.drewN a) ⟨g, i, none⟩ v k hg, .inl rfl⟩
set_option maxHeartbeats 1000000 in
set_option maxRecDepth 100000 in
theorem take_any (g : Nat) (A : Option Addr) (n c : Nat) (L : List UInt8) (s : RS) (m B : Nat) (w : World) (h : IsR g A n c s w) (hr : Reads w B 1 A n (bv L)) (hs : s.at_ ≤ n) (hBg : B ≤ g) (hn : n ≤ 140737488351232) (hm : m ≤ 140737488351232) (hnc : n ≤ c) (hc : c ≤ 9223372036854775807) :
    Calls Try.prog 36 #[.pointer (some ⟨g, 0, none⟩), .int .i64 (m : Int)] w fun e w' => ∃ A' c', e = .returned (.slice A' (takeL L s m).length c') ∧ Reads w' B 1 A' (takeL L s m).length (bv (takeL L s m)) ∧ IsR g A n c (takeS L s m) w' ∧ WK g none w w' none := by
  have hl : L.length = n := by have := hr.1; simp [bv] at this; exact this
  obtain ⟨at_, bad⟩ := s
  have c0 : w.cell? ⟨g, 0, none⟩ = some (.slice A n c) := Blk.cell h 0
  have c1 : w.cell? ⟨g, 1, none⟩ = some (.int .i64 (at_ : Int)) := Blk.cell h 1
  have c2 : w.cell? ⟨g, 2, none⟩ = some (.bool bad) := Blk.cell h 2
  have f1 := Blk.frozen h 1
  have f2 := Blk.frozen h 2
  have H := Lib.hid h
  have HL := Lib.hid hl
  have HR := Lib.hid hr
  clear h hl hr
  have hs' : at_ ≤ n := hs
  have hsub : IntKind.i64.wrap ((n : Int) - (at_ : Int)) = (n : Int) - (at_ : Int) := by rw [IntKind.wrap_i64]; omega
  go_enter Try.func36, Try.ntmps36
  cases bad with
  | true =>
    go_wp2
    go_quiet (fail)
    go_wp2
    go_ret
    have e : ¬ takeOk L ⟨at_, true⟩ m := fun h => by cases h.1
    rw [takeL, if_neg e, takeS, if_neg e]
    exact ⟨none, 0, rfl, Reads.none_, (H.out.drewN _).set_ 2 (.bool true), wk_set g 2 _ 0 _ w⟩
  | false =>
    by_cases hgt : m ≤ n - at_
    · have hlim : ¬ ((n : Int) - (at_ : Int) < (m : Int)) := by omega
      have e : takeOk L ⟨at_, false⟩ m := ⟨rfl, by rw [HL.out]; exact hgt⟩
      have e3 : takeS L ⟨at_, false⟩ m = ⟨at_ + m, false⟩ := by rw [takeS, if_pos e]
      have e4 : takeL L ⟨at_, false⟩ m = (L.drop at_).take m := by rw [takeL, if_pos e]
      have e5 : ((L.drop at_).take m).length = m := by rw [List.length_take, List.length_drop, HL.out]; omega
      rw [e3, e4]
      have E5 := Lib.hid e5
      have had1 : IntKind.i64.wrap ((at_ : Int) + (m : Int)) = (at_ : Int) + (m : Int) := by rw [IntKind.wrap_i64]; omega
      have had2 : IntKind.i64.wrap ((at_ : Int) + (m : Int) - (m : Int)) = (at_ : Int) := by rw [IntKind.wrap_i64]; omega
      clear e e3 e4 e5
      go_wp2
      go_quiet (fail)
      go_wp2
      go_quiet (fail)
      obtain ⟨A', hA'⟩ : ∃ A', A' = (if c = at_ then A else Option.map (fun x => x.add at_) A) := ⟨_, rfl⟩
      have hres := HR.out.resliced (lo := at_) (m := m) (by omega) hnc
      rw [← hA'] at hres ⊢
      have HRES := Lib.hid hres
      clear hA' hres
      go_wp2
      go_ret
      rw [E5.out]
      refine ⟨A', c - at_, by show Ending.returned (.slice A' (at_ + m - at_) (c - at_)) = _; rw [Nat.add_sub_cancel_left], ?_, ((H.out.drewN _).set_ 1 (.int .i64 ((at_ : Int) + (m : Int)))).drewN _, wk_set g 1 _ _ _ w⟩
      exact (HRES.out.drewN _).setCell (p := ⟨g, 1, none⟩) hBg _
    · have hlim : ((n : Int) - (at_ : Int) < (m : Int)) := by omega
      go_wp2
      go_quiet (fail)
      go_wp2
      go_ret
      have e : ¬ takeOk L ⟨at_, false⟩ m := fun h => hgt (by have := h.2; rw [HL.out] at this; exact this)
      rw [takeL, if_neg e, takeS, if_neg e]
      exact ⟨none, 0, rfl, Reads.none_, (H.out.drewN _).set_ 2 (.bool true), wk_set g 2 _ 0 _ w⟩
end Go.Proofs.Ytejneiakpeeamaa
