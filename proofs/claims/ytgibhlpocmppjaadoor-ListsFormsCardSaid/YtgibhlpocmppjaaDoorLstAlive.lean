/-
  The law's own check of some answers: its contract.
-/
import Derived.Test.YtgibhlpocmppjaaDoorLstBackPlain
import Derived.Test.YtgibhlpocmppjaaDoorListsTellsWalk
namespace Go.Proofs.YtgibhlpocmppjaaDoor
open Go.RowKit

theorem own_capk {w : World} {base n c k : Nat} {e : TypeId} {A : Option Addr} {xs : List Value} (h : w.ownsRow base e k (.slice A n c) n xs) : n ≤ c ∧ c ≤ 9223372036854775807 := by
  rcases h.2 with ⟨e1, h0⟩ | ⟨g, cap, cur, hv, _, _, hnc, hcm, _⟩
  · injection e1 with _ h1 h2; omega
  · injection hv with _ _ h2; subst h2; exact ⟨hnc, hcm⟩
theorem Reads.takeR {w : World} {B n m : Nat} {A : Option Addr} {l : List Rng} (h : Reads w B 2 A n (rngv l)) (hm : m ≤ n) : Reads w B 2 A m (rngv (l.take m)) := by
  have hl : l.length = n := by have := h.1; rw [sv_length _ 2 rng1_len] at this; omega
  refine ⟨by rw [sv_length _ 2 rng1_len, List.length_take]; omega, fun h0 => ?_⟩
  obtain ⟨ad, e, hlt, hc⟩ := h.2 (by omega)
  refine ⟨ad, e, hlt, fun j u hu => hc j u ?_⟩
  have hj : j < m * 2 := by have := (List.getElem?_eq_some_iff.1 hu).1; rw [sv_length _ 2 rng1_len, List.length_take] at this; omega
  have e2 : rngv l = rngv (l.take m) ++ rngv (l.drop m) := by rw [← sv_append, List.take_append_drop]
  rw [e2, List.getElem?_append_left (by rw [sv_length _ 2 rng1_len, List.length_take]; omega)]
  exact hu
theorem parse_some (B : Nat) (L : List UInt8) (rs : List Rng) (w : World) (hE : Env B w) (hl : L.length ≤ 4096) (hp : parseV L = some rs) :
    Calls Tryd.prog 16 #[.string (str L)] w fun e w' => ∃ A c, e = .returned (.tuple #[.slice A rs.length c, .int .i64 0]) ∧ w'.ownsRow w.heap.size 41 2 (.slice A rs.length c) rs.length (rngv rs) ∧ Below w.heap.size w w' :=
  (parse_any B L w hE).mono fun e w' ⟨h, hB⟩ => by
    unfold ParseIs at h
    rw [if_neg (by omega), hp] at h
    obtain ⟨v, he, ho⟩ := h
    obtain ⟨A, c, rfl⟩ := own_slice ho
    exact ⟨A, c, he, ho, hB⟩
theorem parse_none (B : Nat) (L : List UInt8) (w : World) (hE : Env B w) (hl : L.length ≤ 4096) (hp : parseV L = none) :
    Calls Tryd.prog 16 #[.string (str L)] w fun e w' => e = .returned (.tuple #[.slice none 0 0, .int .i64 5]) ∧ Below w.heap.size w w' :=
  (parse_any B L w hE).mono fun e w' ⟨h, hB⟩ => by
    unfold ParseIs at h
    rw [if_neg (by omega), hp] at h
    exact ⟨h, hB⟩
theorem parse_big (B : Nat) (L : List UInt8) (w : World) (hE : Env B w) (hl : 4096 < L.length) :
    Calls Tryd.prog 16 #[.string (str L)] w fun e w' => e = .returned (.tuple #[.slice none 0 0, .int .i64 3]) ∧ Below w.heap.size w w' :=
  (parse_any B L w hE).mono fun e w' ⟨h, hB⟩ => by
    unfold ParseIs at h
    rw [if_pos hl] at h
    exact ⟨h, hB⟩
theorem text_ok (B : Nat) (A : Option Addr) (n c : Nat) (l : List Rng) (w : World) (hr : Reads w w.heap.size 2 A n (rngv l)) (hn : n ≤ 140737488351232) (hE : Env B w) :
    Calls Tryd.prog 10 #[.slice A n c] w fun e w' => e = .returned (.tuple #[.string (str (textV l).1), .int .i64 (textV l).2]) ∧ Below w.heap.size w w' :=
  (text_any B A n c l w hr hn hE.tab hE.sz).mono fun _ _ ⟨h, hB⟩ => ⟨textIs_eq h, hB⟩

theorem alive_parse : parseV [49, 44, 51, 45, 53, 44, 45, 50, 44, 55, 45] = some [⟨1, 1⟩, ⟨3, 5⟩, ⟨1, 2⟩, ⟨7, 0⟩] := by kernel_rfl
theorem alive_none : parseV [53, 45, 51] = none := by kernel_rfl
theorem itoa_one (n : Nat) (h1 : 1 ≤ n) (h : n < 10) : Lib.itoa (n : Int) = [UInt8.ofNat (48 + n)] := by
  rw [itoa_pos _ (by omega), show (n : Int).toNat = n from rfl, Lib.decDigits_one h]
theorem alive_cat : catT [⟨1, 1⟩, ⟨3, 5⟩, ⟨7, 0⟩] = [49, 44, 51, 45, 53, 44, 55, 45, 44] := by
  have e1 : Lib.itoa 1 = [49] := itoa_one 1 (by omega) (by omega)
  have e3 : Lib.itoa 3 = [51] := itoa_one 3 (by omega) (by omega)
  have e5 : Lib.itoa 5 = [53] := itoa_one 5 (by omega) (by omega)
  have e7 : Lib.itoa 7 = [55] := itoa_one 7 (by omega) (by omega)
  simp [catT, one1, rngT, e1, e3, e5, e7]
theorem alive_text : textV [⟨1, 1⟩, ⟨3, 5⟩, ⟨7, 0⟩] = ([49, 44, 51, 45, 53, 44, 55, 45], 0) := by
  unfold textV joinT
  rw [if_neg (by rintro (h | h); · cases h
                 · exact absurd h (by decide)), alive_cat]
  rfl
theorem nil_text : textV [] = ([], 1) := rfl
end Go.Proofs.YtgibhlpocmppjaaDoor
