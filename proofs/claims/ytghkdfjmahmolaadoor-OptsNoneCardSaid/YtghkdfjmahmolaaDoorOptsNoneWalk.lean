/-
  OptsNone: the law's walk.
-/
import Derived.Test.YtghkdfjmahmolaaDoorOptsAlive
namespace Go.Proofs.YtghkdfjmahmolaaDoor
open Go.RowKit

set_option maxRecDepth 100000 in
set_option maxHeartbeats 4000000 in
theorem optsNone_walk (which : ByteArray) (A : Option Addr) (n c : Nat) (l : List (List UInt8)) (w : World) (hz : which.size ≤ 140737488351232) (hr : Reads w w.heap.size 1 A n (txv l)) (hn : n ≤ 140737488351232) (hnc : n ≤ c) (hs : ∀ k (h : k < l.length), l[k].length ≤ 140737488351232) :
    Calls Tryd.prog 7 #[.string which, .slice A n c] w fun e w' => e = .returned (.bool true) ∧ Below w.heap.size w w' := by
  obtain ⟨L, rfl⟩ : ∃ L, which = str L := ⟨_, str_of which⟩
  have hs0 := str_size L
  rw [hs0] at hz
  have hl : l.length = n := by have := hr.1; rw [txv_length] at this; omega
  have HL := Lib.hid hl
  have HS := Lib.hid hs
  clear hl hs
  go_enter Tryd.func7, Tryd.ntmps7
  go_wp2_with fail
  refine (alive_any w).mono ?_
  rintro e w1 ⟨rfl, hB1⟩
  have hr1 := (hr.below hB1).more hB1.size
  clear hr
  rcases l with _ | ⟨a, rest⟩
  · have hn0 : n = 0 := by have := HL.out; simp at this; omega
    subst hn0
    go_wp2_with fail
    refine (alive_any w1).mono ?_
    rintro e w2 ⟨rfl, hB2⟩
    go_wp2_with fail
    go_ret
    exact ⟨rfl, below_then hB1 hB1.size hB2⟩
  have hn1 : 1 ≤ n := by have := HL.out; simp at this; omega
  have hn0 : ((n : Int) == 0) = false := by simp; omega
  by_cases hbig : 256 < n
  · have hbi : decide ((256 : Int) < (n : Int)) = true := decide_eq_true (by omega)
    go_wp2_with fail
    refine (alive_any w1).mono ?_
    rintro e w2 ⟨rfl, hB2⟩
    go_wp2_with fail
    go_ret
    exact ⟨rfl, below_then hB1 hB1.size hB2⟩
  have hbi : decide ((256 : Int) < (n : Int)) = false := decide_eq_false (by omega)
  obtain ⟨ad, u, rfl, had, hu, hcell⟩ := hr1.at_ (show 0 < n by omega)
  rw [txv_at (a :: rest) 0 (by simp)] at hu
  injection hu with hu
  subst hu
  have hca : w1.cell? ad = some (.string (str a)) := by simpa [Addr.add] using hcell
  have hsa : (str a).size = a.length := str_size a
  have ha47 : a.length ≤ 140737488351232 := HS.out 0 (by simp)
  have hnI : (0 : Int) < (n : Int) := by omega
  clear hcell
  cases hi : isOpt a with
  | true =>
    obtain ⟨y, r, rfl⟩ : ∃ y r, a = 45 :: y :: r := by
      rcases a with _ | ⟨x, _ | ⟨y, r⟩⟩
      · cases hi
      · cases hi
      · have hx : x = 45 := of_decide_eq_true hi
        exact ⟨y, r, by rw [hx]⟩
    have hgx : ∀ h : 0 < (str (45 :: y :: r)).size, (str (45 :: y :: r))[0]'h = 45 := fun _ => rfl
    have hd1 : decide ((1 : Int) < ((45 :: y :: r).length : Int)) = true := decide_eq_true (by simp; omega)
    have hlen : 1 < (45 :: y :: r).length := by simp
    obtain ⟨a, ha⟩ : ∃ a, a = 45 :: y :: r := ⟨_, rfl⟩
    rw [← ha] at hlen hgx hd1 hca hsa ha47
    clear ha hi hr1
    go_wp2_with fail
    refine (alive_any w1).mono ?_
    rintro e w2 ⟨rfl, hB2⟩
    go_wp2_with fail
    go_ret
    exact ⟨rfl, below_then hB1 hB1.size hB2⟩
  | false =>
    have HI := Lib.hid hi
    clear hi
    have hcase : a.length ≤ 1 ∨ ∃ x y r, a = x :: y :: r ∧ x ≠ 45 := by
      rcases a with _ | ⟨x, _ | ⟨y, r⟩⟩
      · exact .inl (by simp)
      · exact .inl (by simp)
      · exact .inr ⟨x, y, r, rfl, fun e => by have h := HI.out; rw [e] at h; cases h⟩
    by_cases hw : 2000 < L.length
    · have hwI : decide ((2000 : Int) < (L.length : Int)) = true := decide_eq_true (by omega)
      rcases hcase with h1 | ⟨x, y, r, rfl, hx⟩
      · have hd1 : decide ((1 : Int) < (a.length : Int)) = false := decide_eq_false (by omega)
        go_wp2_with fail
        refine (alive_any w1).mono ?_
        rintro e w2 ⟨rfl, hB2⟩
        go_wp2_with fail
        go_ret
        exact ⟨rfl, below_then hB1 hB1.size hB2⟩
      · have hgx : ∀ h : 0 < (str (x :: y :: r)).size, (str (x :: y :: r))[0]'h = x := fun _ => rfl
        have hd1 : decide ((1 : Int) < ((x :: y :: r).length : Int)) = true := decide_eq_true (by simp; omega)
        have hlen : 1 < (x :: y :: r).length := by simp
        have e5 : ((x.toNat : Int) == 45) = false := u8_lit x 45 (by omega) hx
        obtain ⟨a, ha⟩ : ∃ a, a = x :: y :: r := ⟨_, rfl⟩
        rw [← ha] at hlen hgx hd1 hca hsa ha47
        clear ha hr1 hx
        go_wp2_with fail
        refine (alive_any w1).mono ?_
        rintro e w2 ⟨rfl, hB2⟩
        go_wp2_with fail
        go_ret
        exact ⟨rfl, below_then hB1 hB1.size hB2⟩
    · have hwI : decide ((2000 : Int) < (L.length : Int)) = false := decide_eq_false (by omega)
      have hV : optsV L (a :: rest) = ([], [], 1) ∨ optsV L (a :: rest) = ([], a :: rest, 0) := by
        unfold optsV
        cases lettersV L with
        | none => exact .inl rfl
        | some es =>
          right
          simp only
          rw [if_neg (by rw [HL.out]; omega), parseW_left es a rest HI.out]
      have HV := Lib.hid hV
      have HR := Lib.hid hr1
      clear hV hr1
      rcases hcase with h1 | ⟨x, y, r, rfl, hx⟩
      · have hd1 : decide ((1 : Int) < (a.length : Int)) = false := decide_eq_false (by omega)
        have hfit : Fits (a :: rest) := .inr ⟨a, rest, rfl, HI.out⟩
        have HF := Lib.hid hfit
        clear hfit
        go_wp2_with fail
        rcases HV.out with hV | hV
        · refine (parse_use L (a :: rest) _ _ _ hV (some ad) n c w1 (by omega) HR.out hnc hn HF.out).mono ?_
          rintro e w2 ⟨A1, c1, A2, c2, rfl, -, -, hB2⟩
          go_wp2_with fail
          go_ret
          exact ⟨rfl, below_then hB1 hB1.size hB2⟩
        · refine (parse_use L (a :: rest) _ _ _ hV (some ad) n c w1 (by omega) HR.out hnc hn HF.out).mono ?_
          rintro e w2 ⟨A1, c1, A2, c2, rfl, -, r2, hB2⟩
          rw [HL.out] at r2 ⊢
          have hr2 := (HR.out.below hB2).more hB2.size
          go_wp2_with fail
          refine (sameTexts_any A2 (some ad) n c2 c w2.heap.size (a :: rest) w2 r2 hr2 hn).mono ?_
          rintro e w3 ⟨rfl, hB3⟩
          go_wp2_with fail
          go_ret
          exact ⟨rfl, below_then (below_then hB1 hB1.size hB2) (below_then hB1 hB1.size hB2).size hB3⟩
      · have hgx : ∀ h : 0 < (str (x :: y :: r)).size, (str (x :: y :: r))[0]'h = x := fun _ => rfl
        have hd1 : decide ((1 : Int) < ((x :: y :: r).length : Int)) = true := decide_eq_true (by simp; omega)
        have hlen : 1 < (x :: y :: r).length := by simp
        have e5 : ((x.toNat : Int) == 45) = false := u8_lit x 45 (by omega) hx
        obtain ⟨a, ha⟩ : ∃ a, a = x :: y :: r := ⟨_, rfl⟩
        rw [← ha] at hlen hgx hd1 hca hsa ha47 HI HV HR HL
        have hfit : Fits (a :: rest) := .inr ⟨a, rest, rfl, HI.out⟩
        have HF := Lib.hid hfit
        clear ha hx hfit
        go_wp2_with fail
        rcases HV.out with hV | hV
        · refine (parse_use L (a :: rest) _ _ _ hV (some ad) n c w1 (by omega) HR.out hnc hn HF.out).mono ?_
          rintro e w2 ⟨A1, c1, A2, c2, rfl, -, -, hB2⟩
          go_wp2_with fail
          go_ret
          exact ⟨rfl, below_then hB1 hB1.size hB2⟩
        · refine (parse_use L (a :: rest) _ _ _ hV (some ad) n c w1 (by omega) HR.out hnc hn HF.out).mono ?_
          rintro e w2 ⟨A1, c1, A2, c2, rfl, -, r2, hB2⟩
          rw [HL.out] at r2 ⊢
          have hr2 := (HR.out.below hB2).more hB2.size
          go_wp2_with fail
          refine (sameTexts_any A2 (some ad) n c2 c w2.heap.size (a :: rest) w2 r2 hr2 hn).mono ?_
          rintro e w3 ⟨rfl, hB3⟩
          go_wp2_with fail
          go_ret
          exact ⟨rfl, below_then (below_then hB1 hB1.size hB2) (below_then hB1 hB1.size hB2).size hB3⟩
end Go.Proofs.YtghkdfjmahmolaaDoor
