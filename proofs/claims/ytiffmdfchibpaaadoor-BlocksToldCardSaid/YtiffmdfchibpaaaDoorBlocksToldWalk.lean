/-
  BlocksTold: the law's walk.
-/
import Derived.Test.YtiffmdfchibpaaaDoorBlkAlive
import Derived.Test.YtiffmdfchibpaaaDoorBlkTold
set_option linter.unusedVariables false
set_option linter.unusedSimpArgs false
namespace Go.Proofs.YtiffmdfchibpaaaDoor
open Go.RowKit

theorem u64_of {a : Int} (h : (Lit.int .u64 a).wf = true) : ∃ x : Nat, a = (x : Int) ∧ x < 18446744073709551616 := by
  have hmin : IntKind.u64.min = 0 := rfl
  have hmax : IntKind.u64.max = 18446744073709551615 := rfl
  simp only [Lit.wf, Bool.and_eq_true, decide_eq_true_eq, hmin, hmax] at h
  exact ⟨a.toNat, by omega, by omega⟩
set_option maxRecDepth 100000 in
set_option maxHeartbeats 8000000 in
theorem blocksTold_walk (u : Nat) (w : World) (hu : u < 18446744073709551616) :
    Calls Tryd.prog 8 #[.int .u64 (u : Int)] w fun e w' => e = .returned (.bool true) ∧ Below w.heap.size w w' := by
  have hlen : (Lib.decDigits u).length ≤ 20 := digits_lenD 19 _ (by omega)
  have hs := str_size (Lib.decDigits u)
  obtain ⟨D, hD⟩ : ∃ D, D = Lib.decDigits u := ⟨_, rfl⟩
  have HD := Lib.hid hD
  rw [← hD] at hlen hs
  have hsz : (str D).size ≤ 20 := by omega
  have hk : str D ++ { data := #[107] } = str (D ++ [107]) := str_appD D [107]
  have hb : str D ++ { data := #[98] } = str (D ++ [98]) := str_appD D [98]
  clear hD hs
  go_enter Tryd.func8, Tryd.ntmps8
  go_wp2_with fail
  refine (lawDigits_any u w hu).mono ?_
  rintro e w1 ⟨he, rfl⟩
  rw [← HD.out] at he
  subst he
  go_wp2_with fail
  refine (size_any D _ (by omega)).mono ?_
  rintro e w1 ⟨he, hB1⟩
  rw [HD.out, sizeB_dig] at he
  obtain ⟨va, oa, rfl, Fa⟩ := told_is u 1 (by decide) e he
  clear he
  go_wp2_with fail
  refine (size_any (D ++ [107]) _ (by simp; omega)).mono ?_
  rintro e w2 ⟨he, hB2⟩
  rw [HD.out, sizeB_k] at he
  obtain ⟨vb, ob, rfl, Fb⟩ := told_is u 1024 (by decide) e he
  clear he
  have b2 := below_then hB1 hB1.size hB2
  go_wp2_with fail
  refine (size_any (D ++ [98]) _ (by simp; omega)).mono ?_
  rintro e w3 ⟨he, hB3⟩
  rw [HD.out, sizeB_b] at he
  obtain ⟨vc, oc, rfl, Fc⟩ := told_is u 512 (by decide) e he
  clear he
  have b3 := below_then b2 b2.size hB3
  clear hB1 hB2 hB3 b2 hk hb hsz
  rcases Fa with ⟨fa, rfl, rfl⟩ | ⟨fa, rfl, rfl⟩ <;> rcases Fb with ⟨fb, rfl, rfl⟩ | ⟨fb, rfl, rfl⟩ <;> rcases Fc with ⟨fc, rfl, rfl⟩ | ⟨fc, rfl, rfl⟩
  all_goals first | (exfalso; omega) | skip
  · have g1 : (u : Int) ≤ 2147483647 := by omega
    have g2 : (u : Int) ≤ 2097151 := by omega
    have g3 : (u : Int) ≤ 4194303 := by omega
    go_wp2_with fail
    refine (balive_any w3).mono ?_
    rintro e w4 ⟨rfl, hB4⟩
    go_wp2_with fail
    go_ret
    exact ⟨rfl, below_then b3 b3.size hB4⟩
  · have g1 : (u : Int) ≤ 2147483647 := by omega
    have g2 : ¬ (u : Int) ≤ 2097151 := by omega
    have g3 : (u : Int) ≤ 4194303 := by omega
    go_wp2_with fail
    refine (balive_any w3).mono ?_
    rintro e w4 ⟨rfl, hB4⟩
    go_wp2_with fail
    go_ret
    exact ⟨rfl, below_then b3 b3.size hB4⟩
  · have g1 : (u : Int) ≤ 2147483647 := by omega
    have g2 : ¬ (u : Int) ≤ 2097151 := by omega
    have g3 : ¬ (u : Int) ≤ 4194303 := by omega
    go_wp2_with fail
    refine (balive_any w3).mono ?_
    rintro e w4 ⟨rfl, hB4⟩
    go_wp2_with fail
    go_ret
    exact ⟨rfl, below_then b3 b3.size hB4⟩
  · have g1 : ¬ (u : Int) ≤ 2147483647 := by omega
    have g2 : ¬ (u : Int) ≤ 2097151 := by omega
    have g3 : ¬ (u : Int) ≤ 4194303 := by omega
    go_wp2_with fail
    refine (balive_any w3).mono ?_
    rintro e w4 ⟨rfl, hB4⟩
    go_wp2_with fail
    go_ret
    exact ⟨rfl, below_then b3 b3.size hB4⟩
end Go.Proofs.YtiffmdfchibpaaaDoor
