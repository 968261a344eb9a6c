/-
  ListsAgain: the law's walk.
-/
import Derived.Test.YtgibhlpocmppjaaDoorLstAliveWalk
namespace Go.Proofs.YtgibhlpocmppjaaDoor
open Go.RowKit

set_option maxRecDepth 100000 in
set_option maxHeartbeats 1000000 in
theorem listsAgain_walk (B : Nat) (s : ByteArray) (w : World) (hz : s.size ≤ 140737488351232) (hE : Env B w) :
    Calls Tryd.prog 5 #[.string s] w fun e w' => e = .returned (.bool true) ∧ Below w.heap.size w w' := by
  obtain ⟨L, rfl⟩ : ∃ L, s = str L := ⟨_, str_of s⟩
  have hs0 := str_size L
  obtain ⟨n, hn⟩ : ∃ n, n = L.length := ⟨_, rfl⟩
  rw [← hn] at hs0
  have HN := Lib.hid hn
  have HE := Lib.hid hE
  rw [hs0] at hz
  clear hn hE
  go_enter Tryd.func5, Tryd.ntmps5
  go_wp2_with fail
  refine (alive_any B w HE.out).mono ?_
  rintro e w1 ⟨rfl, hB1⟩
  have hs1 := hB1.size
  have E1 := Lib.hid (HE.out.up hB1)
  by_cases hbd : 1048576 < n
  · have hby := fun c => beyond_one n c w1 (by omega)
    rw [decide_eq_true hbd] at hby
    have hB2 : Below w1.heap.size w1 (w1.alloc (.cells #[.int .i64 (n : Int)] 3)) := (Below.refl _ _).alloc (Nat.le_refl _) _
    go_wp2_with fail
    refine (hby _).mono ?_
    rintro e w2 ⟨rfl, hw2⟩
    rw [hw2] at hB2
    have hB02 := below_then hB1 hs1 hB2
    have E2 := Lib.hid (E1.out.up hB2)
    clear hby hw2
    go_wp2_with fail
    refine (alive_any B w2 E2.out).mono ?_
    rintro e w3 ⟨rfl, hB3⟩
    go_wp2_with fail
    go_ret
    exact ⟨rfl, below_then hB02 hB02.size hB3⟩
  · have hby := fun c => beyond_one n c w1 (by omega)
    rw [decide_eq_false hbd] at hby
    have hB2 : Below w1.heap.size w1 (w1.alloc (.cells #[.int .i64 (n : Int)] 3)) := (Below.refl _ _).alloc (Nat.le_refl _) _
    go_wp2_with fail
    refine (hby _).mono ?_
    rintro e w2 ⟨rfl, hw2⟩
    rw [hw2] at hB2
    have hB02 := below_then hB1 hs1 hB2
    have hs2 := hB02.size
    have E2 := Lib.hid (E1.out.up hB2)
    clear hby hw2
    go_wp2_with fail
    by_cases hbig : 4096 < L.length
    · refine (parse_big B L w2 E2.out hbig).mono ?_
      rintro e w3 ⟨rfl, hB3⟩
      clear hbig
      go_wp2_with fail
      go_ret
      exact ⟨rfl, below_then hB02 hs2 hB3⟩
    have HBIG := Lib.hid (show L.length ≤ 4096 by omega)
    cases hp : parseV L with
    | none =>
      have HP := Lib.hid hp
      clear hp hbig
      refine (parse_none B L w2 E2.out HBIG.out HP.out).mono ?_
      rintro e w3 ⟨rfl, hB3⟩
      go_wp2_with fail
      go_ret
      exact ⟨rfl, below_then hB02 hs2 hB3⟩
    | some rs =>
      have HP := Lib.hid hp
      obtain ⟨hne, hbad, hcl, hkl⟩ := parse_ok L rs hp
      clear hp hbig
      refine (parse_some B L rs w2 E2.out HBIG.out HP.out).mono ?_
      rintro e w3 ⟨A3, c3, rfl, ho3, hB3⟩
      have hB03 := below_then hB02 hs2 hB3
      have hs3 := hB03.size
      have E3 := Lib.hid (E2.out.up hB3)
      obtain ⟨k, hk⟩ : ∃ k, k = rs.length := ⟨_, rfl⟩
      rw [← hk] at ho3 hcl hkl ⊢
      rw [← HN.out] at hcl hkl
      have hnl : n ≤ 4096 := by rw [HN.out]; exact HBIG.out
      have hk1 : 1 ≤ k := by
        rw [hk]
        cases rs with
        | nil => exact absurd rfl hne
        | cons a b => simp
      have HK := Lib.hid hk
      have HNE := Lib.hid hne
      have HBAD := Lib.hid hbad
      clear hk hne hbad
      have hr3 := Reads.of_own ho3
      go_wp2_with fail
      refine (text_ok B A3 k c3 rs w3 hr3 (by omega) E3.out).mono ?_
      rintro e w4 ⟨rfl, hB4⟩
      have hB04 := below_then hB03 hs3 hB4
      have hs4 := hB04.size
      have E4 := Lib.hid (E3.out.up hB4)
      have hr4 := (hr3.below hB4).more hB4.size
      have h1 : ¬ (rs = [] ∨ rs.any badV = true) := by
        rintro (h | h)
        · exact HNE.out h
        · rw [HBAD.out] at h; cases h
      by_cases h2 : 4097 < (catT rs).length
      · rw [show textV rs = ([], 3) from by unfold textV; rw [if_neg h1, if_pos h2]]
        have hbig : 1000 < n := by omega
        clear h1 h2 hcl
        go_wp2_with fail
        go_ret
        exact ⟨ret_bool (decide_eq_true (by omega)), hB04⟩
      · rw [show textV rs = (joinT rs, 0) from by unfold textV; rw [if_neg h1, if_neg h2]]
        have hjl := joinT_len rs HNE.out
        have HT := Lib.hid (parse_join rs HNE.out ((any_ok rs).2 HBAD.out))
        have HJ := Lib.hid (show (joinT rs).length ≤ 4096 by omega)
        have hjz := str_size (joinT rs)
        have hjn : (str (joinT rs)).size ≤ n + k := by omega
        clear h1 h2 hjl hcl hjz
        go_wp2_with fail
        refine (parse_some B (joinT rs) rs w4 E4.out HJ.out HT.out).mono ?_
        rintro e w5 ⟨A5, c5, rfl, ho5, hB5⟩
        rw [← HK.out] at ho5 ⊢
        have hB05 := below_then hB04 hs4 hB5
        have hs5 := hB05.size
        have hr5 := (hr4.below hB5).more hB5.size
        go_wp2_with fail
        refine (sameRanges_any A3 A5 k c3 c5 w5.heap.size rs w5 hr5 (Reads.of_own ho5) (by omega)).mono ?_
        rintro e w6 ⟨rfl, m, hw6⟩
        have hB6 : Below w.heap.size w w6 := by rw [hw6]; exact below_drewN hB05 m
        clear hw6
        go_wp2_with fail
        go_ret
        exact ⟨ret_bool (decide_eq_true (by omega)), hB6⟩
end Go.Proofs.YtgibhlpocmppjaaDoor
