/-
  The document's own place of a text: its contract.
-/
import Derived.Test.YtgibhlpocmppjaaGreatDoorLstParse
namespace Go.Proofs.YtgibhlpocmppjaaGreatDoor
open Go.RowKit

theorem str_get (L : List UInt8) (q : Nat) (a : UInt8) (h0 : L[q]? = some a) (h : q < (str L).size) : (str L)[q]'h = a := by
  have h2 : q < L.length := by rw [← str_size]; exact h
  rw [List.getElem?_eq_getElem h2] at h0
  injection h0
theorem u8_lit (c : UInt8) (n : Nat) (hn : n < 256) (h : c ≠ UInt8.ofNat n) : ((c.toNat : Int) == (n : Int)) = false := by
  rw [beq_eq_false_iff_ne]
  intro e
  exact h (UInt8.toNat_inj.1 (by simp; omega))
theorem placeV_no (l : List UInt8) (h : ¬ (1 ≤ l.length ∧ l.length ≤ 10 ∧ l.head? ≠ some 48 ∧ allDig l = true ∧ decV l ≤ 2147483647)) : placeV l = 0 := by
  unfold placeV
  rw [if_neg h]
theorem allDig_no (l : List UInt8) (q : Nat) (c : UInt8) (h : l[q]? = some c) (hc : isDig c = false) : allDig l = false := by
  unfold allDig
  rw [List.all_eq_false]
  exact ⟨c, List.mem_of_getElem? h, by rw [hc]; simp⟩

set_option maxRecDepth 100000 in
set_option maxHeartbeats 2000000 in
theorem rplace_any (l : List UInt8) (w : World) (hl : l.length ≤ 2097152) :
    Calls Tryz.prog 53 #[.string (str l)] w fun e w' => e = .returned (.int .i64 (placeV l : Nat)) ∧ Below w.heap.size w w' := by
  have hs0 : (str l).size = l.length := str_size l
  by_cases h1 : l.length < 1
  · have HP := Lib.hid (placeV_no l (fun h => by omega))
    have e1 : decide ((l.length : Int) < 1) = true := decide_eq_true (by omega)
    go_enter Tryz.func53, Tryz.ntmps53
    go_wp2_with fail
    go_ret
    exact ⟨ret_int (by rw [HP.out]; rfl), Below.refl _ _⟩
  have e1 : decide ((l.length : Int) < 1) = false := decide_eq_false (by omega)
  by_cases h2 : 10 < l.length
  · have HP := Lib.hid (placeV_no l (fun h => by omega))
    have e2 : decide (10 < (l.length : Int)) = true := decide_eq_true (by omega)
    go_enter Tryz.func53, Tryz.ntmps53
    go_wp2_with fail
    go_ret
    exact ⟨ret_int (by rw [HP.out]; rfl), Below.refl _ _⟩
  have e2 : decide (10 < (l.length : Int)) = false := decide_eq_false (by omega)
  obtain ⟨c0, hc0⟩ : ∃ c, l[0]? = some c := ⟨_, List.getElem?_eq_getElem (by omega)⟩
  have hg0 := str_get l 0 c0 hc0
  have hhd : l.head? = some c0 := by rw [List.head?_eq_getElem?]; exact hc0
  by_cases h3 : c0 = 48
  · subst h3
    have HP := Lib.hid (placeV_no l (fun h => h.2.2.1 hhd))
    clear hc0 hhd
    go_enter Tryz.func53, Tryz.ntmps53
    go_wp2_with fail
    go_ret
    exact ⟨ret_int (by rw [HP.out]; rfl), Below.refl _ _⟩
  have e3 : ((c0.toNat : Int) == 48) = false := u8_lit c0 48 (by omega) h3
  have HHD := Lib.hid (show l.head? ≠ some 48 by rw [hhd]; exact fun e => h3 (by injection e))
  clear hc0 hhd h3
  go_enter Tryz.func53, Tryz.ntmps53
  go_wp2_with fail
  go_loopw [3, 4] (fun v i wr => ∃ q : Nat, q ≤ l.length ∧ i = .int .i64 q ∧ v = .int .i64 (decV (l.take q) : Nat) ∧ Hid (allDig (l.take q) = true) ∧ decV (l.take q) < 10000000000 ∧ Below w.heap.size w wr) (fun _ i _ => l.length - (intOf i).toNat)
  case atStart => exact ⟨0, Nat.zero_le _, rfl, rfl, rfl, by rw [List.take_zero]; decide, Below.refl _ _⟩
  case round =>
    obtain ⟨q, hq, rfl, rfl, hD, hv, hB⟩ := hrel
    by_cases hlt : q < l.length
    · obtain ⟨c, hc⟩ : ∃ c, l[q]? = some c := ⟨_, List.getElem?_eq_getElem hlt⟩
      have hgq := str_get l q c hc
      have h256 := c.toNat_lt
      obtain ⟨v, hve⟩ : ∃ v, v = decV (l.take q) := ⟨_, rfl⟩
      rw [← hve] at hv ⊢
      have hqI : (q : Int) < (l.length : Int) := by omega
      cases hd : isDig c with
      | false =>
        have HP := Lib.hid (placeV_no l (fun h => by rw [allDig_no l q c hc hd] at h; simp at h))
        have hdd : c.toNat < 48 ∨ 57 < c.toNat := by
          unfold isDig at hd
          simp at hd
          omega
        clear hc hd hve
        rcases hdd with hd1 | hd1
        · have f1 : decide ((c.toNat : Int) < 48) = true := decide_eq_true (by omega)
          go_wp2_with fail
          go_ret
          exact ⟨ret_int (by rw [HP.out]; rfl), hB⟩
        · have f1 : decide ((c.toNat : Int) < 48) = false := decide_eq_false (by omega)
          have f2 : decide (57 < (c.toNat : Int)) = true := decide_eq_true (by omega)
          go_wp2_with fail
          go_ret
          exact ⟨ret_int (by rw [HP.out]; rfl), hB⟩
      | true =>
        obtain ⟨d1, d2⟩ := (isDig_iff c).1 hd
        obtain ⟨d, hdd⟩ : ∃ d, d = c.toNat - 48 := ⟨_, rfl⟩
        have f1 : decide ((c.toNat : Int) < 48) = false := decide_eq_false (by omega)
        have f2 : decide (57 < (c.toNat : Int)) = false := decide_eq_false (by omega)
        have f3 : IntKind.u8.wrap ((c.toNat : Int) - 48) = (d : Int) := by rw [IntKind.wrap_u8]; omega
        have htk : l.take (q + 1) = l.take q ++ [c] := by
          rw [List.take_add_one, hc]; rfl
        have HN := Lib.hid (show decV (l.take (q + 1)) = 10 * v + d by rw [htk, decV_snoc, ← hve, hdd])
        have HD2 := Lib.hid (show allDig (l.take (q + 1)) = true by rw [htk, allDig_snoc, hD, hd]; rfl)
        have hv2 : 10 * v + d < 10000000000 := by
          have hh := decV_lt (l.take (q + 1)) HD2.out
          rw [HN.out] at hh
          have hl2 : (l.take (q + 1)).length ≤ 10 := by rw [List.length_take]; omega
          have := Nat.pow_le_pow_right (show 0 < 10 by omega) hl2
          omega
        clear hc hd hve htk
        go_wp2_with fail
        go_roundw
        case rel => exact ⟨q + 1, by omega, by go_num, by rw [HN.out]; go_num, HD2.out, by rw [HN.out]; exact hv2, hB⟩
        case measure => simp [intOf]; omega
    · obtain rfl : q = l.length := by omega
      rw [List.take_length] at hD hv
      have htl : l.take l.length = l := List.take_length
      rw [htl]
      obtain ⟨v, hve⟩ : ∃ v, v = decV l := ⟨_, rfl⟩
      rw [← hve] at hv ⊢
      by_cases hbig : 2147483647 < v
      · have HP := Lib.hid (placeV_no l (fun h => by omega))
        clear hve
        go_wp2_with fail
        go_ret
        exact ⟨ret_int (by rw [HP.out]; rfl), hB⟩
      · have HP := Lib.hid (show placeV l = v by
          unfold placeV
          rw [if_pos ⟨by omega, by omega, HHD.out, hD, by omega⟩, hve])
        clear hve
        go_wp2_with fail
        go_ret
        exact ⟨ret_int (by rw [HP.out]), hB⟩
end Go.Proofs.YtgibhlpocmppjaaGreatDoor
