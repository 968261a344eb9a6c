/-
  toolchestref11.Size: its contract.
-/
import Derived.Test.YtghkdfjmahmolaaDoorBlkSize
namespace Go.Proofs.YtghkdfjmahmolaaDoor
open Go.RowKit

set_option maxRecDepth 100000 in
set_option maxHeartbeats 4000000 in
theorem rsize_k (d : List UInt8) (w : World) (hl : d.length ≤ 2097151) :
    Calls Tryd.prog 24 #[.string (str (d ++ [107]))] w fun e w' => SizeIs d 1024 e ∧ Below w.heap.size w w' := by
  have hss : (str (d ++ [107])).size = d.length + 1 := by rw [str_size, List.length_append]; rfl
  have hgl : ∀ h, (str (d ++ [107]))[d.length]'h = 107 := fun h => str_get _ _ _ (by simp) h
  have hx : (str (d ++ [107])).extract 0 d.length = str d := by rw [str_upto, List.take_left]
  have hsd : (str d).size = d.length := str_size d
  by_cases hz : d.length < 1
  · have HN := Lib.hid (sizeOk_no d 1024 (fun h => by have := h.1; omega))
    have f1 : decide ((d.length : Int) < 1) = true := decide_eq_true (by omega)
    go_enter Tryd.func24, Tryd.ntmps24
    go_wp2_with fail
    go_ret2
    exact ⟨SizeIs.no HN.out, Below.refl _ _⟩
  have f1 : decide ((d.length : Int) < 1) = false := decide_eq_false (by omega)
  by_cases h10 : 10 < d.length
  · have HN := Lib.hid (sizeOk_no d 1024 (fun h => by have := h.2.1; omega))
    have h10i : decide (10 < ((d.length : Nat) : Int)) = true := decide_eq_true (by omega)
    go_enter Tryd.func24, Tryd.ntmps24
    go_wp2_with fail
    go_ret2
    exact ⟨SizeIs.no HN.out, Below.refl _ _⟩
  have h10i : decide (10 < ((d.length : Nat) : Int)) = false := decide_eq_false (by omega)
  go_enter Tryd.func24, Tryd.ntmps24
  go_wp2_with fail
  clear hgl
  go_loopw [5, 6] (fun v i wr => ∃ q : Nat, q ≤ d.length ∧ i = .int .i64 q ∧ v = .int .i64 (decV (d.take q) : Nat) ∧ Hid (allDig (d.take q) = true) ∧ decV (d.take q) < 10000000000 ∧ Below w.heap.size w wr) (fun _ i _ => d.length - (intOf i).toNat)
  case atStart => exact ⟨0, Nat.zero_le _, rfl, rfl, rfl, by rw [List.take_zero]; decide, Below.refl _ _⟩
  case round =>
    obtain ⟨q, hq, rfl, rfl, hD, hv, hB⟩ := hrel
    by_cases hlt : q < d.length
    · obtain ⟨x, hc⟩ : ∃ x, d[q]? = some x := ⟨_, List.getElem?_eq_getElem hlt⟩
      have hgq := str_get d q x hc
      have hx256 := x.toNat_lt
      obtain ⟨v, hve⟩ : ∃ v, v = decV (d.take q) := ⟨_, rfl⟩
      rw [← hve] at hv ⊢
      have hqI : (q : Int) < (d.length : Int) := by omega
      cases hd : isDig x with
      | false =>
        have HN := Lib.hid (sizeOk_no d 1024 (fun h => by have h3 := h.2.2.1; rw [allDig_no d q x hc hd] at h3; cases h3))
        have hdd : x.toNat < 48 ∨ 57 < x.toNat := by
          unfold isDig at hd
          simp at hd
          omega
        clear hc hd hve
        rcases hdd with hd1 | hd1
        · have g1 : decide ((x.toNat : Int) < 48) = true := decide_eq_true (by omega)
          go_wp2_with fail
          go_ret2
          exact ⟨SizeIs.no HN.out, hB⟩
        · have g1 : decide ((x.toNat : Int) < 48) = false := decide_eq_false (by omega)
          have g2 : decide (57 < (x.toNat : Int)) = true := decide_eq_true (by omega)
          go_wp2_with fail
          go_ret2
          exact ⟨SizeIs.no HN.out, hB⟩
      | true =>
        obtain ⟨d1, d2⟩ := (isDig_iff x).1 hd
        obtain ⟨z, hdd⟩ : ∃ z, z = x.toNat - 48 := ⟨_, rfl⟩
        have g1 : decide ((x.toNat : Int) < 48) = false := decide_eq_false (by omega)
        have g2 : decide (57 < (x.toNat : Int)) = false := decide_eq_false (by omega)
        have g3 : IntKind.u8.wrap ((x.toNat : Int) - 48) = (z : Int) := by rw [IntKind.wrap_u8]; omega
        have htk : d.take (q + 1) = d.take q ++ [x] := by
          rw [List.take_add_one, hc]; rfl
        have HN := Lib.hid (show decV (d.take (q + 1)) = 10 * v + z by rw [htk, decV_snoc, ← hve, hdd])
        have HD2 := Lib.hid (show allDig (d.take (q + 1)) = true by rw [htk, allDig_snoc, hD, hd]; rfl)
        have hv2 : 10 * v + z < 10000000000 := by
          have hh := decV_10 (d.take (q + 1)) HD2.out (by rw [List.length_take]; omega)
          rw [HN.out] at hh
          exact hh
        clear hc hd hve htk
        go_wp2_with fail
        go_roundw
        case rel => exact ⟨q + 1, by omega, by go_num, by rw [HN.out]; go_num, HD2.out, by rw [HN.out]; exact hv2, hB⟩
        case measure => simp [intOf]; omega
    · obtain rfl : q = d.length := by omega
      rw [List.take_length] at hD hv
      have htl : d.take d.length = d := List.take_length
      rw [htl]
      obtain ⟨v, hve⟩ : ∃ v, v = decV d := ⟨_, rfl⟩
      rw [← hve] at hv ⊢
      by_cases hbig : 2147483647 < v * 1024
      · have HN := Lib.hid (sizeOk_no d 1024 (fun h => by have := h.2.2.2; rw [← hve] at this; omega))
        have gb : decide ((2147483647 : Int) < (v : Int) * 1024) = true := decide_eq_true (by omega)
        clear hve
        go_wp2_with fail
        go_ret2
        exact ⟨SizeIs.no HN.out, hB⟩
      · have HN := Lib.hid (sizeOk_yes d 1024 (by omega) (by omega) hD (by rw [← hve]; omega))
        have gb : decide ((2147483647 : Int) < (v : Int) * 1024) = false := decide_eq_false (by omega)
        have HV := Lib.hid hve
        clear hve
        go_wp2_with fail
        go_ret2
        exact ⟨SizeIs.yes HN.out (by rw [← HV.out]; first | rfl | omega | (simp; done)), hB⟩
set_option maxRecDepth 100000 in
set_option maxHeartbeats 4000000 in
theorem rsize_b (d : List UInt8) (w : World) (hl : d.length ≤ 2097151) :
    Calls Tryd.prog 24 #[.string (str (d ++ [98]))] w fun e w' => SizeIs d 512 e ∧ Below w.heap.size w w' := by
  have hss : (str (d ++ [98])).size = d.length + 1 := by rw [str_size, List.length_append]; rfl
  have hgl : ∀ h, (str (d ++ [98]))[d.length]'h = 98 := fun h => str_get _ _ _ (by simp) h
  have hx : (str (d ++ [98])).extract 0 d.length = str d := by rw [str_upto, List.take_left]
  have hsd : (str d).size = d.length := str_size d
  by_cases hz : d.length < 1
  · have HN := Lib.hid (sizeOk_no d 512 (fun h => by have := h.1; omega))
    have f1 : decide ((d.length : Int) < 1) = true := decide_eq_true (by omega)
    go_enter Tryd.func24, Tryd.ntmps24
    go_wp2_with fail
    go_ret2
    exact ⟨SizeIs.no HN.out, Below.refl _ _⟩
  have f1 : decide ((d.length : Int) < 1) = false := decide_eq_false (by omega)
  by_cases h10 : 10 < d.length
  · have HN := Lib.hid (sizeOk_no d 512 (fun h => by have := h.2.1; omega))
    have h10i : decide (10 < ((d.length : Nat) : Int)) = true := decide_eq_true (by omega)
    go_enter Tryd.func24, Tryd.ntmps24
    go_wp2_with fail
    go_ret2
    exact ⟨SizeIs.no HN.out, Below.refl _ _⟩
  have h10i : decide (10 < ((d.length : Nat) : Int)) = false := decide_eq_false (by omega)
  go_enter Tryd.func24, Tryd.ntmps24
  go_wp2_with fail
  clear hgl
  go_loopw [5, 6] (fun v i wr => ∃ q : Nat, q ≤ d.length ∧ i = .int .i64 q ∧ v = .int .i64 (decV (d.take q) : Nat) ∧ Hid (allDig (d.take q) = true) ∧ decV (d.take q) < 10000000000 ∧ Below w.heap.size w wr) (fun _ i _ => d.length - (intOf i).toNat)
  case atStart => exact ⟨0, Nat.zero_le _, rfl, rfl, rfl, by rw [List.take_zero]; decide, Below.refl _ _⟩
  case round =>
    obtain ⟨q, hq, rfl, rfl, hD, hv, hB⟩ := hrel
    by_cases hlt : q < d.length
    · obtain ⟨x, hc⟩ : ∃ x, d[q]? = some x := ⟨_, List.getElem?_eq_getElem hlt⟩
      have hgq := str_get d q x hc
      have hx256 := x.toNat_lt
      obtain ⟨v, hve⟩ : ∃ v, v = decV (d.take q) := ⟨_, rfl⟩
      rw [← hve] at hv ⊢
      have hqI : (q : Int) < (d.length : Int) := by omega
      cases hd : isDig x with
      | false =>
        have HN := Lib.hid (sizeOk_no d 512 (fun h => by have h3 := h.2.2.1; rw [allDig_no d q x hc hd] at h3; cases h3))
        have hdd : x.toNat < 48 ∨ 57 < x.toNat := by
          unfold isDig at hd
          simp at hd
          omega
        clear hc hd hve
        rcases hdd with hd1 | hd1
        · have g1 : decide ((x.toNat : Int) < 48) = true := decide_eq_true (by omega)
          go_wp2_with fail
          go_ret2
          exact ⟨SizeIs.no HN.out, hB⟩
        · have g1 : decide ((x.toNat : Int) < 48) = false := decide_eq_false (by omega)
          have g2 : decide (57 < (x.toNat : Int)) = true := decide_eq_true (by omega)
          go_wp2_with fail
          go_ret2
          exact ⟨SizeIs.no HN.out, hB⟩
      | true =>
        obtain ⟨d1, d2⟩ := (isDig_iff x).1 hd
        obtain ⟨z, hdd⟩ : ∃ z, z = x.toNat - 48 := ⟨_, rfl⟩
        have g1 : decide ((x.toNat : Int) < 48) = false := decide_eq_false (by omega)
        have g2 : decide (57 < (x.toNat : Int)) = false := decide_eq_false (by omega)
        have g3 : IntKind.u8.wrap ((x.toNat : Int) - 48) = (z : Int) := by rw [IntKind.wrap_u8]; omega
        have htk : d.take (q + 1) = d.take q ++ [x] := by
          rw [List.take_add_one, hc]; rfl
        have HN := Lib.hid (show decV (d.take (q + 1)) = 10 * v + z by rw [htk, decV_snoc, ← hve, hdd])
        have HD2 := Lib.hid (show allDig (d.take (q + 1)) = true by rw [htk, allDig_snoc, hD, hd]; rfl)
        have hv2 : 10 * v + z < 10000000000 := by
          have hh := decV_10 (d.take (q + 1)) HD2.out (by rw [List.length_take]; omega)
          rw [HN.out] at hh
          exact hh
        clear hc hd hve htk
        go_wp2_with fail
        go_roundw
        case rel => exact ⟨q + 1, by omega, by go_num, by rw [HN.out]; go_num, HD2.out, by rw [HN.out]; exact hv2, hB⟩
        case measure => simp [intOf]; omega
    · obtain rfl : q = d.length := by omega
      rw [List.take_length] at hD hv
      have htl : d.take d.length = d := List.take_length
      rw [htl]
      obtain ⟨v, hve⟩ : ∃ v, v = decV d := ⟨_, rfl⟩
      rw [← hve] at hv ⊢
      by_cases hbig : 2147483647 < v * 512
      · have HN := Lib.hid (sizeOk_no d 512 (fun h => by have := h.2.2.2; rw [← hve] at this; omega))
        have gb : decide ((2147483647 : Int) < (v : Int) * 512) = true := decide_eq_true (by omega)
        clear hve
        go_wp2_with fail
        go_ret2
        exact ⟨SizeIs.no HN.out, hB⟩
      · have HN := Lib.hid (sizeOk_yes d 512 (by omega) (by omega) hD (by rw [← hve]; omega))
        have gb : decide ((2147483647 : Int) < (v : Int) * 512) = false := decide_eq_false (by omega)
        have HV := Lib.hid hve
        clear hve
        go_wp2_with fail
        go_ret2
        exact ⟨SizeIs.yes HN.out (by rw [← HV.out]; first | rfl | omega | (simp; done)), hB⟩
set_option maxRecDepth 100000 in
set_option maxHeartbeats 4000000 in
theorem rsize_n (r : List UInt8) (c : UInt8) (w : World) (hl : r.length ≤ 2097150) (h1 : c ≠ 107) (h2 : c ≠ 98) :
    Calls Tryd.prog 24 #[.string (str (r ++ [c]))] w fun e w' => SizeIs (r ++ [c]) 1 e ∧ Below w.heap.size w w' := by
  have hss : (str (r ++ [c])).size = r.length + 1 := by rw [str_size, List.length_append]; rfl
  have hgl : ∀ h, (str (r ++ [c]))[r.length]'h = c := fun h => str_get _ _ _ (by simp) h
  have e1 : ((c.toNat : Int) == 107) = false := u8_lit c 107 (by omega) h1
  have e2 : ((c.toNat : Int) == 98) = false := u8_lit c 98 (by omega) h2
  have h256 := c.toNat_lt
  clear h1 h2
  obtain ⟨d, hd0⟩ : ∃ d, d = r ++ [c] := ⟨_, rfl⟩
  have hdl : d.length = r.length + 1 := by rw [hd0, List.length_append]; rfl
  rw [← hd0] at hss hgl ⊢
  rw [← hdl] at hss
  have hrl : r.length = d.length - 1 := by omega
  rw [hrl] at hgl hl
  have hd1 : 1 ≤ d.length := by omega
  have hdI : IntKind.i64.wrap ((d.length : Int) - 1) = ((d.length - 1 : Nat) : Int) := by rw [IntKind.wrap_i64]; omega
  clear hd0 hdl hrl
  have hsd := hss
  have hz : ¬ d.length < 1 := by omega
  have f1 : decide ((d.length : Int) < 1) = false := decide_eq_false (by omega)
  by_cases h10 : 10 < d.length
  · have HN := Lib.hid (sizeOk_no d 1 (fun h => by have := h.2.1; omega))
    have h10i : decide (10 < ((d.length : Nat) : Int)) = true := decide_eq_true (by omega)
    go_enter Tryd.func24, Tryd.ntmps24
    go_wp2_with fail
    go_ret2
    exact ⟨SizeIs.no HN.out, Below.refl _ _⟩
  have h10i : decide (10 < ((d.length : Nat) : Int)) = false := decide_eq_false (by omega)
  go_enter Tryd.func24, Tryd.ntmps24
  go_wp2_with fail
  clear hgl
  go_loopw [5, 6] (fun v i wr => ∃ q : Nat, q ≤ d.length ∧ i = .int .i64 q ∧ v = .int .i64 (decV (d.take q) : Nat) ∧ Hid (allDig (d.take q) = true) ∧ decV (d.take q) < 10000000000 ∧ Below w.heap.size w wr) (fun _ i _ => d.length - (intOf i).toNat)
  case atStart => exact ⟨0, Nat.zero_le _, rfl, rfl, rfl, by rw [List.take_zero]; decide, Below.refl _ _⟩
  case round =>
    obtain ⟨q, hq, rfl, rfl, hD, hv, hB⟩ := hrel
    by_cases hlt : q < d.length
    · obtain ⟨x, hc⟩ : ∃ x, d[q]? = some x := ⟨_, List.getElem?_eq_getElem hlt⟩
      have hgq := str_get d q x hc
      have hx256 := x.toNat_lt
      obtain ⟨v, hve⟩ : ∃ v, v = decV (d.take q) := ⟨_, rfl⟩
      rw [← hve] at hv ⊢
      have hqI : (q : Int) < (d.length : Int) := by omega
      cases hd : isDig x with
      | false =>
        have HN := Lib.hid (sizeOk_no d 1 (fun h => by have h3 := h.2.2.1; rw [allDig_no d q x hc hd] at h3; cases h3))
        have hdd : x.toNat < 48 ∨ 57 < x.toNat := by
          unfold isDig at hd
          simp at hd
          omega
        clear hc hd hve
        rcases hdd with hd1 | hd1
        · have g1 : decide ((x.toNat : Int) < 48) = true := decide_eq_true (by omega)
          go_wp2_with fail
          go_ret2
          exact ⟨SizeIs.no HN.out, hB⟩
        · have g1 : decide ((x.toNat : Int) < 48) = false := decide_eq_false (by omega)
          have g2 : decide (57 < (x.toNat : Int)) = true := decide_eq_true (by omega)
          go_wp2_with fail
          go_ret2
          exact ⟨SizeIs.no HN.out, hB⟩
      | true =>
        obtain ⟨d1, d2⟩ := (isDig_iff x).1 hd
        obtain ⟨z, hdd⟩ : ∃ z, z = x.toNat - 48 := ⟨_, rfl⟩
        have g1 : decide ((x.toNat : Int) < 48) = false := decide_eq_false (by omega)
        have g2 : decide (57 < (x.toNat : Int)) = false := decide_eq_false (by omega)
        have g3 : IntKind.u8.wrap ((x.toNat : Int) - 48) = (z : Int) := by rw [IntKind.wrap_u8]; omega
        have htk : d.take (q + 1) = d.take q ++ [x] := by
          rw [List.take_add_one, hc]; rfl
        have HN := Lib.hid (show decV (d.take (q + 1)) = 10 * v + z by rw [htk, decV_snoc, ← hve, hdd])
        have HD2 := Lib.hid (show allDig (d.take (q + 1)) = true by rw [htk, allDig_snoc, hD, hd]; rfl)
        have hv2 : 10 * v + z < 10000000000 := by
          have hh := decV_10 (d.take (q + 1)) HD2.out (by rw [List.length_take]; omega)
          rw [HN.out] at hh
          exact hh
        clear hc hd hve htk
        go_wp2_with fail
        go_roundw
        case rel => exact ⟨q + 1, by omega, by go_num, by rw [HN.out]; go_num, HD2.out, by rw [HN.out]; exact hv2, hB⟩
        case measure => simp [intOf]; omega
    · obtain rfl : q = d.length := by omega
      rw [List.take_length] at hD hv
      have htl : d.take d.length = d := List.take_length
      rw [htl]
      obtain ⟨v, hve⟩ : ∃ v, v = decV d := ⟨_, rfl⟩
      rw [← hve] at hv ⊢
      by_cases hbig : 2147483647 < v * 1
      · have HN := Lib.hid (sizeOk_no d 1 (fun h => by have := h.2.2.2; rw [← hve] at this; omega))
        have gb : decide ((2147483647 : Int) < (v : Int) * 1) = true := decide_eq_true (by omega)
        clear hve
        go_wp2_with fail
        go_ret2
        exact ⟨SizeIs.no HN.out, hB⟩
      · have HN := Lib.hid (sizeOk_yes d 1 (by omega) (by omega) hD (by rw [← hve]; omega))
        have gb : decide ((2147483647 : Int) < (v : Int) * 1) = false := decide_eq_false (by omega)
        have HV := Lib.hid hve
        clear hve
        go_wp2_with fail
        go_ret2
        exact ⟨SizeIs.yes HN.out (by rw [← HV.out]; first | rfl | omega | (simp; done)), hB⟩

set_option maxHeartbeats 1000000 in
theorem rsize_e (w : World) :
    Calls Tryd.prog 24 #[.string (str [])] w fun e w' => SizeIs [] 1 e ∧ Below w.heap.size w w' := by
  have hss : (str []).size = 0 := rfl
  have HN := Lib.hid (sizeOk_no [] 1 (fun h => by have := h.1; simp at this))
  go_enter Tryd.func24, Tryd.ntmps24
  go_wp2_with fail
  go_ret2
  exact ⟨SizeIs.no HN.out, Below.refl _ _⟩
/-- toolchestref11.Size. -/
theorem rsize_any (s : List UInt8) (w : World) (hl : s.length ≤ 2097151) :
    Calls Tryd.prog 24 #[.string (str s)] w fun e w' => SizeIs (sizeB s).1 (sizeB s).2 e ∧ Below w.heap.size w w' := by
  rcases sizeB_cases s with ⟨d, hs, hb⟩ | ⟨d, hs, hb⟩ | ⟨h1, h2, hb⟩
  · rw [hb, hs]
    exact rsize_k d w (by rw [hs, List.length_append] at hl; omega)
  · rw [hb, hs]
    exact rsize_b d w (by rw [hs, List.length_append] at hl; omega)
  · rw [hb]
    rcases snoc_cases s with rfl | ⟨r, c, rfl⟩
    · exact rsize_e w
    · exact rsize_n r c w (by simp at hl; omega) (by simpa using h1) (by simpa using h2)
end Go.Proofs.YtghkdfjmahmolaaDoor
