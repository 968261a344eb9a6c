/-
  toolchestref01.Number: its contract.
-/
import Derived.Test.YtghkdfjmahmolaaDoorOptsNumPlain
import Derived.Test.YtghkdfjmahmolaaDoorBytes
import Derived.Test.YtghkdfjmahmolaaDoorStr
namespace Go.Proofs.YtghkdfjmahmolaaDoor
open Go.RowKit

def NumIs (s : List UInt8) (e : Ending) : Prop := e = .returned (.tuple #[.int .i64 (if numOk s = true then numV s else 0), .bool (numOk s)])
theorem NumIs.no {s : List UInt8} (h : numOk s = false) : NumIs s (.returned (.tuple #[.int .i64 0, .bool false])) := by
  unfold NumIs
  rw [h]
  rfl
theorem NumIs.yes {s : List UInt8} {v : Int} (h : numOk s = true) (hv : numV s = v) : NumIs s (.returned (.tuple #[.int .i64 v, .bool true])) := by
  unfold NumIs
  rw [h, if_pos rfl, hv]
theorem allDig_no (l : List UInt8) (q : Nat) (c : UInt8) (h : l[q]? = some c) (hc : isDig c = false) : allDig l = false := by
  unfold allDig
  rw [List.all_eq_false]
  exact ⟨c, List.mem_of_getElem? h, by rw [hc]; simp⟩
theorem numOk_no (s : List UInt8) (h : ¬ (1 ≤ (bareV s).length ∧ (bareV s).length ≤ 18 ∧ allDig (bareV s) = true)) : numOk s = false := by
  rw [Bool.eq_false_iff]
  intro e
  unfold numOk at e
  rw [Bool.and_eq_true, Bool.and_eq_true, decide_eq_true_eq, decide_eq_true_eq] at e
  exact h ⟨e.1.1, e.1.2, e.2⟩
theorem numOk_yes (s : List UInt8) (h1 : 1 ≤ (bareV s).length) (h2 : (bareV s).length ≤ 18) (h3 : allDig (bareV s) = true) : numOk s = true := by
  unfold numOk
  rw [decide_eq_true h1, decide_eq_true h2, h3]
  rfl

set_option maxRecDepth 100000 in
set_option maxHeartbeats 4000000 in
theorem rnumber_any (s : List UInt8) (w : World) (hl : s.length ≤ 2097152) :
    Calls Tryd.prog 13 #[.string (str s)] w fun e w' => NumIs s e ∧ Below w.heap.size w w' := by
  have hs0 : (str s).size = s.length := str_size s
  cases s with
  | nil =>
    have HN := Lib.hid (numOk_no [] (fun h => by simp [bareV] at h))
    simp only [List.length_nil] at hs0
    go_enter Tryd.func13, Tryd.ntmps13
    go_wp2_with fail
    go_ret2
    exact ⟨NumIs.no HN.out, Below.refl _ _⟩
  | cons c r =>
    have hs1 : (str (c :: r)).size = r.length + 1 := by rw [hs0]; rfl
    have hg0 : ∀ h : 0 < (str (c :: r)).size, (str (c :: r))[0]'h = c := fun _ => rfl
    simp only [List.length_cons] at hl
    clear hs0
    by_cases h45 : c = 45
    · subst h45
      have hb : bareV (45 :: r) = r := rfl
      have hx : (str (45 :: r)).extract 1 (r.length + 1) = str r := by rw [← hs1, str_from]; rfl
      have hsr : (str r).size = r.length := str_size r
      by_cases h1 : r.length < 1
      · have HN := Lib.hid (numOk_no (45 :: r) (fun h => by have e1 := h.1; have e2 := h.2.1; rw [hb] at e1 e2; first | omega | (simp only [List.length_cons] at e1 e2; omega)))
        go_enter Tryd.func13, Tryd.ntmps13
        go_wp2_with fail
        go_ret2
        exact ⟨NumIs.no HN.out, Below.refl _ _⟩
      by_cases h2 : 18 < r.length
      · have HN := Lib.hid (numOk_no (45 :: r) (fun h => by have e1 := h.1; have e2 := h.2.1; rw [hb] at e1 e2; first | omega | (simp only [List.length_cons] at e1 e2; omega)))
        go_enter Tryd.func13, Tryd.ntmps13
        go_wp2_with fail
        go_ret2
        exact ⟨NumIs.no HN.out, Below.refl _ _⟩
      have HB := Lib.hid hb
      clear hb
      go_enter Tryd.func13, Tryd.ntmps13
      go_wp2_with fail
      go_loopw [5, 6] (fun v i wr => ∃ q : Nat, q ≤ r.length ∧ i = .int .i64 q ∧ v = .int .i64 (decV (r.take q) : Nat) ∧ Hid (allDig (r.take q) = true) ∧ decV (r.take q) < 1000000000000000000 ∧ Below w.heap.size w wr) (fun _ i _ => r.length - (intOf i).toNat)
      case atStart => exact ⟨0, Nat.zero_le _, rfl, rfl, rfl, by rw [List.take_zero]; decide, Below.refl _ _⟩
      case round =>
        obtain ⟨q, hq, rfl, rfl, hD, hv, hB⟩ := hrel
        by_cases hlt : q < r.length
        · obtain ⟨b, hc⟩ : ∃ b, r[q]? = some b := ⟨_, List.getElem?_eq_getElem (by first | omega | (simp; omega))⟩
          have hgq := str_get r q b hc
          have h256 := b.toNat_lt
          obtain ⟨v, hve⟩ : ∃ v, v = decV (r.take q) := ⟨_, rfl⟩
          rw [← hve] at hv ⊢
          have hqI : (q : Int) < (r.length : Int) := by omega
          cases hd : isDig b with
          | false =>
            have HN := Lib.hid (numOk_no (45 :: r) (fun h => by rw [HB.out, allDig_no r q b hc hd] at h; simp at h))
            have hdd : b.toNat < 48 ∨ 57 < b.toNat := by
              unfold isDig at hd
              simp at hd
              omega
            clear hc hd hve
            rcases hdd with hd1 | hd1
            · have f1 : decide ((b.toNat : Int) < 48) = true := decide_eq_true (by omega)
              go_wp2_with fail
              go_ret2
              exact ⟨NumIs.no HN.out, hB⟩
            · have f1 : decide ((b.toNat : Int) < 48) = false := decide_eq_false (by omega)
              have f2 : decide (57 < (b.toNat : Int)) = true := decide_eq_true (by omega)
              go_wp2_with fail
              go_ret2
              exact ⟨NumIs.no HN.out, hB⟩
          | true =>
            obtain ⟨d1, d2⟩ := (isDig_iff b).1 hd
            obtain ⟨x, hdd⟩ : ∃ x, x = b.toNat - 48 := ⟨_, rfl⟩
            have f1 : decide ((b.toNat : Int) < 48) = false := decide_eq_false (by omega)
            have f2 : decide (57 < (b.toNat : Int)) = false := decide_eq_false (by omega)
            have f3 : IntKind.u8.wrap ((b.toNat : Int) - 48) = (x : Int) := by rw [IntKind.wrap_u8]; omega
            have htk : r.take (q + 1) = r.take q ++ [b] := by
              rw [List.take_add_one, hc]; rfl
            have HN := Lib.hid (show decV (r.take (q + 1)) = 10 * v + x by rw [htk, decV_snoc, ← hve, hdd])
            have HD2 := Lib.hid (show allDig (r.take (q + 1)) = true by rw [htk, allDig_snoc, hD, hd]; rfl)
            have hv2 : 10 * v + x < 1000000000000000000 := by
              have hh := decV_18 (r.take (q + 1)) HD2.out (by rw [List.length_take]; omega)
              rw [HN.out] at hh
              exact hh
            clear hc hd hve htk
            go_wp2_with fail
            go_roundw
            case rel => exact ⟨q + 1, by omega, by go_num, by rw [HN.out]; go_num, HD2.out, by rw [HN.out]; exact hv2, hB⟩
            case measure => simp [intOf]; omega
        · obtain rfl : q = r.length := by omega
          have htl : r.take r.length = r := List.take_of_length_le (by simp)
          rw [htl] at hD hv
          rw [htl]
          obtain ⟨v, hve⟩ : ∃ v, v = decV r := ⟨_, rfl⟩
          rw [← hve] at hv ⊢
          have HN := Lib.hid (numOk_yes (45 :: r) (by rw [HB.out]; first | done | omega | (simp only [List.length_cons]; omega)) (by rw [HB.out]; first | done | omega | (simp only [List.length_cons]; omega)) (by rw [HB.out]; exact hD))
          have HV := Lib.hid (show numV (45 :: r) = -(v : Int) by unfold numV; rw [HB.out, hve]; (try rfl))
          clear hve hD
          go_wp2_with fail
          go_ret2
          exact ⟨NumIs.yes HN.out HV.out, hB⟩
    by_cases h43 : c = 43
    · subst h43
      have hb : bareV (43 :: r) = r := rfl
      have hx : (str (43 :: r)).extract 1 (r.length + 1) = str r := by rw [← hs1, str_from]; rfl
      have hsr : (str r).size = r.length := str_size r
      by_cases h1 : r.length < 1
      · have HN := Lib.hid (numOk_no (43 :: r) (fun h => by have e1 := h.1; have e2 := h.2.1; rw [hb] at e1 e2; first | omega | (simp only [List.length_cons] at e1 e2; omega)))
        go_enter Tryd.func13, Tryd.ntmps13
        go_wp2_with fail
        go_ret2
        exact ⟨NumIs.no HN.out, Below.refl _ _⟩
      by_cases h2 : 18 < r.length
      · have HN := Lib.hid (numOk_no (43 :: r) (fun h => by have e1 := h.1; have e2 := h.2.1; rw [hb] at e1 e2; first | omega | (simp only [List.length_cons] at e1 e2; omega)))
        go_enter Tryd.func13, Tryd.ntmps13
        go_wp2_with fail
        go_ret2
        exact ⟨NumIs.no HN.out, Below.refl _ _⟩
      have HB := Lib.hid hb
      clear hb
      go_enter Tryd.func13, Tryd.ntmps13
      go_wp2_with fail
      go_loopw [5, 6] (fun v i wr => ∃ q : Nat, q ≤ r.length ∧ i = .int .i64 q ∧ v = .int .i64 (decV (r.take q) : Nat) ∧ Hid (allDig (r.take q) = true) ∧ decV (r.take q) < 1000000000000000000 ∧ Below w.heap.size w wr) (fun _ i _ => r.length - (intOf i).toNat)
      case atStart => exact ⟨0, Nat.zero_le _, rfl, rfl, rfl, by rw [List.take_zero]; decide, Below.refl _ _⟩
      case round =>
        obtain ⟨q, hq, rfl, rfl, hD, hv, hB⟩ := hrel
        by_cases hlt : q < r.length
        · obtain ⟨b, hc⟩ : ∃ b, r[q]? = some b := ⟨_, List.getElem?_eq_getElem (by first | omega | (simp; omega))⟩
          have hgq := str_get r q b hc
          have h256 := b.toNat_lt
          obtain ⟨v, hve⟩ : ∃ v, v = decV (r.take q) := ⟨_, rfl⟩
          rw [← hve] at hv ⊢
          have hqI : (q : Int) < (r.length : Int) := by omega
          cases hd : isDig b with
          | false =>
            have HN := Lib.hid (numOk_no (43 :: r) (fun h => by rw [HB.out, allDig_no r q b hc hd] at h; simp at h))
            have hdd : b.toNat < 48 ∨ 57 < b.toNat := by
              unfold isDig at hd
              simp at hd
              omega
            clear hc hd hve
            rcases hdd with hd1 | hd1
            · have f1 : decide ((b.toNat : Int) < 48) = true := decide_eq_true (by omega)
              go_wp2_with fail
              go_ret2
              exact ⟨NumIs.no HN.out, hB⟩
            · have f1 : decide ((b.toNat : Int) < 48) = false := decide_eq_false (by omega)
              have f2 : decide (57 < (b.toNat : Int)) = true := decide_eq_true (by omega)
              go_wp2_with fail
              go_ret2
              exact ⟨NumIs.no HN.out, hB⟩
          | true =>
            obtain ⟨d1, d2⟩ := (isDig_iff b).1 hd
            obtain ⟨x, hdd⟩ : ∃ x, x = b.toNat - 48 := ⟨_, rfl⟩
            have f1 : decide ((b.toNat : Int) < 48) = false := decide_eq_false (by omega)
            have f2 : decide (57 < (b.toNat : Int)) = false := decide_eq_false (by omega)
            have f3 : IntKind.u8.wrap ((b.toNat : Int) - 48) = (x : Int) := by rw [IntKind.wrap_u8]; omega
            have htk : r.take (q + 1) = r.take q ++ [b] := by
              rw [List.take_add_one, hc]; rfl
            have HN := Lib.hid (show decV (r.take (q + 1)) = 10 * v + x by rw [htk, decV_snoc, ← hve, hdd])
            have HD2 := Lib.hid (show allDig (r.take (q + 1)) = true by rw [htk, allDig_snoc, hD, hd]; rfl)
            have hv2 : 10 * v + x < 1000000000000000000 := by
              have hh := decV_18 (r.take (q + 1)) HD2.out (by rw [List.length_take]; omega)
              rw [HN.out] at hh
              exact hh
            clear hc hd hve htk
            go_wp2_with fail
            go_roundw
            case rel => exact ⟨q + 1, by omega, by go_num, by rw [HN.out]; go_num, HD2.out, by rw [HN.out]; exact hv2, hB⟩
            case measure => simp [intOf]; omega
        · obtain rfl : q = r.length := by omega
          have htl : r.take r.length = r := List.take_of_length_le (by simp)
          rw [htl] at hD hv
          rw [htl]
          obtain ⟨v, hve⟩ : ∃ v, v = decV r := ⟨_, rfl⟩
          rw [← hve] at hv ⊢
          have HN := Lib.hid (numOk_yes (43 :: r) (by rw [HB.out]; first | done | omega | (simp only [List.length_cons]; omega)) (by rw [HB.out]; first | done | omega | (simp only [List.length_cons]; omega)) (by rw [HB.out]; exact hD))
          have HV := Lib.hid (show numV (43 :: r) = (v : Int) by unfold numV; rw [HB.out, hve]; (try rfl))
          clear hve hD
          go_wp2_with fail
          go_ret2
          exact ⟨NumIs.yes HN.out HV.out, hB⟩
    have hb : bareV (c :: r) = (c :: r) := by show (if c = 43 ∨ c = 45 then r else c :: r) = c :: r; rw [if_neg (fun h => h.elim h43 h45)]
    have e45 : ((c.toNat : Int) == 45) = false := u8_lit c 45 (by omega) h45
    have e43 : ((c.toNat : Int) == 43) = false := u8_lit c 43 (by omega) h43
    have h1 : ¬ (r.length + 1) < 1 := by omega
    by_cases h2 : 18 < (r.length + 1)
    · have HN := Lib.hid (numOk_no (c :: r) (fun h => by have e1 := h.1; have e2 := h.2.1; rw [hb] at e1 e2; first | omega | (simp only [List.length_cons] at e1 e2; omega)))
      go_enter Tryd.func13, Tryd.ntmps13
      go_wp2_with fail
      go_ret2
      exact ⟨NumIs.no HN.out, Below.refl _ _⟩
    have HB := Lib.hid hb
    clear hb
    go_enter Tryd.func13, Tryd.ntmps13
    go_wp2_with fail
    go_loopw [5, 6] (fun v i wr => ∃ q : Nat, q ≤ (r.length + 1) ∧ i = .int .i64 q ∧ v = .int .i64 (decV ((c :: r).take q) : Nat) ∧ Hid (allDig ((c :: r).take q) = true) ∧ decV ((c :: r).take q) < 1000000000000000000 ∧ Below w.heap.size w wr) (fun _ i _ => (r.length + 1) - (intOf i).toNat)
    case atStart => exact ⟨0, Nat.zero_le _, rfl, rfl, rfl, by rw [List.take_zero]; decide, Below.refl _ _⟩
    case round =>
      obtain ⟨q, hq, rfl, rfl, hD, hv, hB⟩ := hrel
      by_cases hlt : q < (r.length + 1)
      · obtain ⟨b, hc⟩ : ∃ b, (c :: r)[q]? = some b := ⟨_, List.getElem?_eq_getElem (by first | omega | (simp; omega))⟩
        have hgq := str_get (c :: r) q b hc
        have h256 := b.toNat_lt
        obtain ⟨v, hve⟩ : ∃ v, v = decV ((c :: r).take q) := ⟨_, rfl⟩
        rw [← hve] at hv ⊢
        have hqI : (q : Int) < ((r.length + 1) : Int) := by omega
        cases hd : isDig b with
        | false =>
          have HN := Lib.hid (numOk_no (c :: r) (fun h => by rw [HB.out, allDig_no (c :: r) q b hc hd] at h; simp at h))
          have hdd : b.toNat < 48 ∨ 57 < b.toNat := by
            unfold isDig at hd
            simp at hd
            omega
          clear hc hd hve
          rcases hdd with hd1 | hd1
          · have f1 : decide ((b.toNat : Int) < 48) = true := decide_eq_true (by omega)
            go_wp2_with fail
            go_ret2
            exact ⟨NumIs.no HN.out, hB⟩
          · have f1 : decide ((b.toNat : Int) < 48) = false := decide_eq_false (by omega)
            have f2 : decide (57 < (b.toNat : Int)) = true := decide_eq_true (by omega)
            go_wp2_with fail
            go_ret2
            exact ⟨NumIs.no HN.out, hB⟩
        | true =>
          obtain ⟨d1, d2⟩ := (isDig_iff b).1 hd
          obtain ⟨x, hdd⟩ : ∃ x, x = b.toNat - 48 := ⟨_, rfl⟩
          have f1 : decide ((b.toNat : Int) < 48) = false := decide_eq_false (by omega)
          have f2 : decide (57 < (b.toNat : Int)) = false := decide_eq_false (by omega)
          have f3 : IntKind.u8.wrap ((b.toNat : Int) - 48) = (x : Int) := by rw [IntKind.wrap_u8]; omega
          have htk : (c :: r).take (q + 1) = (c :: r).take q ++ [b] := by
            rw [List.take_add_one, hc]; rfl
          have HN := Lib.hid (show decV ((c :: r).take (q + 1)) = 10 * v + x by rw [htk, decV_snoc, ← hve, hdd])
          have HD2 := Lib.hid (show allDig ((c :: r).take (q + 1)) = true by rw [htk, allDig_snoc, hD, hd]; rfl)
          have hv2 : 10 * v + x < 1000000000000000000 := by
            have hh := decV_18 ((c :: r).take (q + 1)) HD2.out (by rw [List.length_take]; omega)
            rw [HN.out] at hh
            exact hh
          clear hc hd hve htk
          go_wp2_with fail
          go_roundw
          case rel => exact ⟨q + 1, by omega, by go_num, by rw [HN.out]; go_num, HD2.out, by rw [HN.out]; exact hv2, hB⟩
          case measure => simp [intOf]; omega
      · obtain rfl : q = (r.length + 1) := by omega
        have htl : (c :: r).take (r.length + 1) = (c :: r) := List.take_of_length_le (by simp)
        rw [htl] at hD hv
        rw [htl]
        obtain ⟨v, hve⟩ : ∃ v, v = decV (c :: r) := ⟨_, rfl⟩
        rw [← hve] at hv ⊢
        have HN := Lib.hid (numOk_yes (c :: r) (by rw [HB.out]; first | done | omega | (simp only [List.length_cons]; omega)) (by rw [HB.out]; first | done | omega | (simp only [List.length_cons]; omega)) (by rw [HB.out]; exact hD))
        have HV := Lib.hid (show numV (c :: r) = (v : Int) by unfold numV; rw [HB.out, hve]; (try rw [if_neg (by simpa using h45)]))
        clear hve hD
        go_wp2_with fail
        go_ret2
        exact ⟨NumIs.yes HN.out HV.out, hB⟩
end Go.Proofs.YtghkdfjmahmolaaDoor
