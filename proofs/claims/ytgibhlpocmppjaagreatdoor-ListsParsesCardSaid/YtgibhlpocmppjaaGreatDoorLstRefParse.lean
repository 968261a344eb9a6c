/-
  The document's own Parse: its contract.
-/
import Derived.Test.YtgibhlpocmppjaaGreatDoorLstRefItem
namespace Go.Proofs.YtgibhlpocmppjaaGreatDoor
open Go.RowKit

/-- The piece that ends at a place. -/
theorem piece_comma (L : List UInt8) (fr q : Nat) (h1 : fr ≤ q) (hq : L[q]? = some 44) (hn : ∀ j, fr ≤ j → j < q → L[j]? ≠ some 44) :
    splitC 44 (L.drop fr) = ((L.drop fr).take (q - fr)) :: splitC 44 (L.drop (q + 1)) := by
  have hlt := (List.getElem?_eq_some_iff.1 hq).1
  have hd : L.drop fr = (L.drop fr).take (q - fr) ++ 44 :: L.drop (q + 1) := by
    have e := (List.take_append_drop (q - fr) (L.drop fr)).symm
    rw [List.drop_drop, show fr + (q - fr) = q from by omega] at e
    rw [show L.drop q = 44 :: L.drop (q + 1) from by
      rw [List.drop_eq_getElem_cons hlt]
      rw [List.getElem?_eq_getElem hlt] at hq
      injection hq with hq
      rw [hq]] at e
    exact e
  have hno : (44 : UInt8) ∉ (L.drop fr).take (q - fr) := by
    intro hm
    obtain ⟨j, hj⟩ := List.getElem?_of_mem hm
    have hjl := (List.getElem?_eq_some_iff.1 hj).1
    rw [List.length_take, List.length_drop] at hjl
    rw [List.getElem?_take_of_lt (by omega), List.getElem?_drop] at hj
    exact hn (fr + j) (by omega) (by omega) hj
  have h2 := splitC_append 44 (L.drop (q + 1)) ((L.drop fr).take (q - fr))
  rw [← hd, splitC_no 44 _ hno] at h2
  exact h2
theorem piece_end (L : List UInt8) (fr : Nat) (hn : ∀ j, fr ≤ j → j < L.length → L[j]? ≠ some 44) : splitC 44 (L.drop fr) = [(L.drop fr).take (L.length - fr)] := by
  have hno : (44 : UInt8) ∉ L.drop fr := by
    intro hm
    obtain ⟨j, hj⟩ := List.getElem?_of_mem hm
    have hjl := (List.getElem?_eq_some_iff.1 hj).1
    rw [List.length_drop] at hjl
    rw [List.getElem?_drop] at hj
    exact hn (fr + j) (by omega) (by omega) hj
  rw [splitC_no 44 _ hno, List.take_of_length_le (by rw [List.length_drop]; exact Nat.le_refl _)]
/-- How far Parse is. -/
def RPSt (L : List UInt8) (q fr : Nat) (rs : List Rng) : Prop :=
  (fr ≤ q ∧ q ≤ L.length ∧ parseV L = (allItems (splitC 44 (L.drop fr))).map (rs ++ ·) ∧ ∀ j, fr ≤ j → j < q → L[j]? ≠ some 44) ∨ (q = L.length + 1 ∧ parseV L = some rs)
theorem allItems_cons (x : List UInt8) (r : List (List UInt8)) : allItems (x :: r) = match itemV x with
    | none => none
    | some y => (allItems r).map (y :: ·) := rfl
theorem RPSt.start (L : List UInt8) : RPSt L 0 0 [] := .inl ⟨Nat.le_refl _, Nat.zero_le _, by
  rw [List.drop_zero]; unfold parseV; cases allItems (splitC 44 L) <;> simp, fun j _ h => by omega⟩
theorem RPSt.skip {L : List UInt8} {q fr : Nat} {rs : List Rng} {c : UInt8} (h : RPSt L q fr rs) (hq : L[q]? = some c) (hc : c ≠ 44) : RPSt L (q + 1) fr rs := by
  have hlt := (List.getElem?_eq_some_iff.1 hq).1
  rcases h with ⟨h1, h2, h3, h4⟩ | ⟨h1, _⟩
  · refine .inl ⟨by omega, by omega, h3, fun j hj1 hj2 => ?_⟩
    by_cases e : j = q
    · subst e; rw [hq]; exact fun e => hc (by injection e)
    · exact h4 j hj1 (by omega)
  · omega
theorem RPSt.item {L : List UInt8} {q fr : Nat} {rs : List Rng} (h : RPSt L q fr rs) (hql : q ≤ L.length) (hq : q = L.length ∨ L[q]? = some 44) :
    (∀ y, itemV ((L.drop fr).take (q - fr)) = some y → RPSt L (q + 1) (q + 1) (rs ++ [y])) ∧ (itemV ((L.drop fr).take (q - fr)) = none → parseV L = none) := by
  rcases h with ⟨h1, h2, h3, h4⟩ | ⟨h1, _⟩
  · rcases hq with rfl | hq
    · rw [piece_end L fr h4, allItems_cons] at h3
      refine ⟨fun y hy => .inr ⟨rfl, ?_⟩, fun hy => ?_⟩
      · rw [h3, hy]; rfl
      · rw [h3, hy]; rfl
    · have hlt := (List.getElem?_eq_some_iff.1 hq).1
      rw [piece_comma L fr q h1 hq h4, allItems_cons] at h3
      refine ⟨fun y hy => .inl ⟨Nat.le_refl _, by omega, ?_, fun j hj1 hj2 => by omega⟩, fun hy => ?_⟩
      · rw [h3, hy]
        cases allItems (splitC 44 (L.drop (q + 1))) <;> simp
      · rw [h3, hy]; rfl
  · omega

set_option maxRecDepth 100000 in
set_option maxHeartbeats 4000000 in
theorem rparse_any (L : List UInt8) (w : World) (_hL : L.length ≤ 140737488351232) :
    Calls Tryz.prog 6 #[.string (str L)] w fun e w' => ParseIs L w.heap.size w' e ∧ Below w.heap.size w w' := by
  obtain ⟨i0, hi0, hz0, hz1, hz2⟩ := info_parts infoRng
  have hs0 : (str L).size = L.length := str_size L
  by_cases hbig : 4096 < L.length
  · go_enter Tryz.func6, Tryz.ntmps6
    go_wp2_with fail
    go_ret2
    refine ⟨?_, Below.refl _ _⟩
    unfold ParseIs
    rw [if_pos hbig]
    rfl
  · have hL : L.length ≤ 4096 := by omega
    clear hbig
    go_enter Tryz.func6, Tryz.ntmps6
    go_wp2_with fail
    go_loopw [4, 5, 6] (fun l f i wr => ∃ (q fr : Nat) (rs : List Rng), i = .int .i64 q ∧ f = .int .i64 fr ∧ q ≤ L.length + 1 ∧ fr ≤ q ∧ rs.length ≤ q ∧ Hid (RPSt L q fr rs) ∧ wr.ownsRow w.heap.size 49 2 l rs.length (rngv rs) ∧ Below w.heap.size w wr) (fun _ _ i _ => L.length + 1 - (intOf i).toNat)
    case atStart => exact ⟨0, 0, [], rfl, rfl, Nat.zero_le _, Nat.le_refl _, Nat.le_refl _, RPSt.start L, World.ownsRow_nil _ _ _ _, Below.refl _ _⟩
    case round =>
      obtain ⟨q, fr, rs, rfl, rfl, hq, hfr, hrs, hS, hown, hB⟩ := hrel
      have hBsz := hB.size
      by_cases hle : q ≤ L.length
      · have hleI : (q : Int) ≤ (L.length : Int) := by omega
        by_cases hskip : ∃ c, L[q]? = some c ∧ c ≠ 44
        · obtain ⟨c, hc, h44⟩ := hskip
          have hlt := (List.getElem?_eq_some_iff.1 hc).1
          have hgq := str_get L q c hc
          have h44' : ((c.toNat : Int) == 44) = false := u8_lit c 44 (by omega) h44
          have hd : decide ((q : Int) < (L.length : Int)) = true := decide_eq_true (by omega)
          have HS2 := Lib.hid (RPSt.skip hS hc h44)
          clear hc h44
          go_wp2_with fail
          go_roundw
          case rel => exact ⟨q + 1, fr, rs, by go_num, rfl, by omega, by omega, by omega, HS2.out, hown, hB⟩
          case measure => simp [intOf]; omega
        · have hqe : q = L.length ∨ L[q]? = some 44 := by
            by_cases hlt : q < L.length
            · right
              rw [List.getElem?_eq_getElem hlt]
              by_cases e : L[q] = 44
              · rw [e]
              · exact absurd ⟨L[q], List.getElem?_eq_getElem hlt, e⟩ hskip
            · left; omega
          have HIT := Lib.hid (RPSt.item hS hle hqe)
          have HQE := Lib.hid hqe
          obtain ⟨P, hP⟩ : ∃ P, P = (L.drop fr).take (q - fr) := ⟨_, rfl⟩
          have hsl : (str L).extract fr q = str P := by
            rw [hP]
            have e : L.toArray.extract fr q = ((L.drop fr).take (q - fr)).toArray := by
              rw [List.extract_toArray, List.extract_eq_take_drop]
            apply ByteArray.ext
            show ((⟨L.toArray⟩ : ByteArray).extract fr q).data = _
            rw [ByteArray.data_extract]
            exact e
          have hPl : P.length ≤ 2097152 := by rw [hP, List.length_take]; omega
          rw [← hP] at HIT
          clear hP hskip hqe
          rcases HQE.out with hqL | hq44
          all_goals
            first
            | (have hqd : ¬ (q : Int) < (L.length : Int) := by omega)
            | (have hqd : decide ((q : Int) < (L.length : Int)) = true := decide_eq_true (by have := (List.getElem?_eq_some_iff.1 hq44).1; omega)
               have hltq := (List.getElem?_eq_some_iff.1 hq44).1
               have hgq := str_get L q 44 hq44)
            try clear hqL
            try clear hq44
            go_wp2_with fail
            refine (ritem_any P _ hPl).mono ?_
            rintro e w2 ⟨hI, hB2⟩
            have hs2 := hB2.size
            have hown2 := own_below hown hB2
            have hBf := below_then hB hBsz hB2
            have HI := Lib.hid hI.cases_
            clear hI hB2
            rcases HI.out with ⟨hi, a, b, rfl⟩ | ⟨r, hi, rfl⟩
            · have HN := Lib.hid (HIT.out.2 hi)
              clear hi
              go_wp2_with fail
              go_ret2
              refine ⟨?_, hBf.alloc (by omega) _⟩
              unfold ParseIs
              rw [if_neg (by omega), HN.out]
              rfl
            · have HN := Lib.hid (HIT.out.1 r hi)
              have HCN := Lib.hid (cells_new (w2.alloc (.cells #[.int .i64 r.fr, .int .i64 r.to] 49)) #[.int .i64 r.fr, .int .i64 r.to] 49)
              have hrs2 : (w2.alloc (.cells #[.int .i64 r.fr, .int .i64 r.to] 49)).heap.size = w2.heap.size + 1 := by simp
              rw [hrs2] at HCN
              clear hi hrs2
              go_wp2_with (at_builtin; refine wpList_append_own _ rfl (.tmp 38) (.tmp 40) 23 rfl w.heap.size 49 i0 (.agg #[.int .i64 0, .int .i64 0]) 2 16 Tryz.underlying23 hi0 hz0 hz1 hz2 rfl (by decide) _ rs.length _ rfl ((hown2.alloc _).alloc _) ⟨w2.heap.size + 1, 0, none⟩ 1 1 (rng1 r) rfl rfl HCN.out (rng1_one r) (by unfold maxLen; omega) (by omega) (by simp; omega) ?_; intro v4 w4 hown4 hg4 _)
              have hB4 : Below w.heap.size w w4 := ((hBf.alloc (by omega) _).alloc (by simp; omega) _).grown hg4 (by simp; omega) (own_ge hown)
              go_roundw
              case rel => exact ⟨q + 1, q + 1, rs ++ [r], by go_num, by go_num, by omega, by omega, by simp; omega, HN.out, by rw [show rngv (rs ++ [r]) = rngv rs ++ rng1 r from by simp [sv]]; simpa using hown4, hB4⟩
              case measure => simp [intOf]; omega
      · have HP := Lib.hid (show parseV L = some rs by
          rcases hS with ⟨_, h, _⟩ | ⟨_, h⟩
          · omega
          · exact h)
        go_wp2_with fail
        go_ret2
        refine ⟨?_, hB⟩
        unfold ParseIs
        rw [if_neg (by omega), HP.out]
        exact ⟨_, by first | rfl | simp, hown⟩
end Go.Proofs.YtgibhlpocmppjaaGreatDoor
