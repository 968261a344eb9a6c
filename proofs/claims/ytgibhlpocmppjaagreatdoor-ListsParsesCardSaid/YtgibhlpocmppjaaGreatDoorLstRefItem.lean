/-
  The document's own item: its contract.
-/
import Derived.Test.YtgibhlpocmppjaaGreatDoorLstRefPlace
import Derived.Lib.PathFns
namespace Go.Proofs.YtgibhlpocmppjaaGreatDoor
open Go.RowKit

theorem dash_at (l : List UInt8) (q : Nat) (h : l[q]? = some 45) (hn : ∀ j, j < q → l[j]? ≠ some 45) : dash l = some q := by
  unfold dash
  rw [List.findIdx?_eq_some_iff_getElem]
  have hlt := (List.getElem?_eq_some_iff.1 h).1
  have hv := (List.getElem?_eq_some_iff.1 h).2
  refine ⟨hlt, by rw [hv]; rfl, fun j hj => ?_⟩
  have h2 := hn j hj
  rw [List.getElem?_eq_getElem (by omega)] at h2
  intro e
  exact h2 (by rw [eq_of_beq e])
theorem dash_no (l : List UInt8) (hn : ∀ j, j < l.length → l[j]? ≠ some 45) : dash l = none := by
  unfold dash
  rw [List.findIdx?_eq_none_iff]
  intro x hx
  obtain ⟨j, hj⟩ := List.getElem?_of_mem hx
  have h2 := hn j (List.getElem?_eq_some_iff.1 hj).1
  rw [hj] at h2
  rw [beq_eq_false_iff_ne]
  exact fun e => h2 (by rw [e])
theorem itemIs_of (l : List UInt8) (a b : Int) (ok : Bool) (h1 : ok = true → itemV l = some ⟨a, b⟩) (h0 : ok = false → itemV l = none) : ItemIs l (.returned (.tuple #[.agg #[.int .i64 a, .int .i64 b], .bool ok])) := by
  unfold ItemIs
  cases ok with
  | true => rw [h1 rfl]
  | false => rw [h0 rfl]; exact ⟨a, b, rfl⟩
theorem itemV_none (l : List UInt8) (h : dash l = none) : itemV l = if 0 < placeV l then some ⟨placeV l, placeV l⟩ else none := by
  unfold itemV
  rw [h]
theorem itemV_some (l : List UInt8) (i : Nat) (h : dash l = some i) : itemV l = if l.take i = [] then (if 0 < placeV (l.drop (i + 1)) then some ⟨1, placeV (l.drop (i + 1))⟩ else none)
    else if l.drop (i + 1) = [] then (if 0 < placeV (l.take i) then some ⟨placeV (l.take i), 0⟩ else none)
    else if 0 < placeV (l.take i) ∧ placeV (l.take i) ≤ placeV (l.drop (i + 1)) then some ⟨placeV (l.take i), placeV (l.drop (i + 1))⟩ else none := by
  unfold itemV
  rw [h]
theorem str_from (l : List UInt8) (k : Nat) : (str l).extract k (str l).size = str (l.drop k) := Go.Lib.Pa.extract_from (str l) k
theorem str_upto (l : List UInt8) (k : Nat) : (str l).extract 0 k = str (l.take k) := Go.Lib.Pa.extract_upto (str l) k

set_option maxRecDepth 100000 in
set_option maxHeartbeats 4000000 in
theorem ritem_any (l : List UInt8) (w : World) (hl : l.length ≤ 2097152) :
    Calls Tryz.prog 12 #[.string (str l)] w fun e w' => ItemIs l e ∧ Below w.heap.size w w' := by
  have hs0 : (str l).size = l.length := str_size l
  obtain ⟨w1, hw1⟩ : ∃ w1, w1 = w.alloc (.cells #[.int .i64 0, .int .i64 0] 49) := ⟨_, rfl⟩
  have hsz : w1.heap.size = w.heap.size + 1 := by rw [hw1]; simp
  have hB1 : Below w.heap.size w w1 := by rw [hw1]; exact (Below.refl _ _).alloc (Nat.le_refl _) _
  have hth : Blk w1 w.heap.size 49 #[.int .i64 0, .int .i64 0] := by rw [hw1]; exact Blk.new w _ _
  have HW1 := Lib.hid hw1
  clear hw1
  go_enter Tryz.func12, Tryz.ntmps12
  go_wp2_with fail
  rw [← HW1.out]
  go_loopw [4] (fun i wr => ∃ q : Nat, q ≤ l.length ∧ i = .int .i64 q ∧ Hid (∀ j, j < q → l[j]? ≠ some 45) ∧ wr = w1) (fun i _ => l.length - (intOf i).toNat)
  case atStart => exact ⟨0, Nat.zero_le _, rfl, fun j hj => by omega, rfl⟩
  case round =>
    obtain ⟨q, hq, rfl, hN, rfl⟩ := hrel
    by_cases hlt : q < l.length
    · obtain ⟨c, hc⟩ : ∃ c, l[q]? = some c := ⟨_, List.getElem?_eq_getElem hlt⟩
      have hgq := str_get l q c hc
      have hqI : (q : Int) < (l.length : Int) := by omega
      by_cases h45 : c = 45
      · subst h45
        have HD := Lib.hid (itemV_some l q (dash_at l q hc hN))
        have hx1 : (str l).extract 0 q = str (l.take q) := str_upto l q
        have hx2 : (str l).extract (q + 1) l.length = str (l.drop (q + 1)) := by rw [← str_from, hs0]
        have hne : ((q : Int) == (l.length : Int)) = false := by rw [beq_eq_false_iff_ne]; omega
        have hle0 := placeV_le (l.take q)
        have hle1 := placeV_le (l.drop (q + 1))
        obtain ⟨p0, hp0⟩ : ∃ p, p = placeV (l.take q) := ⟨_, rfl⟩
        obtain ⟨p1, hp1⟩ : ∃ p, p = placeV (l.drop (q + 1)) := ⟨_, rfl⟩
        rw [← hp0] at hle0
        rw [← hp1] at hle1
        rw [← hp0, ← hp1] at HD
        have HP0 := Lib.hid hp0
        have HP1 := Lib.hid hp1
        have HTK := Lib.hid (show l.take q = [] ↔ q = 0 by rw [← List.length_eq_zero_iff, List.length_take]; omega)
        have HDR := Lib.hid (show l.drop (q + 1) = [] ↔ q + 1 = l.length by rw [List.drop_eq_nil_iff]; omega)
        clear hc hN hp0 hp1
        go_wp2_with fail
        refine (rplace_any (l.take q) _ (by rw [List.length_take]; omega)).mono ?_
        rintro e w2 ⟨rfl, hB2⟩
        rw [← HP0.out]
        go_wp2_with fail
        refine (rplace_any (l.drop (q + 1)) _ (by rw [List.length_drop]; omega)).mono ?_
        rintro e w3 ⟨rfl, hB3⟩
        rw [← HP1.out]
        have hbl := ((hth.below hB2 (by omega)).below hB3 (by have := hB2.size; omega))
        have hBa := (below_then (below_then hB1 (by omega) hB2) (by have := hB2.size; omega) hB3)
        have hc0 := Blk.cell hbl 0
        have hc1 := Blk.cell hbl 1
        have hf0 := Blk.frozen hbl 0
        have hf1 := Blk.frozen hbl 1
        simp only [List.getElem?_toArray, List.getElem?_cons_zero, List.getElem?_cons_succ] at hc0 hc1
        clear hB2 hB3
        by_cases hz : q = 0
        · subst hz
          have HI := Lib.hid (show itemV l = if 0 < p1 then some ⟨1, p1⟩ else none by rw [HD.out, if_pos (HTK.out.2 rfl)])
          clear HD
          by_cases h0 : 0 < p1
          · have d0 : decide (0 < (p1 : Int)) = true := decide_eq_true (by omega)
            go_wp2_with fail
            have hfin := (Blk.set_ hbl 0 (.int .i64 1)).set_ 1 (.int .i64 (p1 : Nat))
            have hBf := (hBa.setCell (p := ⟨w.heap.size, 0, none⟩) (Nat.le_refl _) (.int .i64 1)).setCell (p := ⟨w.heap.size, 1, none⟩) (Nat.le_refl _) (.int .i64 (p1 : Nat))
            refine bodyPost_ret (v := .tuple #[.agg #[.int .i64 1, .int .i64 (p1 : Nat)], .bool true]) (by refine results_row_tmp (p := 2) (t1 := 3) (ty := 49) ?_ _ _ w.heap.size _ _ _ _ ?_ hfin Tryz.underlying49 rfl (infoRange2 _ rfl) <;> rfl) rfl ⟨itemIs_of l _ _ true (fun _ => by rw [HI.out, if_pos h0]) (fun h => by cases h), hBf⟩
          · have d0 : decide (0 < (p1 : Int)) = false := decide_eq_false (by omega)
            go_wp2_with fail
            have hfin := (Blk.set_ hbl 0 (.int .i64 1)).set_ 1 (.int .i64 (p1 : Nat))
            have hBf := (hBa.setCell (p := ⟨w.heap.size, 0, none⟩) (Nat.le_refl _) (.int .i64 1)).setCell (p := ⟨w.heap.size, 1, none⟩) (Nat.le_refl _) (.int .i64 (p1 : Nat))
            refine bodyPost_ret (v := .tuple #[.agg #[.int .i64 1, .int .i64 (p1 : Nat)], .bool false]) (by refine results_row_tmp (p := 2) (t1 := 3) (ty := 49) ?_ _ _ w.heap.size _ _ _ _ ?_ hfin Tryz.underlying49 rfl (infoRange2 _ rfl) <;> rfl) rfl ⟨itemIs_of l _ _ false (fun h => by cases h) (fun _ => by rw [HI.out, if_neg h0]), hBf⟩
        · have hz2 : ((q : Int) == 0) = false := by rw [beq_eq_false_iff_ne]; omega
          by_cases hen : q + 1 = l.length
          · have HI := Lib.hid (show itemV l = if 0 < p0 then some ⟨p0, 0⟩ else none by rw [HD.out, if_neg (fun e => hz (HTK.out.1 e)), if_pos (HDR.out.2 hen)])
            have hen2 : ((q : Int) + 1 == (l.length : Int)) = true := by rw [beq_iff_eq]; omega
            clear HD
            by_cases h0 : 0 < p0
            · have d0 : decide (0 < (p0 : Int)) = true := decide_eq_true (by omega)
              go_wp2_with fail
              have hfin := (Blk.set_ hbl 0 (.int .i64 (p0 : Nat))).set_ 1 (.int .i64 0)
              have hBf := (hBa.setCell (p := ⟨w.heap.size, 0, none⟩) (Nat.le_refl _) (.int .i64 (p0 : Nat))).setCell (p := ⟨w.heap.size, 1, none⟩) (Nat.le_refl _) (.int .i64 0)
              refine bodyPost_ret (v := .tuple #[.agg #[.int .i64 (p0 : Nat), .int .i64 0], .bool true]) (by refine results_row_tmp (p := 2) (t1 := 3) (ty := 49) ?_ _ _ w.heap.size _ _ _ _ ?_ hfin Tryz.underlying49 rfl (infoRange2 _ rfl) <;> rfl) rfl ⟨itemIs_of l _ _ true (fun _ => by rw [HI.out, if_pos h0]) (fun h => by cases h), hBf⟩
            · have d0 : decide (0 < (p0 : Int)) = false := decide_eq_false (by omega)
              go_wp2_with fail
              have hfin := (Blk.set_ hbl 0 (.int .i64 (p0 : Nat))).set_ 1 (.int .i64 0)
              have hBf := (hBa.setCell (p := ⟨w.heap.size, 0, none⟩) (Nat.le_refl _) (.int .i64 (p0 : Nat))).setCell (p := ⟨w.heap.size, 1, none⟩) (Nat.le_refl _) (.int .i64 0)
              refine bodyPost_ret (v := .tuple #[.agg #[.int .i64 (p0 : Nat), .int .i64 0], .bool false]) (by refine results_row_tmp (p := 2) (t1 := 3) (ty := 49) ?_ _ _ w.heap.size _ _ _ _ ?_ hfin Tryz.underlying49 rfl (infoRange2 _ rfl) <;> rfl) rfl ⟨itemIs_of l _ _ false (fun h => by cases h) (fun _ => by rw [HI.out, if_neg h0]), hBf⟩
          · have HI := Lib.hid (show itemV l = if 0 < p0 ∧ p0 ≤ p1 then some ⟨p0, p1⟩ else none by rw [HD.out, if_neg (fun e => hz (HTK.out.1 e)), if_neg (fun e => hen (HDR.out.1 e))])
            have hen2 : ((q : Int) + 1 == (l.length : Int)) = false := by rw [beq_eq_false_iff_ne]; omega
            clear HD
            by_cases h0 : 0 < p0
            · have d0 : decide (0 < (p0 : Int)) = true := decide_eq_true (by omega)
              by_cases h1 : p0 ≤ p1
              · have d1 : decide ((p0 : Int) ≤ (p1 : Int)) = true := decide_eq_true (by omega)
                go_wp2_with fail
                have hfin := (Blk.set_ hbl 0 (.int .i64 (p0 : Nat))).set_ 1 (.int .i64 (p1 : Nat))
                have hBf := (hBa.setCell (p := ⟨w.heap.size, 0, none⟩) (Nat.le_refl _) (.int .i64 (p0 : Nat))).setCell (p := ⟨w.heap.size, 1, none⟩) (Nat.le_refl _) (.int .i64 (p1 : Nat))
                refine bodyPost_ret (v := .tuple #[.agg #[.int .i64 (p0 : Nat), .int .i64 (p1 : Nat)], .bool true]) (by refine results_row_tmp (p := 2) (t1 := 3) (ty := 49) ?_ _ _ w.heap.size _ _ _ _ ?_ hfin Tryz.underlying49 rfl (infoRange2 _ rfl) <;> rfl) rfl ⟨itemIs_of l _ _ true (fun _ => by rw [HI.out, if_pos ⟨h0, h1⟩]) (fun h => by cases h), hBf⟩
              · have d1 : decide ((p0 : Int) ≤ (p1 : Int)) = false := decide_eq_false (by omega)
                go_wp2_with fail
                have hfin := (Blk.set_ hbl 0 (.int .i64 (p0 : Nat))).set_ 1 (.int .i64 (p1 : Nat))
                have hBf := (hBa.setCell (p := ⟨w.heap.size, 0, none⟩) (Nat.le_refl _) (.int .i64 (p0 : Nat))).setCell (p := ⟨w.heap.size, 1, none⟩) (Nat.le_refl _) (.int .i64 (p1 : Nat))
                refine bodyPost_ret (v := .tuple #[.agg #[.int .i64 (p0 : Nat), .int .i64 (p1 : Nat)], .bool false]) (by refine results_row_tmp (p := 2) (t1 := 3) (ty := 49) ?_ _ _ w.heap.size _ _ _ _ ?_ hfin Tryz.underlying49 rfl (infoRange2 _ rfl) <;> rfl) rfl ⟨itemIs_of l _ _ false (fun h => by cases h) (fun _ => by rw [HI.out, if_neg (fun h => h1 h.2)]), hBf⟩
            · have d0 : decide (0 < (p0 : Int)) = false := decide_eq_false (by omega)
              go_wp2_with fail
              have hfin := (Blk.set_ hbl 0 (.int .i64 (p0 : Nat))).set_ 1 (.int .i64 (p1 : Nat))
              have hBf := (hBa.setCell (p := ⟨w.heap.size, 0, none⟩) (Nat.le_refl _) (.int .i64 (p0 : Nat))).setCell (p := ⟨w.heap.size, 1, none⟩) (Nat.le_refl _) (.int .i64 (p1 : Nat))
              refine bodyPost_ret (v := .tuple #[.agg #[.int .i64 (p0 : Nat), .int .i64 (p1 : Nat)], .bool false]) (by refine results_row_tmp (p := 2) (t1 := 3) (ty := 49) ?_ _ _ w.heap.size _ _ _ _ ?_ hfin Tryz.underlying49 rfl (infoRange2 _ rfl) <;> rfl) rfl ⟨itemIs_of l _ _ false (fun h => by cases h) (fun _ => by rw [HI.out, if_neg (fun h => h0 h.1)]), hBf⟩
      · have h45' : ((c.toNat : Int) == 45) = false := u8_lit c 45 (by omega) h45
        have HN2 := Lib.hid (show ∀ j, j < q + 1 → l[j]? ≠ some 45 from fun j hj => by
          by_cases e : j = q
          · subst e; rw [hc]; exact fun e => h45 (by injection e)
          · exact hN j (by omega))
        clear hc hN h45
        go_wp2_with fail
        go_roundw
        case rel => exact ⟨q + 1, by omega, by go_num, HN2.out, by first | rfl | trivial⟩
        case measure => simp [intOf]; omega
    · obtain rfl : q = l.length := by omega
      have HI := Lib.hid (itemV_none l (dash_no l hN))
      have hle0 := placeV_le l
      obtain ⟨p0, hp0⟩ : ∃ p, p = placeV l := ⟨_, rfl⟩
      rw [← hp0] at HI hle0
      have HP0 := Lib.hid hp0
      clear hN hp0
      go_wp2_with fail
      refine (rplace_any l _ hl).mono ?_
      rintro e w2 ⟨rfl, hB2⟩
      rw [← HP0.out]
      have hbl := hth.below hB2 (by omega)
      have hBa := below_then hB1 (by omega) hB2
      have hc0 := Blk.cell hbl 0
      have hc1 := Blk.cell hbl 1
      have hf0 := Blk.frozen hbl 0
      have hf1 := Blk.frozen hbl 1
      simp only [List.getElem?_toArray, List.getElem?_cons_zero, List.getElem?_cons_succ] at hc0 hc1
      clear hB2
      by_cases h0 : 0 < p0
      · have d0 : decide (0 < (p0 : Int)) = true := decide_eq_true (by omega)
        go_wp2_with fail
        have hfin := (Blk.set_ hbl 0 (.int .i64 (p0 : Nat))).set_ 1 (.int .i64 (p0 : Nat))
        have hBf := (hBa.setCell (p := ⟨w.heap.size, 0, none⟩) (Nat.le_refl _) (.int .i64 (p0 : Nat))).setCell (p := ⟨w.heap.size, 1, none⟩) (Nat.le_refl _) (.int .i64 (p0 : Nat))
        refine bodyPost_ret (v := .tuple #[.agg #[.int .i64 (p0 : Nat), .int .i64 (p0 : Nat)], .bool true]) (by refine results_row_tmp (p := 2) (t1 := 3) (ty := 49) ?_ _ _ w.heap.size _ _ _ _ ?_ hfin Tryz.underlying49 rfl (infoRange2 _ rfl) <;> rfl) rfl ⟨itemIs_of l _ _ true (fun _ => by rw [HI.out, if_pos h0]) (fun h => by cases h), hBf⟩
      · have d0 : decide (0 < (p0 : Int)) = false := decide_eq_false (by omega)
        go_wp2_with fail
        have hfin := (Blk.set_ hbl 0 (.int .i64 (p0 : Nat))).set_ 1 (.int .i64 (p0 : Nat))
        have hBf := (hBa.setCell (p := ⟨w.heap.size, 0, none⟩) (Nat.le_refl _) (.int .i64 (p0 : Nat))).setCell (p := ⟨w.heap.size, 1, none⟩) (Nat.le_refl _) (.int .i64 (p0 : Nat))
        refine bodyPost_ret (v := .tuple #[.agg #[.int .i64 (p0 : Nat), .int .i64 (p0 : Nat)], .bool false]) (by refine results_row_tmp (p := 2) (t1 := 3) (ty := 49) ?_ _ _ w.heap.size _ _ _ _ ?_ hfin Tryz.underlying49 rfl (infoRange2 _ rfl) <;> rfl) rfl ⟨itemIs_of l _ _ false (fun h => by cases h) (fun _ => by rw [HI.out, if_neg h0]), hBf⟩
end Go.Proofs.YtgibhlpocmppjaaGreatDoor
