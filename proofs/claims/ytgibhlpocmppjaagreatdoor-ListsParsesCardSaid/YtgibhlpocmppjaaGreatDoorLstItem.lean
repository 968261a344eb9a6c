/-
  lists.item: its contract.
-/
import Derived.Test.YtgibhlpocmppjaaGreatDoorLstPlace
import Derived.Laws.EntriesVeiled
import Derived.Lib.SplitLaws
namespace Go.Proofs.YtgibhlpocmppjaaGreatDoor
open Go.RowKit

/-! ### Cut and Split at one byte -/
theorem index_dash (l : List UInt8) : Lib.indexByte l 45 = match dash l with | none => -1 | some n => (n : Int) := by
  induction l with
  | nil => rfl
  | cons c l ih =>
    unfold Lib.indexByte dash
    rw [List.findIdx?_cons]
    by_cases h : c = 45
    · subst h; simp
    · have h1 : (c == 45) = false := by simpa using h
      rw [h1]
      simp only [Bool.false_eq_true, if_false]
      rw [ih]
      unfold dash
      cases hf : l.findIdx? (· == 45) with
      | none => rfl
      | some n => simp
theorem cut_none (l : List UInt8) (h : dash l = none) : Lib.cut l [45] = (l, [], false) := by
  unfold Lib.cut
  rw [Lib.index_one, index_dash, h]
  rfl
theorem cut_some (l : List UInt8) (i : Nat) (h : dash l = some i) : Lib.cut l [45] = (l.take i, l.drop (i + 1), true) := by
  unfold Lib.cut
  rw [Lib.index_one, index_dash, h]
  simp only
  rw [if_pos (by omega)]
  rfl
theorem split_comma : ∀ (k : Nat) (s : List UInt8), s.count 44 = k → Lib.splitK [44] 0 k s = splitC 44 s := by
  intro k
  induction k with
  | zero =>
    intro s h
    rw [splitC_no 44 s (List.count_eq_zero.1 h)]
    rfl
  | succ k ih =>
    intro s h
    have hm : (44 : UInt8) ∈ s := List.count_pos_iff.1 (by omega)
    unfold Lib.splitK
    rw [Lib.index_one]
    obtain ⟨i, hi⟩ : ∃ i : Nat, Lib.indexByte s 44 = i := by
      have h1 := Lib.indexByte_ge s 44
      by_cases h2 : Lib.indexByte s 44 = -1
      · obtain ⟨j, hj, e⟩ := List.getElem_of_mem hm
        exact absurd (by rw [List.getElem?_eq_getElem hj, e]) (Lib.indexByte_none h2 j)
      · exact ⟨(Lib.indexByte s 44).toNat, by omega⟩
    obtain ⟨h1, h2⟩ := Lib.indexByte_some hi
    have hil : i < s.length := (List.getElem?_eq_some_iff.1 h1).1
    have hs : s = s.take i ++ 44 :: s.drop (i + 1) := by
      have e : s[i] = 44 := by rw [List.getElem?_eq_getElem hil] at h1; injection h1
      rw [← e, List.getElem_cons_drop hil, List.take_append_drop]
    have hno : (44 : UInt8) ∉ s.take i := fun hh => by
      obtain ⟨j, hj, e⟩ := List.getElem_of_mem hh
      rw [List.length_take] at hj
      refine h2 j (by omega) ?_
      rw [← e, List.getElem_take, List.getElem?_eq_getElem (by omega)]
    have hc : (s.drop (i + 1)).count 44 = k := by
      have := h
      rw [hs, List.count_append, List.count_eq_zero.2 hno, List.count_cons] at this
      simp at this
      omega
    rw [hi, if_neg (by simp)]
    simp only [Int.toNat_natCast, Nat.add_zero, List.length_cons, List.length_nil, Nat.zero_add]
    rw [ih _ hc]
    conv => rhs; rw [hs, splitC_append, splitC_no 44 _ hno]
    rfl

/-! ### The forms -/
theorem infoRange2 (cs : Array Value) (h : cs.size = 2) : (Tryz.prog.info? 49).map (·.size) = some cs.size := by rw [h]; kernel_rfl
theorem results_row_tmp {P : Program} {fn : Func} {p t1 : Tmp} {ty : TypeId} (h : fn.results = #[.cell p ty, .tmp t1]) (tmps : Array Value) (w : World) (g : Nat) (t : TypeId) (cs : Array Value) (fr : Nat × Nat) (d : TypeDesc)
    (hp : tmps.getD p undef = .pointer (some ⟨g, 0, none⟩)) (hg : w.heap[g]? = some (.cells cs t fr))
    (hu : P.underlying ty = some d) (hd : (match d with | .struct _ | .array _ _ => true | _ => false) = true) (hi : (P.info? ty).map (·.size) = some cs.size) :
    (results fn tmps).run P w = .ok (.tuple #[.agg cs, tmps.getD t1 undef]) w := by
  have hp' : tmps[p]?.getD undef = .pointer (some ⟨g, 0, none⟩) := by simpa using hp
  simp [results, h, hp', asAddr, run_loadVar_row w g t ty cs fr d hg hu hd hi]
theorem str_isEmpty (l : List UInt8) : (str l).toList.isEmpty = l.isEmpty := by rw [ByteArray.toList_eq]; rfl
set_option maxHeartbeats 400000 in
theorem is0_any (f t : List UInt8) (b : Bool) (w : World) : Calls Tryz.prog 82 #[.string (str f), .string (str t), .bool b] w fun e w' => e = .returned (.bool (!b)) ∧ w = w' := by
  go_enter Tryz.func82, Tryz.ntmps82
  go_wp2
  all_goals
    go_ret
    exact ⟨rfl, rfl⟩
set_option maxHeartbeats 400000 in
theorem is1_any (f t : List UInt8) (b : Bool) (w : World) : Calls Tryz.prog 85 #[.string (str f), .string (str t), .bool b] w fun e w' => e = .returned (.bool (f.isEmpty)) ∧ w = w' := by
  have he := str_isEmpty f
  go_enter Tryz.func85, Tryz.ntmps85
  go_wp2
  all_goals
    go_ret
    exact ⟨rfl, rfl⟩
set_option maxHeartbeats 400000 in
theorem is2_any (f t : List UInt8) (b : Bool) (w : World) : Calls Tryz.prog 87 #[.string (str f), .string (str t), .bool b] w fun e w' => e = .returned (.bool (t.isEmpty)) ∧ w = w' := by
  have he := str_isEmpty t
  go_enter Tryz.func87, Tryz.ntmps87
  go_wp2
  all_goals
    go_ret
    exact ⟨rfl, rfl⟩
set_option maxHeartbeats 400000 in
theorem is3_any (f t : List UInt8) (b : Bool) (w : World) : Calls Tryz.prog 89 #[.string (str f), .string (str t), .bool b] w fun e w' => e = .returned (.bool (true)) ∧ w = w' := by
  go_enter Tryz.func89, Tryz.ntmps89
  go_wp2
  all_goals
    go_ret
    exact ⟨rfl, rfl⟩
set_option maxHeartbeats 1000000 in
theorem read0_any (B : Nat) (f t : List UInt8) (w : World) (hE : Env B w) (hf : f.length ≤ 281474976710656) (_ht : t.length ≤ 281474976710656) :
    Calls Tryz.prog 83 #[.string (str f), .string (str t)] w fun e w' => e = .returned (.tuple #[.agg #[.int .i64 (placeV f : Nat), .int .i64 (placeV f : Nat)], .bool (decide (0 < placeV f))]) ∧ Below w.heap.size w w' := by
  obtain ⟨w1, hw1⟩ : ∃ w1, w1 = w.alloc (.cells #[.int .i64 0, .int .i64 0] 49) := ⟨_, rfl⟩
  have hsz : w1.heap.size = w.heap.size + 1 := by rw [hw1]; simp
  have hB1 : Below w.heap.size w w1 := by rw [hw1]; exact (Below.refl _ _).alloc (Nat.le_refl _) _
  have hth : Blk w1 w.heap.size 49 #[.int .i64 0, .int .i64 0] := by rw [hw1]; exact Blk.new w _ _
  have HE0 := Lib.hid (hE.up hB1)
  have HW1 := Lib.hid hw1
  clear hw1 hE
  obtain ⟨p0, hp0⟩ : ∃ p, p = placeV f := ⟨_, rfl⟩
  have hle0 := placeV_le f
  rw [← hp0] at hle0
  rw [← hp0]
  go_enter Tryz.func83, Tryz.ntmps83
  go_wp2_with fail
  rw [← HW1.out]
  refine (place_any B f w1 HE0.out (by omega)).mono ?_
  rintro e w2 ⟨rfl, hB2⟩
  have HE1 := Lib.hid (HE0.out.up hB2)
  rw [← hp0]
  have hbl := (hth.below hB2 (by omega))
  have hBa := (below_then hB1 (by omega) hB2)
  have hc0 := Blk.cell hbl 0
  have hc1 := Blk.cell hbl 1
  have hf0 := Blk.frozen hbl 0
  have hf1 := Blk.frozen hbl 1
  simp only [List.getElem?_toArray, List.getElem?_cons_zero, List.getElem?_cons_succ] at hc0 hc1
  have hd : decide (0 < (p0 : Int)) = decide (0 < p0) := by rw [Bool.eq_iff_iff, decide_eq_true_eq, decide_eq_true_eq]; omega
  clear hp0
  go_wp2_with fail
  have hfin := (Blk.set_ hbl 0 (.int .i64 (p0 : Nat))).set_ 1 (.int .i64 (p0 : Nat))
  have hBf := (hBa.setCell (p := ⟨w.heap.size, 0, none⟩) (Nat.le_refl _) (.int .i64 (p0 : Nat))).setCell (p := ⟨w.heap.size, 1, none⟩) (Nat.le_refl _) (.int .i64 (p0 : Nat))
  refine bodyPost_ret (v := .tuple #[.agg #[.int .i64 (p0 : Nat), .int .i64 (p0 : Nat)], .bool (decide (0 < p0))]) (by refine results_row_tmp (p := 4) (t1 := 5) (ty := 49) ?_ _ _ w.heap.size _ _ _ _ ?_ hfin Tryz.underlying49 rfl (infoRange2 _ rfl) <;> rfl) rfl ⟨rfl, hBf⟩
set_option maxHeartbeats 1000000 in
theorem read1_any (B : Nat) (f t : List UInt8) (w : World) (hE : Env B w) (_hf : f.length ≤ 281474976710656) (ht : t.length ≤ 281474976710656) :
    Calls Tryz.prog 86 #[.string (str f), .string (str t)] w fun e w' => e = .returned (.tuple #[.agg #[.int .i64 1, .int .i64 (placeV t : Nat)], .bool (decide (0 < placeV t))]) ∧ Below w.heap.size w w' := by
  obtain ⟨w1, hw1⟩ : ∃ w1, w1 = w.alloc (.cells #[.int .i64 0, .int .i64 0] 49) := ⟨_, rfl⟩
  have hsz : w1.heap.size = w.heap.size + 1 := by rw [hw1]; simp
  have hB1 : Below w.heap.size w w1 := by rw [hw1]; exact (Below.refl _ _).alloc (Nat.le_refl _) _
  have hth : Blk w1 w.heap.size 49 #[.int .i64 0, .int .i64 0] := by rw [hw1]; exact Blk.new w _ _
  have HE0 := Lib.hid (hE.up hB1)
  have HW1 := Lib.hid hw1
  clear hw1 hE
  obtain ⟨p0, hp0⟩ : ∃ p, p = placeV t := ⟨_, rfl⟩
  have hle0 := placeV_le t
  rw [← hp0] at hle0
  rw [← hp0]
  go_enter Tryz.func86, Tryz.ntmps86
  go_wp2_with fail
  rw [← HW1.out]
  refine (place_any B t w1 HE0.out (by omega)).mono ?_
  rintro e w2 ⟨rfl, hB2⟩
  have HE1 := Lib.hid (HE0.out.up hB2)
  rw [← hp0]
  have hbl := (hth.below hB2 (by omega))
  have hBa := (below_then hB1 (by omega) hB2)
  have hc0 := Blk.cell hbl 0
  have hc1 := Blk.cell hbl 1
  have hf0 := Blk.frozen hbl 0
  have hf1 := Blk.frozen hbl 1
  simp only [List.getElem?_toArray, List.getElem?_cons_zero, List.getElem?_cons_succ] at hc0 hc1
  have hd : decide (0 < (p0 : Int)) = decide (0 < p0) := by rw [Bool.eq_iff_iff, decide_eq_true_eq, decide_eq_true_eq]; omega
  clear hp0
  go_wp2_with fail
  have hfin := (Blk.set_ hbl 0 (.int .i64 1)).set_ 1 (.int .i64 (p0 : Nat))
  have hBf := (hBa.setCell (p := ⟨w.heap.size, 0, none⟩) (Nat.le_refl _) (.int .i64 1)).setCell (p := ⟨w.heap.size, 1, none⟩) (Nat.le_refl _) (.int .i64 (p0 : Nat))
  refine bodyPost_ret (v := .tuple #[.agg #[.int .i64 1, .int .i64 (p0 : Nat)], .bool (decide (0 < p0))]) (by refine results_row_tmp (p := 4) (t1 := 5) (ty := 49) ?_ _ _ w.heap.size _ _ _ _ ?_ hfin Tryz.underlying49 rfl (infoRange2 _ rfl) <;> rfl) rfl ⟨rfl, hBf⟩
set_option maxHeartbeats 1000000 in
theorem read2_any (B : Nat) (f t : List UInt8) (w : World) (hE : Env B w) (hf : f.length ≤ 281474976710656) (_ht : t.length ≤ 281474976710656) :
    Calls Tryz.prog 88 #[.string (str f), .string (str t)] w fun e w' => e = .returned (.tuple #[.agg #[.int .i64 (placeV f : Nat), .int .i64 0], .bool (decide (0 < placeV f))]) ∧ Below w.heap.size w w' := by
  obtain ⟨w1, hw1⟩ : ∃ w1, w1 = w.alloc (.cells #[.int .i64 0, .int .i64 0] 49) := ⟨_, rfl⟩
  have hsz : w1.heap.size = w.heap.size + 1 := by rw [hw1]; simp
  have hB1 : Below w.heap.size w w1 := by rw [hw1]; exact (Below.refl _ _).alloc (Nat.le_refl _) _
  have hth : Blk w1 w.heap.size 49 #[.int .i64 0, .int .i64 0] := by rw [hw1]; exact Blk.new w _ _
  have HE0 := Lib.hid (hE.up hB1)
  have HW1 := Lib.hid hw1
  clear hw1 hE
  obtain ⟨p0, hp0⟩ : ∃ p, p = placeV f := ⟨_, rfl⟩
  have hle0 := placeV_le f
  rw [← hp0] at hle0
  rw [← hp0]
  go_enter Tryz.func88, Tryz.ntmps88
  go_wp2_with fail
  rw [← HW1.out]
  refine (place_any B f w1 HE0.out (by omega)).mono ?_
  rintro e w2 ⟨rfl, hB2⟩
  have HE1 := Lib.hid (HE0.out.up hB2)
  rw [← hp0]
  have hbl := (hth.below hB2 (by omega))
  have hBa := (below_then hB1 (by omega) hB2)
  have hc0 := Blk.cell hbl 0
  have hc1 := Blk.cell hbl 1
  have hf0 := Blk.frozen hbl 0
  have hf1 := Blk.frozen hbl 1
  simp only [List.getElem?_toArray, List.getElem?_cons_zero, List.getElem?_cons_succ] at hc0 hc1
  have hd : decide (0 < (p0 : Int)) = decide (0 < p0) := by rw [Bool.eq_iff_iff, decide_eq_true_eq, decide_eq_true_eq]; omega
  clear hp0
  go_wp2_with fail
  have hfin := (Blk.set_ hbl 0 (.int .i64 (p0 : Nat))).set_ 1 (.int .i64 0)
  have hBf := (hBa.setCell (p := ⟨w.heap.size, 0, none⟩) (Nat.le_refl _) (.int .i64 (p0 : Nat))).setCell (p := ⟨w.heap.size, 1, none⟩) (Nat.le_refl _) (.int .i64 0)
  refine bodyPost_ret (v := .tuple #[.agg #[.int .i64 (p0 : Nat), .int .i64 0], .bool (decide (0 < p0))]) (by refine results_row_tmp (p := 4) (t1 := 5) (ty := 49) ?_ _ _ w.heap.size _ _ _ _ ?_ hfin Tryz.underlying49 rfl (infoRange2 _ rfl) <;> rfl) rfl ⟨rfl, hBf⟩
set_option maxHeartbeats 1000000 in
theorem read3_any (B : Nat) (f t : List UInt8) (w : World) (hE : Env B w) (hf : f.length ≤ 281474976710656) (ht : t.length ≤ 281474976710656) :
    Calls Tryz.prog 90 #[.string (str f), .string (str t)] w fun e w' => e = .returned (.tuple #[.agg #[.int .i64 (placeV f : Nat), .int .i64 (placeV t : Nat)], .bool (decide (0 < placeV f) && decide (placeV f ≤ placeV t))]) ∧ Below w.heap.size w w' := by
  obtain ⟨w1, hw1⟩ : ∃ w1, w1 = w.alloc (.cells #[.int .i64 0, .int .i64 0] 49) := ⟨_, rfl⟩
  have hsz : w1.heap.size = w.heap.size + 1 := by rw [hw1]; simp
  have hB1 : Below w.heap.size w w1 := by rw [hw1]; exact (Below.refl _ _).alloc (Nat.le_refl _) _
  have hth : Blk w1 w.heap.size 49 #[.int .i64 0, .int .i64 0] := by rw [hw1]; exact Blk.new w _ _
  have HE0 := Lib.hid (hE.up hB1)
  have HW1 := Lib.hid hw1
  clear hw1 hE
  obtain ⟨p0, hp0⟩ : ∃ p, p = placeV f := ⟨_, rfl⟩
  have hle0 := placeV_le f
  rw [← hp0] at hle0
  obtain ⟨p1, hp1⟩ : ∃ p, p = placeV t := ⟨_, rfl⟩
  have hle1 := placeV_le t
  rw [← hp1] at hle1
  rw [← hp0, ← hp1]
  go_enter Tryz.func90, Tryz.ntmps90
  go_wp2_with fail
  rw [← HW1.out]
  refine (place_any B f w1 HE0.out (by omega)).mono ?_
  rintro e w2 ⟨rfl, hB2⟩
  have HE1 := Lib.hid (HE0.out.up hB2)
  rw [← hp0]
  have HP0 := Lib.hid hp0
  clear hp0
  go_wp2_with fail
  refine (place_any B t w2 HE1.out (by omega)).mono ?_
  rintro e w3 ⟨rfl, hB3⟩
  rw [← hp1]
  have hbl := ((hth.below hB2 (by omega)).below hB3 (by have := hB2.size; omega))
  have hBa := (below_then (below_then hB1 (by omega) hB2) (by have := hB2.size; omega) hB3)
  have hc0 := Blk.cell hbl 0
  have hc1 := Blk.cell hbl 1
  have hf0 := Blk.frozen hbl 0
  have hf1 := Blk.frozen hbl 1
  simp only [List.getElem?_toArray, List.getElem?_cons_zero, List.getElem?_cons_succ] at hc0 hc1
  clear hp1
  by_cases h0 : 0 < p0
  · by_cases h1 : p0 ≤ p1
    · have HR := Lib.hid (show (decide (0 < p0) && decide (p0 ≤ p1)) = true by rw [decide_eq_true h0, decide_eq_true h1]; rfl)
      have hd1 : decide ((p0 : Int) ≤ (p1 : Int)) = true := by rw [decide_eq_true_eq]; omega
      go_wp2_with fail
      have hfin := (Blk.set_ hbl 0 (.int .i64 (p0 : Nat))).set_ 1 (.int .i64 (p1 : Nat))
      have hBf := (hBa.setCell (p := ⟨w.heap.size, 0, none⟩) (Nat.le_refl _) (.int .i64 (p0 : Nat))).setCell (p := ⟨w.heap.size, 1, none⟩) (Nat.le_refl _) (.int .i64 (p1 : Nat))
      refine bodyPost_ret (v := .tuple #[.agg #[.int .i64 (p0 : Nat), .int .i64 (p1 : Nat)], .bool true]) (by refine results_row_tmp (p := 4) (t1 := 5) (ty := 49) ?_ _ _ w.heap.size _ _ _ _ ?_ hfin Tryz.underlying49 rfl (infoRange2 _ rfl) <;> rfl) rfl ⟨by rw [HR.out], hBf⟩
    · have HR := Lib.hid (show (decide (0 < p0) && decide (p0 ≤ p1)) = false by rw [decide_eq_false h1]; simp)
      have hd1 : decide ((p0 : Int) ≤ (p1 : Int)) = false := by rw [decide_eq_false_iff_not]; omega
      go_wp2_with fail
      have hfin := (Blk.set_ hbl 0 (.int .i64 (p0 : Nat))).set_ 1 (.int .i64 (p1 : Nat))
      have hBf := (hBa.setCell (p := ⟨w.heap.size, 0, none⟩) (Nat.le_refl _) (.int .i64 (p0 : Nat))).setCell (p := ⟨w.heap.size, 1, none⟩) (Nat.le_refl _) (.int .i64 (p1 : Nat))
      refine bodyPost_ret (v := .tuple #[.agg #[.int .i64 (p0 : Nat), .int .i64 (p1 : Nat)], .bool false]) (by refine results_row_tmp (p := 4) (t1 := 5) (ty := 49) ?_ _ _ w.heap.size _ _ _ _ ?_ hfin Tryz.underlying49 rfl (infoRange2 _ rfl) <;> rfl) rfl ⟨by rw [HR.out], hBf⟩
  · have HR := Lib.hid (show (decide (0 < p0) && decide (p0 ≤ p1)) = false by rw [decide_eq_false h0]; rfl)
    have hd1 : decide (0 < (p0 : Int)) = false := by rw [decide_eq_false_iff_not]; omega
    go_wp2_with fail
    have hfin := (Blk.set_ hbl 0 (.int .i64 (p0 : Nat))).set_ 1 (.int .i64 (p1 : Nat))
    have hBf := (hBa.setCell (p := ⟨w.heap.size, 0, none⟩) (Nat.le_refl _) (.int .i64 (p0 : Nat))).setCell (p := ⟨w.heap.size, 1, none⟩) (Nat.le_refl _) (.int .i64 (p1 : Nat))
    refine bodyPost_ret (v := .tuple #[.agg #[.int .i64 (p0 : Nat), .int .i64 (p1 : Nat)], .bool false]) (by refine results_row_tmp (p := 4) (t1 := 5) (ty := 49) ?_ _ _ w.heap.size _ _ _ _ ?_ hfin Tryz.underlying49 rfl (infoRange2 _ rfl) <;> rfl) rfl ⟨by rw [HR.out], hBf⟩

theorem infoForms (cs : Array Value) (h : cs.size = 8) : (Tryz.prog.info? 60).map (·.size) = some cs.size := by rw [h]; kernel_rfl
def formsA : Array Value := #[.func (.func 82) #[] #[], .func (.func 83) #[] #[], .func (.func 85) #[] #[], .func (.func 86) #[] #[], .func (.func 87) #[] #[], .func (.func 88) #[] #[], .func (.func 89) #[] #[], .func (.func 90) #[] #[]]
set_option maxHeartbeats 1000000 in
theorem forms_any (w : World) : Calls Tryz.prog 52 #[] w fun e w' => e = .returned (.agg formsA) ∧ Below w.heap.size w w' := by
  go_enter Tryz.func52, Tryz.ntmps52
  go_wp2_with fail
  have hr := heap_alloc_new w (.cells formsA 60)
  have hB : Below w.heap.size w (w.alloc (.cells formsA 60)) := (Below.refl _ _).alloc (Nat.le_refl _) _
  refine bodyPost_ret (v := .agg formsA) (by refine results_cell_row (p := 0) (ty := 60) ?_ _ _ w.heap.size _ _ _ _ ?_ hr Tryz.underlying60 rfl (infoForms _ rfl) <;> rfl) rfl ⟨rfl, hB⟩
/-- What item tells. -/
def ItemIs (l : List UInt8) (e : Ending) : Prop := match itemV l with
  | some r => e = .returned (.tuple #[.agg #[.int .i64 r.fr, .int .i64 r.to], .bool true])
  | none => ∃ a b : Int, e = .returned (.tuple #[.agg #[.int .i64 a, .int .i64 b], .bool false])
def formC (i : Nat) : Array Value := match i with
  | 0 => #[.func (.func 82) #[] #[], .func (.func 83) #[] #[]]
  | 1 => #[.func (.func 85) #[] #[], .func (.func 86) #[] #[]]
  | 2 => #[.func (.func 87) #[] #[], .func (.func 88) #[] #[]]
  | _ => #[.func (.func 89) #[] #[], .func (.func 90) #[] #[]]

set_option maxHeartbeats 4000000 in
theorem item_any (B : Nat) (l : List UInt8) (w : World) (hE : Env B w) (hl : l.length < 4294967281) :
    Calls Tryz.prog 11 #[.string (str l)] w fun e w' => ItemIs l e ∧ Below w.heap.size w w' := by
  obtain ⟨w1, hw1⟩ : ∃ w1, w1 = w.alloc (.cells #[.int .i64 0, .int .i64 0] 49) := ⟨_, rfl⟩
  have hsz : w1.heap.size = w.heap.size + 1 := by rw [hw1]; simp
  have hB1 : Below w.heap.size w w1 := by rw [hw1]; exact (Below.refl _ _).alloc (Nat.le_refl _) _
  have hbl : Blk w1 w.heap.size 49 #[.int .i64 0, .int .i64 0] := by rw [hw1]; exact Blk.new w _ _
  have hE1 := hE.up hB1
  obtain ⟨m, hm⟩ := hE1.mx
  have HM := Lib.hid hm
  have HE1 := Lib.hid hE1
  have HW1 := Lib.hid hw1
  clear hw1 hE hE1 hm
  cases hd : dash l with
  | none =>
    obtain ⟨f, hf⟩ : ∃ f, f = l := ⟨_, rfl⟩
    obtain ⟨t, ht⟩ : ∃ t : List UInt8, t = [] := ⟨_, rfl⟩
    obtain ⟨b, hb⟩ : ∃ b, b = false := ⟨_, rfl⟩
    have HC := Lib.hid (show Lib.cut l [45] = (f, t, b) by rw [cut_none l hd, hf, ht, hb])
    have IS0 := Lib.hid (show (!b) = true by rw [hb]; rfl)
    have HV := Lib.hid (show ItemIs l (.returned (.tuple #[.agg #[.int .i64 (placeV f : Nat), .int .i64 (placeV f : Nat)], .bool (decide (0 < placeV f))])) by
      unfold ItemIs itemV
      rw [hd, hf]
      by_cases h : 0 < placeV l
      · simp only [if_pos h, decide_eq_true h]
      · simp only [if_neg h, decide_eq_false h]
        exact ⟨_, _, rfl⟩)
    have hfl : f.length ≤ 281474976710656 := by rw [hf]; omega
    have htl : t.length ≤ 281474976710656 := by rw [ht]; simp
    clear hf ht hb hd
    go_enter Tryz.func11, Tryz.ntmps11
    go_wp2_with fail
    rw [← HW1.out]
    refine (Go.Proofs.Tryz.strings_Cut (str l) { data := #[45] } m w1 (by rw [str_size]; exact hl) HM.out).mono ?_
    rintro e w2 ⟨rfl, nd, hw2⟩
    have hB2 : Below w1.heap.size w1 w2 := by rw [hw2]; exact below_drewN (Below.refl _ _) _
    rw [show Lib.cut (str l).data.toList (ByteArray.mk #[45]).data.toList = (f, t, b) from HC.out]
    clear hw2
    rw [show (⟨(f, t, b).1.toArray⟩ : ByteArray) = str f from rfl, show (⟨(f, t, b).2.1.toArray⟩ : ByteArray) = str t from rfl, show (f, t, b).2.2 = b from rfl]
    go_wp2_with fail
    refine (forms_any w2).mono ?_
    rintro e w3 ⟨rfl, hB3⟩
    have hbl3 := (hbl.below hB2 (by omega)).below hB3 (by have := hB2.size; omega)
    have hBa3 := below_then (below_then hB1 (by omega) hB2) (by have := hB2.size; omega) hB3
    have HE3 := Lib.hid ((HE1.out.up hB2).up hB3)
    have hlt3 := hbl3.lt
    have x0 : ∀ w, (Instr.index 60 (.agg formsA) (.int .i64 0)).run Tryz.prog w = .ok (.agg (formC 0)) w := fun _ => by kernel_rfl
    have x1 : ∀ w, (Instr.index 60 (.agg formsA) (.int .i64 1)).run Tryz.prog w = .ok (.agg (formC 1)) w := fun _ => by kernel_rfl
    have x2 : ∀ w, (Instr.index 60 (.agg formsA) (.int .i64 2)).run Tryz.prog w = .ok (.agg (formC 2)) w := fun _ => by kernel_rfl
    have x3 : ∀ w, (Instr.index 60 (.agg formsA) (.int .i64 3)).run Tryz.prog w = .ok (.agg (formC 3)) w := fun _ => by kernel_rfl
    simp only [formC] at x0 x1 x2 x3
    go_wp2_with fail
    go_loopw [16] (fun i wr => ∃ q : Nat, q ≤ 0 ∧ i = .int .i64 q ∧ Below w.heap.size w wr ∧ Blk wr w.heap.size 49 #[.int .i64 0, .int .i64 0] ∧ Env B wr) (fun i _ => 4 - (intOf i).toNat)
    case atStart => exact ⟨0, Nat.zero_le _, rfl, hBa3, hbl3, HE3.out⟩
    case round =>
      obtain ⟨q, hq, rfl, hBr, hblr, hEr⟩ := hrel
      have HER := Lib.hid hEr
      have hltr := hblr.lt
      have hBsz := hBr.size
      clear hEr hbl3 hBa3
      obtain rfl : q = 0 := by omega
      go_wp2_with fail
      refine (is0_any f t b _).mono ?_
      rintro e w4 ⟨rfl, rfl⟩
      rw [IS0.out]
      go_wp2_with fail
      refine (read0_any B f t _ (HER.out.up ((Below.refl _ _).alloc (Nat.le_refl _) _)) (by omega) (by omega)).mono ?_
      rintro e w5 ⟨rfl, hB5⟩
      have hbl5 := (hblr.alloc (.cells #[.func (.func 82) #[] #[], .func (.func 83) #[] #[]] 59)).below hB5 (by simp; omega)
      have hBa5 := below_then (hBr.alloc hBsz (.cells #[.func (.func 82) #[] #[], .func (.func 83) #[] #[]] 59)) (by simp; omega) hB5
      have hc0 := Blk.cell hbl5 0
      have hc1 := Blk.cell hbl5 1
      have hf0 := Blk.frozen hbl5 0
      have hf1 := Blk.frozen hbl5 1
      simp only [List.getElem?_toArray, List.getElem?_cons_zero, List.getElem?_cons_succ] at hc0 hc1
      go_wp2_with fail
      have hfin := (Blk.set_ hbl5 0 (.int .i64 (placeV f : Nat))).set_ 1 (.int .i64 (placeV f : Nat))
      have hBf := (hBa5.setCell (p := ⟨w.heap.size, 0, none⟩) (Nat.le_refl _) (.int .i64 (placeV f : Nat))).setCell (p := ⟨w.heap.size, 1, none⟩) (Nat.le_refl _) (.int .i64 (placeV f : Nat))
      refine bodyPost_ret (v := .tuple #[.agg #[.int .i64 (placeV f : Nat), .int .i64 (placeV f : Nat)], .bool (decide (0 < placeV f))]) (by refine results_row_tmp (p := 2) (t1 := 3) (ty := 49) ?_ _ _ w.heap.size _ _ _ _ ?_ hfin Tryz.underlying49 rfl (infoRange2 _ rfl) <;> rfl) rfl ⟨?_, hBf⟩
      exact HV.out

  | some i =>
    have hil : i < l.length := by
      unfold dash at hd
      rw [List.findIdx?_eq_some_iff_getElem] at hd
      exact hd.1
    obtain ⟨f, hf⟩ : ∃ f, f = l.take i := ⟨_, rfl⟩
    obtain ⟨t, ht⟩ : ∃ t : List UInt8, t = l.drop (i + 1) := ⟨_, rfl⟩
    obtain ⟨b, hb⟩ : ∃ b, b = true := ⟨_, rfl⟩
    have HC := Lib.hid (show Lib.cut l [45] = (f, t, b) by rw [cut_some l i hd, hf, ht, hb])
    have IS0 := Lib.hid (show (!b) = false by rw [hb]; rfl)
    have hfl : f.length ≤ 281474976710656 := by rw [hf, List.length_take]; omega
    have htl : t.length ≤ 281474976710656 := by rw [ht, List.length_drop]; omega
    have hit : itemV l = (if f = [] then (if 0 < placeV t then some ⟨1, placeV t⟩ else none) else if t = [] then (if 0 < placeV f then some ⟨placeV f, 0⟩ else none) else if 0 < placeV f ∧ placeV f ≤ placeV t then some ⟨placeV f, placeV t⟩ else none) := by
      unfold itemV
      rw [hd, hf, ht]
    clear hf ht hb hd
    by_cases h1 : f = []
    · have IS1 := Lib.hid (show f.isEmpty = true by rw [h1]; rfl)
      have HV := Lib.hid (show ItemIs l (.returned (.tuple #[.agg #[.int .i64 1, .int .i64 (placeV t : Nat)], .bool (decide (0 < placeV t))])) by
        unfold ItemIs
        rw [hit, if_pos h1]
        by_cases h : 0 < placeV t
        · simp only [if_pos h, decide_eq_true h]
        · simp only [if_neg h, decide_eq_false h]
          exact ⟨_, _, rfl⟩)
      clear hit h1
      go_enter Tryz.func11, Tryz.ntmps11
      go_wp2_with fail
      rw [← HW1.out]
      refine (Go.Proofs.Tryz.strings_Cut (str l) { data := #[45] } m w1 (by rw [str_size]; exact hl) HM.out).mono ?_
      rintro e w2 ⟨rfl, nd, hw2⟩
      have hB2 : Below w1.heap.size w1 w2 := by rw [hw2]; exact below_drewN (Below.refl _ _) _
      rw [show Lib.cut (str l).data.toList (ByteArray.mk #[45]).data.toList = (f, t, b) from HC.out]
      clear hw2
      rw [show (⟨(f, t, b).1.toArray⟩ : ByteArray) = str f from rfl, show (⟨(f, t, b).2.1.toArray⟩ : ByteArray) = str t from rfl, show (f, t, b).2.2 = b from rfl]
      go_wp2_with fail
      refine (forms_any w2).mono ?_
      rintro e w3 ⟨rfl, hB3⟩
      have hbl3 := (hbl.below hB2 (by omega)).below hB3 (by have := hB2.size; omega)
      have hBa3 := below_then (below_then hB1 (by omega) hB2) (by have := hB2.size; omega) hB3
      have HE3 := Lib.hid ((HE1.out.up hB2).up hB3)
      have hlt3 := hbl3.lt
      have x0 : ∀ w, (Instr.index 60 (.agg formsA) (.int .i64 0)).run Tryz.prog w = .ok (.agg (formC 0)) w := fun _ => by kernel_rfl
      have x1 : ∀ w, (Instr.index 60 (.agg formsA) (.int .i64 1)).run Tryz.prog w = .ok (.agg (formC 1)) w := fun _ => by kernel_rfl
      have x2 : ∀ w, (Instr.index 60 (.agg formsA) (.int .i64 2)).run Tryz.prog w = .ok (.agg (formC 2)) w := fun _ => by kernel_rfl
      have x3 : ∀ w, (Instr.index 60 (.agg formsA) (.int .i64 3)).run Tryz.prog w = .ok (.agg (formC 3)) w := fun _ => by kernel_rfl
      simp only [formC] at x0 x1 x2 x3
      go_wp2_with fail
      go_loopw [16] (fun i wr => ∃ q : Nat, q ≤ 1 ∧ i = .int .i64 q ∧ Below w.heap.size w wr ∧ Blk wr w.heap.size 49 #[.int .i64 0, .int .i64 0] ∧ Env B wr) (fun i _ => 4 - (intOf i).toNat)
      case atStart => exact ⟨0, Nat.zero_le _, rfl, hBa3, hbl3, HE3.out⟩
      case round =>
        obtain ⟨q, hq, rfl, hBr, hblr, hEr⟩ := hrel
        have HER := Lib.hid hEr
        have hltr := hblr.lt
        have hBsz := hBr.size
        clear hEr hbl3 hBa3
        by_cases hq0 : q = 0
        · subst hq0
          go_wp2_with fail
          refine (is0_any f t b _).mono ?_
          rintro e w4 ⟨rfl, rfl⟩
          rw [IS0.out]
          go_wp2_with fail
          go_roundw
          case rel => exact ⟨1, by omega, rfl, hBr.alloc hBsz _, hblr.alloc _, HER.out.up ((Below.refl _ _).alloc (Nat.le_refl _) _)⟩
          case measure => simp [intOf]
        obtain rfl : q = 1 := by omega
        go_wp2_with fail
        refine (is1_any f t b _).mono ?_
        rintro e w4 ⟨rfl, rfl⟩
        rw [IS1.out]
        go_wp2_with fail
        refine (read1_any B f t _ (HER.out.up ((Below.refl _ _).alloc (Nat.le_refl _) _)) (by omega) (by omega)).mono ?_
        rintro e w5 ⟨rfl, hB5⟩
        have hbl5 := (hblr.alloc (.cells #[.func (.func 85) #[] #[], .func (.func 86) #[] #[]] 59)).below hB5 (by simp; omega)
        have hBa5 := below_then (hBr.alloc hBsz (.cells #[.func (.func 85) #[] #[], .func (.func 86) #[] #[]] 59)) (by simp; omega) hB5
        have hc0 := Blk.cell hbl5 0
        have hc1 := Blk.cell hbl5 1
        have hf0 := Blk.frozen hbl5 0
        have hf1 := Blk.frozen hbl5 1
        simp only [List.getElem?_toArray, List.getElem?_cons_zero, List.getElem?_cons_succ] at hc0 hc1
        go_wp2_with fail
        have hfin := (Blk.set_ hbl5 0 (.int .i64 1)).set_ 1 (.int .i64 (placeV t : Nat))
        have hBf := (hBa5.setCell (p := ⟨w.heap.size, 0, none⟩) (Nat.le_refl _) (.int .i64 1)).setCell (p := ⟨w.heap.size, 1, none⟩) (Nat.le_refl _) (.int .i64 (placeV t : Nat))
        refine bodyPost_ret (v := .tuple #[.agg #[.int .i64 1, .int .i64 (placeV t : Nat)], .bool (decide (0 < placeV t))]) (by refine results_row_tmp (p := 2) (t1 := 3) (ty := 49) ?_ _ _ w.heap.size _ _ _ _ ?_ hfin Tryz.underlying49 rfl (infoRange2 _ rfl) <;> rfl) rfl ⟨?_, hBf⟩
        exact HV.out

    · have IS1 := Lib.hid (show f.isEmpty = false by cases f with | nil => exact absurd rfl h1 | cons a r => rfl)
      by_cases h2 : t = []
      · have IS2 := Lib.hid (show t.isEmpty = true by rw [h2]; rfl)
        have HV := Lib.hid (show ItemIs l (.returned (.tuple #[.agg #[.int .i64 (placeV f : Nat), .int .i64 0], .bool (decide (0 < placeV f))])) by
          unfold ItemIs
          rw [hit, if_neg h1, if_pos h2]
          by_cases h : 0 < placeV f
          · simp only [if_pos h, decide_eq_true h]
          · simp only [if_neg h, decide_eq_false h]
            exact ⟨_, _, rfl⟩)
        clear hit h1 h2
        go_enter Tryz.func11, Tryz.ntmps11
        go_wp2_with fail
        rw [← HW1.out]
        refine (Go.Proofs.Tryz.strings_Cut (str l) { data := #[45] } m w1 (by rw [str_size]; exact hl) HM.out).mono ?_
        rintro e w2 ⟨rfl, nd, hw2⟩
        have hB2 : Below w1.heap.size w1 w2 := by rw [hw2]; exact below_drewN (Below.refl _ _) _
        rw [show Lib.cut (str l).data.toList (ByteArray.mk #[45]).data.toList = (f, t, b) from HC.out]
        clear hw2
        rw [show (⟨(f, t, b).1.toArray⟩ : ByteArray) = str f from rfl, show (⟨(f, t, b).2.1.toArray⟩ : ByteArray) = str t from rfl, show (f, t, b).2.2 = b from rfl]
        go_wp2_with fail
        refine (forms_any w2).mono ?_
        rintro e w3 ⟨rfl, hB3⟩
        have hbl3 := (hbl.below hB2 (by omega)).below hB3 (by have := hB2.size; omega)
        have hBa3 := below_then (below_then hB1 (by omega) hB2) (by have := hB2.size; omega) hB3
        have HE3 := Lib.hid ((HE1.out.up hB2).up hB3)
        have hlt3 := hbl3.lt
        have x0 : ∀ w, (Instr.index 60 (.agg formsA) (.int .i64 0)).run Tryz.prog w = .ok (.agg (formC 0)) w := fun _ => by kernel_rfl
        have x1 : ∀ w, (Instr.index 60 (.agg formsA) (.int .i64 1)).run Tryz.prog w = .ok (.agg (formC 1)) w := fun _ => by kernel_rfl
        have x2 : ∀ w, (Instr.index 60 (.agg formsA) (.int .i64 2)).run Tryz.prog w = .ok (.agg (formC 2)) w := fun _ => by kernel_rfl
        have x3 : ∀ w, (Instr.index 60 (.agg formsA) (.int .i64 3)).run Tryz.prog w = .ok (.agg (formC 3)) w := fun _ => by kernel_rfl
        simp only [formC] at x0 x1 x2 x3
        go_wp2_with fail
        go_loopw [16] (fun i wr => ∃ q : Nat, q ≤ 2 ∧ i = .int .i64 q ∧ Below w.heap.size w wr ∧ Blk wr w.heap.size 49 #[.int .i64 0, .int .i64 0] ∧ Env B wr) (fun i _ => 4 - (intOf i).toNat)
        case atStart => exact ⟨0, Nat.zero_le _, rfl, hBa3, hbl3, HE3.out⟩
        case round =>
          obtain ⟨q, hq, rfl, hBr, hblr, hEr⟩ := hrel
          have HER := Lib.hid hEr
          have hltr := hblr.lt
          have hBsz := hBr.size
          clear hEr hbl3 hBa3
          by_cases hq0 : q = 0
          · subst hq0
            go_wp2_with fail
            refine (is0_any f t b _).mono ?_
            rintro e w4 ⟨rfl, rfl⟩
            rw [IS0.out]
            go_wp2_with fail
            go_roundw
            case rel => exact ⟨1, by omega, rfl, hBr.alloc hBsz _, hblr.alloc _, HER.out.up ((Below.refl _ _).alloc (Nat.le_refl _) _)⟩
            case measure => simp [intOf]
          by_cases hq1 : q = 1
          · subst hq1
            go_wp2_with fail
            refine (is1_any f t b _).mono ?_
            rintro e w4 ⟨rfl, rfl⟩
            rw [IS1.out]
            go_wp2_with fail
            go_roundw
            case rel => exact ⟨2, by omega, rfl, hBr.alloc hBsz _, hblr.alloc _, HER.out.up ((Below.refl _ _).alloc (Nat.le_refl _) _)⟩
            case measure => simp [intOf]
          obtain rfl : q = 2 := by omega
          go_wp2_with fail
          refine (is2_any f t b _).mono ?_
          rintro e w4 ⟨rfl, rfl⟩
          rw [IS2.out]
          go_wp2_with fail
          refine (read2_any B f t _ (HER.out.up ((Below.refl _ _).alloc (Nat.le_refl _) _)) (by omega) (by omega)).mono ?_
          rintro e w5 ⟨rfl, hB5⟩
          have hbl5 := (hblr.alloc (.cells #[.func (.func 87) #[] #[], .func (.func 88) #[] #[]] 59)).below hB5 (by simp; omega)
          have hBa5 := below_then (hBr.alloc hBsz (.cells #[.func (.func 87) #[] #[], .func (.func 88) #[] #[]] 59)) (by simp; omega) hB5
          have hc0 := Blk.cell hbl5 0
          have hc1 := Blk.cell hbl5 1
          have hf0 := Blk.frozen hbl5 0
          have hf1 := Blk.frozen hbl5 1
          simp only [List.getElem?_toArray, List.getElem?_cons_zero, List.getElem?_cons_succ] at hc0 hc1
          go_wp2_with fail
          have hfin := (Blk.set_ hbl5 0 (.int .i64 (placeV f : Nat))).set_ 1 (.int .i64 0)
          have hBf := (hBa5.setCell (p := ⟨w.heap.size, 0, none⟩) (Nat.le_refl _) (.int .i64 (placeV f : Nat))).setCell (p := ⟨w.heap.size, 1, none⟩) (Nat.le_refl _) (.int .i64 0)
          refine bodyPost_ret (v := .tuple #[.agg #[.int .i64 (placeV f : Nat), .int .i64 0], .bool (decide (0 < placeV f))]) (by refine results_row_tmp (p := 2) (t1 := 3) (ty := 49) ?_ _ _ w.heap.size _ _ _ _ ?_ hfin Tryz.underlying49 rfl (infoRange2 _ rfl) <;> rfl) rfl ⟨?_, hBf⟩
          exact HV.out

      · have IS2 := Lib.hid (show t.isEmpty = false by cases t with | nil => exact absurd rfl h2 | cons a r => rfl)
        have IS3 := Lib.hid (show true = true from rfl)
        have HV := Lib.hid (show ItemIs l (.returned (.tuple #[.agg #[.int .i64 (placeV f : Nat), .int .i64 (placeV t : Nat)], .bool (decide (0 < placeV f) && decide (placeV f ≤ placeV t))])) by
          unfold ItemIs
          rw [hit, if_neg h1, if_neg h2]
          by_cases h : 0 < placeV f ∧ placeV f ≤ placeV t
          · simp only [if_pos h, decide_eq_true h.1, decide_eq_true h.2, Bool.and_true]
          · simp only [if_neg h]
            have e : (decide (0 < placeV f) && decide (placeV f ≤ placeV t)) = false := by
              rw [Bool.eq_false_iff]
              intro hh
              rw [Bool.and_eq_true, decide_eq_true_eq, decide_eq_true_eq] at hh
              exact h hh
            rw [e]
            exact ⟨_, _, rfl⟩)
        clear hit h1 h2
        go_enter Tryz.func11, Tryz.ntmps11
        go_wp2_with fail
        rw [← HW1.out]
        refine (Go.Proofs.Tryz.strings_Cut (str l) { data := #[45] } m w1 (by rw [str_size]; exact hl) HM.out).mono ?_
        rintro e w2 ⟨rfl, nd, hw2⟩
        have hB2 : Below w1.heap.size w1 w2 := by rw [hw2]; exact below_drewN (Below.refl _ _) _
        rw [show Lib.cut (str l).data.toList (ByteArray.mk #[45]).data.toList = (f, t, b) from HC.out]
        clear hw2
        rw [show (⟨(f, t, b).1.toArray⟩ : ByteArray) = str f from rfl, show (⟨(f, t, b).2.1.toArray⟩ : ByteArray) = str t from rfl, show (f, t, b).2.2 = b from rfl]
        go_wp2_with fail
        refine (forms_any w2).mono ?_
        rintro e w3 ⟨rfl, hB3⟩
        have hbl3 := (hbl.below hB2 (by omega)).below hB3 (by have := hB2.size; omega)
        have hBa3 := below_then (below_then hB1 (by omega) hB2) (by have := hB2.size; omega) hB3
        have HE3 := Lib.hid ((HE1.out.up hB2).up hB3)
        have hlt3 := hbl3.lt
        have x0 : ∀ w, (Instr.index 60 (.agg formsA) (.int .i64 0)).run Tryz.prog w = .ok (.agg (formC 0)) w := fun _ => by kernel_rfl
        have x1 : ∀ w, (Instr.index 60 (.agg formsA) (.int .i64 1)).run Tryz.prog w = .ok (.agg (formC 1)) w := fun _ => by kernel_rfl
        have x2 : ∀ w, (Instr.index 60 (.agg formsA) (.int .i64 2)).run Tryz.prog w = .ok (.agg (formC 2)) w := fun _ => by kernel_rfl
        have x3 : ∀ w, (Instr.index 60 (.agg formsA) (.int .i64 3)).run Tryz.prog w = .ok (.agg (formC 3)) w := fun _ => by kernel_rfl
        simp only [formC] at x0 x1 x2 x3
        go_wp2_with fail
        go_loopw [16] (fun i wr => ∃ q : Nat, q ≤ 3 ∧ i = .int .i64 q ∧ Below w.heap.size w wr ∧ Blk wr w.heap.size 49 #[.int .i64 0, .int .i64 0] ∧ Env B wr) (fun i _ => 4 - (intOf i).toNat)
        case atStart => exact ⟨0, Nat.zero_le _, rfl, hBa3, hbl3, HE3.out⟩
        case round =>
          obtain ⟨q, hq, rfl, hBr, hblr, hEr⟩ := hrel
          have HER := Lib.hid hEr
          have hltr := hblr.lt
          have hBsz := hBr.size
          clear hEr hbl3 hBa3
          by_cases hq0 : q = 0
          · subst hq0
            go_wp2_with fail
            refine (is0_any f t b _).mono ?_
            rintro e w4 ⟨rfl, rfl⟩
            rw [IS0.out]
            go_wp2_with fail
            go_roundw
            case rel => exact ⟨1, by omega, rfl, hBr.alloc hBsz _, hblr.alloc _, HER.out.up ((Below.refl _ _).alloc (Nat.le_refl _) _)⟩
            case measure => simp [intOf]
          by_cases hq1 : q = 1
          · subst hq1
            go_wp2_with fail
            refine (is1_any f t b _).mono ?_
            rintro e w4 ⟨rfl, rfl⟩
            rw [IS1.out]
            go_wp2_with fail
            go_roundw
            case rel => exact ⟨2, by omega, rfl, hBr.alloc hBsz _, hblr.alloc _, HER.out.up ((Below.refl _ _).alloc (Nat.le_refl _) _)⟩
            case measure => simp [intOf]
          by_cases hq2 : q = 2
          · subst hq2
            go_wp2_with fail
            refine (is2_any f t b _).mono ?_
            rintro e w4 ⟨rfl, rfl⟩
            rw [IS2.out]
            go_wp2_with fail
            go_roundw
            case rel => exact ⟨3, by omega, rfl, hBr.alloc hBsz _, hblr.alloc _, HER.out.up ((Below.refl _ _).alloc (Nat.le_refl _) _)⟩
            case measure => simp [intOf]
          obtain rfl : q = 3 := by omega
          go_wp2_with fail
          refine (is3_any f t b _).mono ?_
          rintro e w4 ⟨rfl, rfl⟩
          go_wp2_with fail
          refine (read3_any B f t _ (HER.out.up ((Below.refl _ _).alloc (Nat.le_refl _) _)) (by omega) (by omega)).mono ?_
          rintro e w5 ⟨rfl, hB5⟩
          have hbl5 := (hblr.alloc (.cells #[.func (.func 89) #[] #[], .func (.func 90) #[] #[]] 59)).below hB5 (by simp; omega)
          have hBa5 := below_then (hBr.alloc hBsz (.cells #[.func (.func 89) #[] #[], .func (.func 90) #[] #[]] 59)) (by simp; omega) hB5
          have hc0 := Blk.cell hbl5 0
          have hc1 := Blk.cell hbl5 1
          have hf0 := Blk.frozen hbl5 0
          have hf1 := Blk.frozen hbl5 1
          simp only [List.getElem?_toArray, List.getElem?_cons_zero, List.getElem?_cons_succ] at hc0 hc1
          go_wp2_with fail
          have hfin := (Blk.set_ hbl5 0 (.int .i64 (placeV f : Nat))).set_ 1 (.int .i64 (placeV t : Nat))
          have hBf := (hBa5.setCell (p := ⟨w.heap.size, 0, none⟩) (Nat.le_refl _) (.int .i64 (placeV f : Nat))).setCell (p := ⟨w.heap.size, 1, none⟩) (Nat.le_refl _) (.int .i64 (placeV t : Nat))
          refine bodyPost_ret (v := .tuple #[.agg #[.int .i64 (placeV f : Nat), .int .i64 (placeV t : Nat)], .bool (decide (0 < placeV f) && decide (placeV f ≤ placeV t))]) (by refine results_row_tmp (p := 2) (t1 := 3) (ty := 49) ?_ _ _ w.heap.size _ _ _ _ ?_ hfin Tryz.underlying49 rfl (infoRange2 _ rfl) <;> rfl) rfl ⟨?_, hBf⟩
          exact HV.out
end Go.Proofs.YtgibhlpocmppjaaGreatDoor
