/-
  globs.next: its contract.
-/
import Derived.Test.YtafiadlkfjacnaaGlobBrk
import Derived.Deep.RegionWith
namespace Go.Proofs.Ytafiadlkfjacnaa
open Go.RowKit

theorem results_row_tmp2 {P : Program} {fn : Func} {p t1 t2 : Tmp} {ty : TypeId} (h : fn.results = #[.cell p ty, .tmp t1, .tmp t2]) (tmps : Array Value) (w : World) (g : Nat) (t : TypeId) (cs : Array Value) (fr : Nat × Nat) (d : TypeDesc)
    (hp : tmps.getD p undef = .pointer (some ⟨g, 0, none⟩)) (hg : w.heap[g]? = some (.cells cs t fr))
    (hu : P.underlying ty = some d) (hd : (match d with | .struct _ | .array _ _ => true | _ => false) = true) (hi : (P.info? ty).map (·.size) = some cs.size) :
    (results fn tmps).run P w = .ok (.tuple #[.agg cs, tmps.getD t1 undef, tmps.getD t2 undef]) w := by
  have hp' : tmps[p]?.getD undef = .pointer (some ⟨g, 0, none⟩) := by simpa using hp
  simp [results, h, hp', asAddr, run_loadVar_row w g t ty cs fr d hg hu hd hi]
/-- What next tells. -/
def NextIs (l : List UInt8) (e : Ending) (w' : World) : Prop := match nextP l with
  | none => e = .returned (.tuple #[.agg #[.int .i64 0, .nilFunc], .string (str []), .bool false])
  | some (t, r) => ∃ x : TV, ThingIs w' x t ∧ e = .returned (.tuple #[.agg #[x.1, x.2], .string (str r), .bool true])
def insideOf : List UInt8 → List UInt8
  | 33 :: r => r
  | r => r
def notOf : List UInt8 → Bool
  | 33 :: _ => true
  | _ => false
theorem insideOf_len (l : List UInt8) : (insideOf l).length ≤ l.length := by
  unfold insideOf; split <;> simp
theorem insideOf_ne (c : UInt8) (r : List UInt8) (h : c ≠ 33) : insideOf (c :: r) = c :: r ∧ notOf (c :: r) = false := by
  unfold insideOf notOf
  constructor
  · split
    · rename_i heq
      injection heq with h1
      exact absurd h1 h
    · rfl
  · split
    · rename_i heq
      injection heq with h1
      exact absurd h1 h
    · rfl
theorem nextP_brack (l : List UInt8) : nextP (91 :: l) = some (brackOf l (notOf l) (insideOf l)) := by
  cases l with
  | nil => rfl
  | cons c r =>
    by_cases h : c = 33
    · subst h; rfl
    · rw [(insideOf_ne c r h).1, (insideOf_ne c r h).2]
      unfold nextP
      simp only [show ¬ ((91 : UInt8) = 42) from by decide, show ¬ ((91 : UInt8) = 63) from by decide, show ¬ ((91 : UInt8) = 92) from by decide, if_true, if_false]
      split
      · rename_i heq
        injection heq with h1
        exact absurd h1 h
      · rfl
theorem index_close (l : List UInt8) : Lib.indexByte l 93 = match closeAt l with | none => -1 | some n => (n : Int) := by
  induction l with
  | nil => rfl
  | cons c l ih =>
    unfold Lib.indexByte closeAt
    rw [List.findIdx?_cons]
    by_cases h : c = 93
    · subst h; simp
    · have h1 : (c == 93) = false := by simpa using h
      rw [h1]
      simp only [Bool.false_eq_true, if_false]
      rw [ih]
      unfold closeAt
      cases hf : l.findIdx? (· == 93) with
      | none => rfl
      | some n =>
        simp
theorem cut_any (l : List UInt8) (w : World) : Calls Try.prog 35 #[.string (str l), .string { data := #[33] }] w fun e w' => e = .returned (.tuple #[.string (str (insideOf l)), .bool (notOf l)]) ∧ w = w' := by
  refine (Go.Proofs.Try.strings_CutPrefix (str l) { data := #[33] } w).mono fun e w' h => ⟨?_, h.2.symm⟩
  rw [h.1]
  have e1 : Lib.trimPrefix (str l).data.toList [33] = insideOf l ∧ Lib.hasPrefix (str l).data.toList [33] = notOf l := by
    rw [str_list]
    cases l with
    | nil => constructor <;> rfl
    | cons c r =>
      by_cases h : c = 33
      · subst h; constructor <;> simp [Lib.trimPrefix, Lib.hasPrefix, insideOf, notOf, List.isPrefixOf]
      · have h1 : ¬ (33 : UInt8) = c := fun e => h e.symm
        rw [(insideOf_ne c r h).1, (insideOf_ne c r h).2]
        constructor <;> simp [Lib.trimPrefix, Lib.hasPrefix, List.isPrefixOf, h1]
  show Ending.returned (.tuple #[.string ⟨(Lib.trimPrefix (str l).data.toList [33]).toArray⟩, .bool (Lib.hasPrefix (str l).data.toList [33])]) = _
  rw [e1.1, e1.2]
  rfl

set_option maxRecDepth 100000 in
set_option maxHeartbeats 1000000 in
theorem next_any (c : UInt8) (rest : List UInt8) (w : World) (hl : rest.length ≤ 2097152) :
    Calls Try.prog 26 #[.string (str (c :: rest))] w fun e w' => NextIs (c :: rest) e w' ∧ Below w.heap.size w w' := by
  have hmf := makeFunc_run
  obtain ⟨w1, hw1⟩ : ∃ w1, w1 = w.alloc (.cells #[.int .i64 0, .nilFunc] 49) := ⟨_, rfl⟩
  have hsz : w1.heap.size = w.heap.size + 1 := by rw [hw1]; simp
  have hB1 : Below w.heap.size w w1 := by rw [hw1]; exact (Below.refl _ _).alloc (Nat.le_refl _) _
  have hth : Blk w1 w.heap.size 49 #[.int .i64 0, .nilFunc] := by rw [hw1]; exact Blk.new w _ _
  have HW1 := Lib.hid hw1
  clear hw1
  have hs0 : (str (c :: rest)).size = rest.length + 1 := by rw [str_size]; rfl
  have hg0 : ∀ h : 0 < (str (c :: rest)).size, (str (c :: rest))[0]'h = c := fun _ => rfl
  have hx : (str (c :: rest)).extract 1 (rest.length + 1) = str rest := by rw [← hs0, str_from]; rfl
  by_cases h42 : c = 42
  · subst h42
    go_enter Try.func26, Try.ntmps26
    go_wp2_with fail
    rw [← HW1.out]
    go_quiet (fail)
    generalize hwq : World.drewN w1 _ = wq
    have hthq : Blk wq w.heap.size 49 #[.int .i64 0, .nilFunc] := by rw [← hwq]; exact hth.drewN _
    have hBq : Below w.heap.size w wq := by rw [← hwq]; exact below_drewN hB1 _
    have hszq : wq.heap.size = w.heap.size + 1 := by rw [← hwq]; exact hsz
    clear hwq
    have hc0 := Blk.cell hthq 0
    have hc1 := Blk.cell hthq 1
    have hf0 := Blk.frozen hthq 0
    have hf1 := Blk.frozen hthq 1
    simp only [List.getElem?_toArray, List.getElem?_cons_zero, List.getElem?_cons_succ] at hc0 hc1
    go_wp2_with fail
    have hfin := (Blk.set_ (hthq) 0 (.int .i64 0)).set_ 1 (.nilFunc)
    have hBf := ((hBq).setCell (p := ⟨w.heap.size, 0, none⟩) (Nat.le_refl _) (.int .i64 0)).setCell (p := ⟨w.heap.size, 1, none⟩) (Nat.le_refl _) (.nilFunc)
    refine bodyPost_ret (v := .tuple #[.agg #[.int .i64 0, .nilFunc], .string (str (rest)), .bool true]) (by refine results_row_tmp2 (p := 2) (t1 := 3) (t2 := 4) (ty := 49) ?_ _ _ w.heap.size _ _ _ _ ?_ hfin Try.underlying49 rfl (infoThingSize _ rfl) <;> rfl) rfl ⟨?_, hBf⟩
    unfold NextIs
    exact ⟨(.int .i64 0, .nilFunc), rfl, rfl⟩
  have q42 : ((c.toNat : Int) == 42) = false := u8_beq_lit (n := 42) (by omega) h42
  by_cases h63 : c = 63
  · subst h63
    go_enter Try.func26, Try.ntmps26
    go_wp2_with fail
    rw [← HW1.out]
    go_quiet (fail)
    generalize hwq : World.drewN w1 _ = wq
    have hthq : Blk wq w.heap.size 49 #[.int .i64 0, .nilFunc] := by rw [← hwq]; exact hth.drewN _
    have hBq : Below w.heap.size w wq := by rw [← hwq]; exact below_drewN hB1 _
    have hszq : wq.heap.size = w.heap.size + 1 := by rw [← hwq]; exact hsz
    clear hwq
    have hc0 := Blk.cell hthq 0
    have hc1 := Blk.cell hthq 1
    have hf0 := Blk.frozen hthq 0
    have hf1 := Blk.frozen hthq 1
    simp only [List.getElem?_toArray, List.getElem?_cons_zero, List.getElem?_cons_succ] at hc0 hc1
    go_wp2_with fail
    have hfin := (Blk.set_ (hthq) 0 (.int .i64 1)).set_ 1 (.func (.func 33) #[] #[])
    have hBf := ((hBq).setCell (p := ⟨w.heap.size, 0, none⟩) (Nat.le_refl _) (.int .i64 1)).setCell (p := ⟨w.heap.size, 1, none⟩) (Nat.le_refl _) (.func (.func 33) #[] #[])
    refine bodyPost_ret (v := .tuple #[.agg #[.int .i64 1, .func (.func 33) #[] #[]], .string (str (rest)), .bool true]) (by refine results_row_tmp2 (p := 2) (t1 := 3) (t2 := 4) (ty := 49) ?_ _ _ w.heap.size _ _ _ _ ?_ hfin Try.underlying49 rfl (infoThingSize _ rfl) <;> rfl) rfl ⟨?_, hBf⟩
    unfold NextIs
    exact ⟨(.int .i64 1, _), ⟨_, rfl, .inl ⟨rfl, fun _ => rfl⟩⟩, rfl⟩
  have q63 : ((c.toNat : Int) == 63) = false := u8_beq_lit (n := 63) (by omega) h63
  by_cases h92 : c = 92
  · subst h92
    cases rest with
    | nil =>
      have he := str_empty
      go_enter Try.func26, Try.ntmps26
      go_wp2_with fail
      rw [← HW1.out]
      go_quiet (fail)
      generalize hwq : World.drewN w1 _ = wq
      have hthq : Blk wq w.heap.size 49 #[.int .i64 0, .nilFunc] := by rw [← hwq]; exact hth.drewN _
      have hBq : Below w.heap.size w wq := by rw [← hwq]; exact below_drewN hB1 _
      have hszq : wq.heap.size = w.heap.size + 1 := by rw [← hwq]; exact hsz
      clear hwq
      have hc0 := Blk.cell hthq 0
      have hc1 := Blk.cell hthq 1
      have hf0 := Blk.frozen hthq 0
      have hf1 := Blk.frozen hthq 1
      simp only [List.getElem?_toArray, List.getElem?_cons_zero, List.getElem?_cons_succ] at hc0 hc1
      go_wp2_with fail
      have hfin := (Blk.set_ (hthq) 0 (.int .i64 0)).set_ 1 (.nilFunc)
      have hBf := ((hBq).setCell (p := ⟨w.heap.size, 0, none⟩) (Nat.le_refl _) (.int .i64 0)).setCell (p := ⟨w.heap.size, 1, none⟩) (Nat.le_refl _) (.nilFunc)
      refine bodyPost_ret (v := .tuple #[.agg #[.int .i64 0, .nilFunc], .string (str ([])), .bool false]) (by refine results_row_tmp2 (p := 2) (t1 := 3) (t2 := 4) (ty := 49) ?_ _ _ w.heap.size _ _ _ _ ?_ hfin Try.underlying49 rfl (infoThingSize _ rfl) <;> rfl) rfl ⟨?_, hBf⟩
      unfold NextIs
      exact rfl
    | cons x r =>
      simp only [List.length_cons] at hs0 hx hl
      have he := str_cons x r
      have hs1 : (str (x :: r)).size = r.length + 1 := by rw [str_size]; rfl
      have hg1 : ∀ h : 0 < (str (x :: r)).size, (str (x :: r))[0]'h = x := fun _ => rfl
      have hx1 : (str (x :: r)).extract 1 (r.length + 1) = str r := by rw [← hs1, str_from]; rfl
      go_enter Try.func26, Try.ntmps26
      go_wp2_with fail
      rw [← HW1.out]
      go_quiet (fail)
      generalize hwq : World.drewN w1 _ = wq
      have hthq : Blk wq w.heap.size 49 #[.int .i64 0, .nilFunc] := by rw [← hwq]; exact hth.drewN _
      have hBq : Below w.heap.size w wq := by rw [← hwq]; exact below_drewN hB1 _
      have hszq : wq.heap.size = w.heap.size + 1 := by rw [← hwq]; exact hsz
      clear hwq
      have hc0 := Blk.cell hthq 0
      have hc1 := Blk.cell hthq 1
      have hf0 := Blk.frozen hthq 0
      have hf1 := Blk.frozen hthq 1
      simp only [List.getElem?_toArray, List.getElem?_cons_zero, List.getElem?_cons_succ] at hc0 hc1
      go_wp2_with fail
      have hBd : Below w.heap.size w wq.drew := below_drewN hBq 1
      go_region_with (go_at_call 34; refine (gone_any x _).mono ?_; rintro e w2 ⟨⟨bo, rfl, hv⟩, hB2⟩; have hthr := Blk.below (Blk.drew hthq) hB2 (by show w.heap.size < wq.heap.size; omega); have hd0 := Blk.cell hthr 0; have hd1 := Blk.cell hthr 1; have hg0 := Blk.frozen hthr 0; have hg1 := Blk.frozen hthr 1; simp only [List.getElem?_toArray, List.getElem?_cons_zero, List.getElem?_cons_succ] at hd0 hd1)
      all_goals
        go_wp2_with fail
        have hfin := (Blk.set_ (hthr) 0 (.int .i64 1)).set_ 1 (.func (.func 37) #[] #[.pointer (some ⟨bo, 0, none⟩)])
        have hBf := ((below_then hBd (by show w.heap.size ≤ wq.heap.size; omega) hB2).setCell (p := ⟨w.heap.size, 0, none⟩) (Nat.le_refl _) (.int .i64 1)).setCell (p := ⟨w.heap.size, 1, none⟩) (Nat.le_refl _) (.func (.func 37) #[] #[.pointer (some ⟨bo, 0, none⟩)])
        refine bodyPost_ret (v := .tuple #[.agg #[.int .i64 1, .func (.func 37) #[] #[.pointer (some ⟨bo, 0, none⟩)]], .string (str (r)), .bool true]) (by refine results_row_tmp2 (p := 2) (t1 := 3) (t2 := 4) (ty := 49) ?_ _ _ w.heap.size _ _ _ _ ?_ hfin Try.underlying49 rfl (infoThingSize _ rfl) <;> rfl) rfl ⟨?_, hBf⟩
        unfold NextIs
        rw [show nextP (92 :: x :: r) = some (some (· == x), r) from rfl]
        exact ⟨(.int .i64 1, _), ⟨_, rfl, hv.keep (KeepT.set2 hthr _ _)⟩, rfl⟩
  have q92 : ((c.toNat : Int) == 92) = false := u8_beq_lit (n := 92) (by omega) h92
  by_cases h91 : c = 91
  · subst h91
    have hil := insideOf_len rest
    cases hI : insideOf rest with
    | nil =>
      have he := str_empty
      go_enter Try.func26, Try.ntmps26
      go_wp2_with fail
      rw [← HW1.out]
      go_quiet (fail)
      generalize hwq : World.drewN w1 _ = wq
      have hthq : Blk wq w.heap.size 49 #[.int .i64 0, .nilFunc] := by rw [← hwq]; exact hth.drewN _
      have hBq : Below w.heap.size w wq := by rw [← hwq]; exact below_drewN hB1 _
      have hszq : wq.heap.size = w.heap.size + 1 := by rw [← hwq]; exact hsz
      clear hwq
      have hc0 := Blk.cell hthq 0
      have hc1 := Blk.cell hthq 1
      have hf0 := Blk.frozen hthq 0
      have hf1 := Blk.frozen hthq 1
      simp only [List.getElem?_toArray, List.getElem?_cons_zero, List.getElem?_cons_succ] at hc0 hc1
      have hBd := hBq
      go_wp2_with (first | (go_at_call 35; refine (cut_any rest _).mono ?_; rintro e w' ⟨rfl, rfl⟩; rw [hI]) | (go_at_call 34; refine (gone_any 91 _).mono ?_; rintro e w2 ⟨⟨bo, rfl, hv⟩, hB2⟩; have hthr := Blk.below hthq hB2 (by omega); have hd0 := Blk.cell hthr 0; have hd1 := Blk.cell hthr 1; have hg0 := Blk.frozen hthr 0; have hg1 := Blk.frozen hthr 1; simp only [List.getElem?_toArray, List.getElem?_cons_zero, List.getElem?_cons_succ] at hd0 hd1))
      have hfin := (Blk.set_ (hthr) 0 (.int .i64 1)).set_ 1 (.func (.func 37) #[] #[.pointer (some ⟨bo, 0, none⟩)])
      have hBf := ((below_then hBd (by show w.heap.size ≤ wq.heap.size; omega) hB2).setCell (p := ⟨w.heap.size, 0, none⟩) (Nat.le_refl _) (.int .i64 1)).setCell (p := ⟨w.heap.size, 1, none⟩) (Nat.le_refl _) (.func (.func 37) #[] #[.pointer (some ⟨bo, 0, none⟩)])
      refine bodyPost_ret (v := .tuple #[.agg #[.int .i64 1, .func (.func 37) #[] #[.pointer (some ⟨bo, 0, none⟩)]], .string (str (rest)), .bool true]) (by refine results_row_tmp2 (p := 2) (t1 := 3) (t2 := 4) (ty := 49) ?_ _ _ w.heap.size _ _ _ _ ?_ hfin Try.underlying49 rfl (infoThingSize _ rfl) <;> rfl) rfl ⟨?_, hBf⟩
      unfold NextIs
      rw [nextP_brack, hI]
      unfold brackOf
      exact ⟨(.int .i64 1, _), ⟨_, rfl, hv.keep (KeepT.set2 hthr _ _)⟩, rfl⟩
    | cons a tl =>
      rw [hI] at hil
      simp only [List.length_cons] at hil
      have he := str_cons a tl
      have hs1 : (str (a :: tl)).size = tl.length + 1 := by rw [str_size]; rfl
      have hx1 : (str (a :: tl)).extract 1 (tl.length + 1) = str tl := by rw [← hs1, str_from]; rfl
      have hcl := index_close tl
      cases hca : closeAt tl with
      | none =>
        rw [hca] at hcl
        simp only at hcl
        go_enter Try.func26, Try.ntmps26
        go_wp2_with fail
        rw [← HW1.out]
        go_quiet (fail)
        generalize hwq : World.drewN w1 _ = wq
        have hthq : Blk wq w.heap.size 49 #[.int .i64 0, .nilFunc] := by rw [← hwq]; exact hth.drewN _
        have hBq : Below w.heap.size w wq := by rw [← hwq]; exact below_drewN hB1 _
        have hszq : wq.heap.size = w.heap.size + 1 := by rw [← hwq]; exact hsz
        clear hwq
        have hc0 := Blk.cell hthq 0
        have hc1 := Blk.cell hthq 1
        have hf0 := Blk.frozen hthq 0
        have hf1 := Blk.frozen hthq 1
        simp only [List.getElem?_toArray, List.getElem?_cons_zero, List.getElem?_cons_succ] at hc0 hc1
        have hBd := hBq
        go_wp2_with (first | (go_at_call 35; refine (cut_any rest _).mono ?_; rintro e w' ⟨rfl, rfl⟩; rw [hI]) | (go_at_call 19; refine (index_any tl 93 _).mono ?_; rintro e w' ⟨rfl, rfl⟩; rw [hcl]) | (go_at_call 34; refine (gone_any 91 _).mono ?_; rintro e w2 ⟨⟨bo, rfl, hv⟩, hB2⟩; have hthr := Blk.below hthq hB2 (by omega); have hd0 := Blk.cell hthr 0; have hd1 := Blk.cell hthr 1; have hg0 := Blk.frozen hthr 0; have hg1 := Blk.frozen hthr 1; simp only [List.getElem?_toArray, List.getElem?_cons_zero, List.getElem?_cons_succ] at hd0 hd1))
        have hfin := (Blk.set_ (hthr) 0 (.int .i64 1)).set_ 1 (.func (.func 37) #[] #[.pointer (some ⟨bo, 0, none⟩)])
        have hBf := ((below_then hBd (by show w.heap.size ≤ wq.heap.size; omega) hB2).setCell (p := ⟨w.heap.size, 0, none⟩) (Nat.le_refl _) (.int .i64 1)).setCell (p := ⟨w.heap.size, 1, none⟩) (Nat.le_refl _) (.func (.func 37) #[] #[.pointer (some ⟨bo, 0, none⟩)])
        refine bodyPost_ret (v := .tuple #[.agg #[.int .i64 1, .func (.func 37) #[] #[.pointer (some ⟨bo, 0, none⟩)]], .string (str (rest)), .bool true]) (by refine results_row_tmp2 (p := 2) (t1 := 3) (t2 := 4) (ty := 49) ?_ _ _ w.heap.size _ _ _ _ ?_ hfin Try.underlying49 rfl (infoThingSize _ rfl) <;> rfl) rfl ⟨?_, hBf⟩
        unfold NextIs
        rw [nextP_brack, hI]
        unfold brackOf
        dsimp only
        rw [hca]
        exact ⟨(.int .i64 1, _), ⟨_, rfl, hv.keep (KeepT.set2 hthr _ _)⟩, rfl⟩
      | some n =>
        have hn := closeAt_lt hca
        rw [hca] at hcl
        simp only at hcl
        have hx2 : (str (a :: tl)).extract 0 (n + 1) = str (a :: tl.take n) := by rw [str_upto]; rfl
        have hx3 : (str (a :: tl)).extract (n + 2) (tl.length + 1) = str (tl.drop (n + 1)) := by rw [← hs1, str_from]; rfl
        have hln : (a :: tl.take n).length ≤ 2097152 := by simp; omega
        have HLN := Lib.hid hln
        clear hln
        go_enter Try.func26, Try.ntmps26
        go_wp2_with fail
        rw [← HW1.out]
        go_quiet (fail)
        generalize hwq : World.drewN w1 _ = wq
        have hthq : Blk wq w.heap.size 49 #[.int .i64 0, .nilFunc] := by rw [← hwq]; exact hth.drewN _
        have hBq : Below w.heap.size w wq := by rw [← hwq]; exact below_drewN hB1 _
        have hszq : wq.heap.size = w.heap.size + 1 := by rw [← hwq]; exact hsz
        clear hwq
        have hc0 := Blk.cell hthq 0
        have hc1 := Blk.cell hthq 1
        have hf0 := Blk.frozen hthq 0
        have hf1 := Blk.frozen hthq 1
        simp only [List.getElem?_toArray, List.getElem?_cons_zero, List.getElem?_cons_succ] at hc0 hc1
        go_wp2_with (first | (go_at_call 35; refine (cut_any rest _).mono ?_; rintro e w' ⟨rfl, rfl⟩; rw [hI]) | (go_at_call 19; refine (index_any tl 93 _).mono ?_; rintro e w' ⟨rfl, rfl⟩; rw [hcl]))
        have hBd : Below w.heap.size w wq.drew := below_drewN hBq 1
        have hv1 : IntKind.i64.wrap ((n : Int) + 1) = (n : Int) + 1 := by rw [IntKind.wrap_i64]; omega
        have hv2 : IntKind.i64.wrap ((n : Int) + 2) = (n : Int) + 2 := by rw [IntKind.wrap_i64]; omega
        have hv3 : 0 ≤ (n : Int) + 1 := by omega
        have hv4 : 0 ≤ (n : Int) + 2 := by omega
        have hv5 : ((n : Int) + 1).toNat = n + 1 := by omega
        have hv6 : ((n : Int) + 2).toNat = n + 2 := by omega
        have hv7 : n + 1 ≤ tl.length + 1 := by omega
        have hv8 : n + 2 ≤ tl.length + 1 := by omega
        go_region_with (go_at_call 36; refine (gbracket_any (a :: tl.take n) (notOf rest) _ HLN.out).mono ?_; rintro e w2 ⟨⟨bo, bn, rfl, hv⟩, hB2⟩; have hthr := Blk.below (Blk.drew hthq) hB2 (by show w.heap.size < wq.heap.size; omega); have hd0 := Blk.cell hthr 0; have hd1 := Blk.cell hthr 1; have hg0 := Blk.frozen hthr 0; have hg1 := Blk.frozen hthr 1; simp only [List.getElem?_toArray, List.getElem?_cons_zero, List.getElem?_cons_succ] at hd0 hd1)
        all_goals
          go_wp2_with fail
          have hfin := (Blk.set_ (hthr) 0 (.int .i64 1)).set_ 1 (.func (.func 39) #[] #[.pointer (some ⟨bo, 0, none⟩), .pointer (some ⟨bn, 0, none⟩)])
          have hBf := ((below_then hBd (by show w.heap.size ≤ wq.heap.size; omega) hB2).setCell (p := ⟨w.heap.size, 0, none⟩) (Nat.le_refl _) (.int .i64 1)).setCell (p := ⟨w.heap.size, 1, none⟩) (Nat.le_refl _) (.func (.func 39) #[] #[.pointer (some ⟨bo, 0, none⟩), .pointer (some ⟨bn, 0, none⟩)])
          refine bodyPost_ret (v := .tuple #[.agg #[.int .i64 1, .func (.func 39) #[] #[.pointer (some ⟨bo, 0, none⟩), .pointer (some ⟨bn, 0, none⟩)]], .string (str (tl.drop (n + 1))), .bool true]) (by refine results_row_tmp2 (p := 2) (t1 := 3) (t2 := 4) (ty := 49) ?_ _ _ w.heap.size _ _ _ _ ?_ hfin Try.underlying49 rfl (infoThingSize _ rfl) <;> rfl) rfl ⟨?_, hBf⟩
          unfold NextIs
          rw [nextP_brack, hI]
          unfold brackOf
          dsimp only
          rw [hca]
          exact ⟨(.int .i64 1, _), ⟨_, rfl, hv.keep (KeepT.set2 hthr _ _)⟩, rfl⟩
  have q91 : ((c.toNat : Int) == 91) = false := u8_beq_lit (n := 91) (by omega) h91
  go_enter Try.func26, Try.ntmps26
  go_wp2_with fail
  rw [← HW1.out]
  go_quiet (fail)
  generalize hwq : World.drewN w1 _ = wq
  have hthq : Blk wq w.heap.size 49 #[.int .i64 0, .nilFunc] := by rw [← hwq]; exact hth.drewN _
  have hBq : Below w.heap.size w wq := by rw [← hwq]; exact below_drewN hB1 _
  have hszq : wq.heap.size = w.heap.size + 1 := by rw [← hwq]; exact hsz
  clear hwq
  have hc0 := Blk.cell hthq 0
  have hc1 := Blk.cell hthq 1
  have hf0 := Blk.frozen hthq 0
  have hf1 := Blk.frozen hthq 1
  simp only [List.getElem?_toArray, List.getElem?_cons_zero, List.getElem?_cons_succ] at hc0 hc1
  have hBd := hBq
  go_wp2_with (first | (go_at_call 34; refine (gone_any c _).mono ?_; rintro e w2 ⟨⟨bo, rfl, hv⟩, hB2⟩; have hthr := Blk.below hthq hB2 (by omega); have hd0 := Blk.cell hthr 0; have hd1 := Blk.cell hthr 1; have hg0 := Blk.frozen hthr 0; have hg1 := Blk.frozen hthr 1; simp only [List.getElem?_toArray, List.getElem?_cons_zero, List.getElem?_cons_succ] at hd0 hd1))
  have hfin := (Blk.set_ (hthr) 0 (.int .i64 1)).set_ 1 (.func (.func 37) #[] #[.pointer (some ⟨bo, 0, none⟩)])
  have hBf := ((below_then hBd (by show w.heap.size ≤ wq.heap.size; omega) hB2).setCell (p := ⟨w.heap.size, 0, none⟩) (Nat.le_refl _) (.int .i64 1)).setCell (p := ⟨w.heap.size, 1, none⟩) (Nat.le_refl _) (.func (.func 37) #[] #[.pointer (some ⟨bo, 0, none⟩)])
  refine bodyPost_ret (v := .tuple #[.agg #[.int .i64 1, .func (.func 37) #[] #[.pointer (some ⟨bo, 0, none⟩)]], .string (str (rest)), .bool true]) (by refine results_row_tmp2 (p := 2) (t1 := 3) (t2 := 4) (ty := 49) ?_ _ _ w.heap.size _ _ _ _ ?_ hfin Try.underlying49 rfl (infoThingSize _ rfl) <;> rfl) rfl ⟨?_, hBf⟩
  unfold NextIs
  rw [show nextP (c :: rest) = some (some (· == c), rest) from by unfold nextP; simp only [if_neg h42, if_neg h63, if_neg h92, if_neg h91]]
  exact ⟨(.int .i64 1, _), ⟨_, rfl, hv.keep (KeepT.set2 hthr _ _)⟩, rfl⟩
end Go.Proofs.Ytafiadlkfjacnaa
