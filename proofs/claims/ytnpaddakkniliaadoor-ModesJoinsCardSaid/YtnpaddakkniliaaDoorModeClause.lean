/-
  modes' clause: its contract.
-/
import Derived.Test.YtnpaddakkniliaaDoorModeLetters
import Derived.Test.YtnpaddakkniliaaDoorShelf
namespace Go.Proofs.YtnpaddakkniliaaDoor
open Go.RowKit

theorem sz_alloc (w : World) (o : Obj) : (w.alloc o).heap.size = w.heap.size + 1 := by simp
theorem str_isE : (str []).toList.isEmpty = true := by rw [ByteArray.toList_eq]; rfl
theorem str_isS (a : List UInt8) (h : a ≠ []) : (str a).toList.isEmpty = false := by
  rw [ByteArray.toList_eq]
  cases a with
  | nil => exact absurd rfl h
  | cons _ _ => rfl
theorem idx3 (a b d c : UInt8) : Lib.indexByte [a, b, d] c = if a = c then 0 else if b = c then 1 else if d = c then 2 else -1 := by
  by_cases h1 : a = c
  · simp [Lib.indexByte, h1]
  · by_cases h2 : b = c
    · simp [Lib.indexByte, h1, h2]
    · by_cases h3 : d = c
      · simp [Lib.indexByte, h1, h2, h3]
      · simp [Lib.indexByte, h1, h2, h3]
theorem idx_any (a b d c : UInt8) (w : World) : Calls Tryd.prog 25 #[.string { data := #[a, b, d] }, .int .u8 (c.toNat : Int)] w fun e w' =>
    e = .returned (.int .i64 (if a = c then 0 else if b = c then 1 else if d = c then 2 else -1)) ∧ w' = w :=
  (Go.Proofs.Tryd.strings_IndexByte (str [a, b, d]) (c.toNat : Int) w).mono fun e w' h => ⟨by
    have hc : ((c.toNat : Int).toNat).toUInt8 = c := by simp
    rw [h.1, hc]
    show Ending.returned (.int .i64 (Lib.indexByte [a, b, d] c)) = _
    rw [idx3], h.2⟩
theorem op_is (c : UInt8) (w : World) : Calls Tryd.prog 25 #[.string { data := #[43, 45, 61] }, .int .u8 (c.toNat : Int)] w fun e w' =>
    (∃ z : Int, e = .returned (.int .i64 z) ∧ (z < 0 ↔ isOp c = false)) ∧ w' = w :=
  (idx_any 43 45 61 c w).mono fun e w' h => ⟨⟨_, h.1, by
    unfold isOp
    by_cases h1 : c = 43
    · subst h1; decide
    · by_cases h2 : c = 45
      · subst h2; decide
      · by_cases h3 : c = 61
        · subst h3; decide
        · have e1 : ¬ (43 : UInt8) = c := fun e => h1 e.symm
          have e2 : ¬ (45 : UInt8) = c := fun e => h2 e.symm
          have e3 : ¬ (61 : UInt8) = c := fun e => h3 e.symm
          simp [h1, h2, h3, e1, e2, e3]⟩, h.2⟩
theorem ugo_is (c : UInt8) (w : World) : Calls Tryd.prog 25 #[.string { data := #[117, 103, 111] }, .int .u8 (c.toNat : Int)] w fun e w' =>
    (∃ z : Int, e = .returned (.int .i64 z) ∧ (z < 0 ↔ isUgo c = false)) ∧ w' = w :=
  (idx_any 117 103 111 c w).mono fun e w' h => ⟨⟨_, h.1, by
    unfold isUgo
    by_cases h1 : c = 117
    · subst h1; decide
    · by_cases h2 : c = 103
      · subst h2; decide
      · by_cases h3 : c = 111
        · subst h3; decide
        · have e1 : ¬ (117 : UInt8) = c := fun e => h1 e.symm
          have e2 : ¬ (103 : UInt8) = c := fun e => h2 e.symm
          have e3 : ¬ (111 : UInt8) = c := fun e => h3 e.symm
          simp [h1, h2, h3, e1, e2, e3]⟩, h.2⟩
theorem who_lt : ∀ c b, lookM whoM c = some b → b < 16 := by
  intro c b h
  simp only [whoM, lookM] at h
  split at h
  · injection h with h; omega
  · split at h
    · injection h with h; omega
    · split at h
      · injection h with h; omega
      · split at h
        · injection h with h; omega
        · cases h
theorem bit_lt : ∀ c b, lookM bitM c = some b → b < 16 := by
  intro c b h
  simp only [bitM, lookM] at h
  split at h
  · injection h with h; omega
  · split at h
    · injection h with h; omega
    · split at h
      · injection h with h; omega
      · split at h
        · injection h with h; omega
        · cases h
theorem bits16 : ∀ b : Nat, b < 16 → bits .and .i64 (b : Int) 8 = ((if b / 8 % 2 = 1 then 8 else 0 : Nat) : Int) ∧ bits .andNot .i64 (b : Int) 8 = ((b % 8 : Nat) : Int) := by decide +kernel
def ClauseIs (s : List UInt8) (B : Nat) (w' : World) (e : Ending) : Prop :=
  match clauseV s with
  | none => ∃ v, e = .returned (.tuple #[v, .bool false])
  | some l => ∃ v, e = .returned (.tuple #[v, .bool true]) ∧ w'.ownsRow B 36 5 v l.length (chgv l)
theorem ClauseIs.no {s : List UInt8} {B : Nat} {w' : World} {v : Value} (h : clauseV s = none) : ClauseIs s B w' (.returned (.tuple #[v, .bool false])) := by
  unfold ClauseIs
  rw [h]
  exact ⟨v, rfl⟩
def addC (l : List Chg) (x : Option (List Chg)) : Option (List Chg) := x.map (l ++ ·)
theorem addC_addC (a b : List Chg) (x : Option (List Chg)) : addC a (addC b x) = addC (a ++ b) x := by cases x <;> simp [addC]
theorem clauseGo_cons (who n : Nat) (op : UInt8) (r : List UInt8) (h : isOp op = true) : clauseGo who (n + 1) (op :: r) = addC [(oneV who op r).1] (clauseGo who n (oneV who op r).2) := by
  show (if isOp op = true then (clauseGo who n (oneV who op r).2).map ((oneV who op r).1 :: ·) else none) = _
  rw [if_pos h]
  rfl
theorem clauseGo_no (who n : Nat) (op : UInt8) (r : List UInt8) (h : isOp op = false) : clauseGo who (n + 1) (op :: r) = none := by
  show (if isOp op = true then (clauseGo who n (oneV who op r).2).map ((oneV who op r).1 :: ·) else none) = none
  rw [h]
  rfl
theorem clauseV_of {s : List UInt8} {W : Nat} {t : List UInt8} (h : lettersM whoM 0 s = (W, t)) : clauseV s = match clauseGo W t.length t with
    | none => none
    | some [] => none
    | some (x :: l) => some (x :: l) := by
  have hl := lettersM_len whoM s 0
  unfold clauseV
  rw [h] at hl ⊢
  simp only
  rw [clauseGo_more W s.length t.length t hl (Nat.le_refl _)]
  cases clauseGo W t.length t with
  | none => rfl
  | some l => cases l <;> rfl

set_option maxRecDepth 100000 in
set_option maxHeartbeats 16000000 in
theorem clause_any (s : List UInt8) (w : World) (hl : s.length ≤ 4096) :
    Calls Tryd.prog 29 #[.string (str s)] w fun e w' => ClauseIs s w.heap.size w' e ∧ Below w.heap.size w w' := by
  obtain ⟨i0, hi0, hz0, hz1', hz2⟩ := info_parts infoChg
  have hmm := @run_makeMap Tryd.prog
  have p0 := MapI.new w .u8
  have pb0 : Below w.heap.size w (w.alloc (.map #[] 0)) := (Below.refl _ _).alloc (Nat.le_refl _) _
  have pz0 : (w.alloc (.map #[] 0)).heap.size = w.heap.size + 1 := by simp
  go_enter Tryd.func29, Tryd.ntmps29
  go_wp2_with (first
    | (refine wpList_insertI rfl (.tmp 9) (.const (.int .u8 117)) (.const (.int .i64 4)) 78 rfl p0 5 3 Tryd.underlying78 Tryd.underlying5 117 _ rfl rfl rfl rfl ?_; intro pw1 p1 pg1 ps1)
    | (refine wpList_insertI rfl (.tmp 9) (.const (.int .u8 103)) (.const (.int .i64 2)) 78 rfl p1 5 3 Tryd.underlying78 Tryd.underlying5 103 _ rfl rfl rfl rfl ?_; intro pw2 p2 pg2 ps2)
    | (refine wpList_insertI rfl (.tmp 9) (.const (.int .u8 111)) (.const (.int .i64 1)) 78 rfl p2 5 3 Tryd.underlying78 Tryd.underlying5 111 _ rfl rfl rfl rfl ?_; intro pw3 p3 pg3 ps3)
    | (refine wpList_insertI rfl (.tmp 9) (.const (.int .u8 97)) (.const (.int .i64 7)) 78 rfl p3 5 3 Tryd.underlying78 Tryd.underlying5 97 _ rfl rfl rfl rfl ?_; intro pw4 p4 pg4 ps4))
  have hM4 : MapI pw4 w.heap.size .u8 (mv whoM) := p4
  have b4 : Below w.heap.size w pw4 := (((pb0.grown pg1 (by omega) (fun k e => by cases e; exact Nat.le_refl _)).grown pg2 (by omega) (fun k e => by cases e; exact Nat.le_refl _)).grown pg3 (by omega) (fun k e => by cases e; exact Nat.le_refl _)).grown pg4 (by omega) (fun k e => by cases e; exact Nat.le_refl _)
  refine (mletters_any whoM s w.heap.size pw4 hM4 (by omega) who_lt).mono ?_
  rintro e w5 ⟨⟨n0, rfl⟩, hW16, kk, hw5⟩
  have b5 : Below w.heap.size w w5 := by rw [hw5]; exact below_drewN b4 kk
  obtain ⟨W, hW⟩ : ∃ W, W = (lettersM whoM 0 s).1 := ⟨_, rfl⟩
  obtain ⟨t0, ht0⟩ : ∃ t, t = (lettersM whoM 0 s).2 := ⟨_, rfl⟩
  have HCV := Lib.hid (clauseV_of (s := s) (W := W) (t := t0) (by rw [hW, ht0]))
  have ht0l : t0.length ≤ s.length := by rw [ht0]; exact lettersM_len whoM s 0
  rw [← hW] at hW16
  rw [← hW, ← ht0]
  clear hW ht0 hw5 b4 hM4 p0 p1 p2 p3 p4 pg1 pg2 pg3 pg4 ps1 ps2 ps3 ps4 pb0 pz0 pw1 pw2 pw3 pw4
  go_wp2_with fail
  go_loopg [0, 2] t0.length (fun g sv lv wx => ∃ (t : List UInt8) (l : List Chg), t.length = g ∧ sv = .string (str t) ∧ Hid (clauseGo W t0.length t0 = addC l (clauseGo W t.length t)) ∧ l.length + t.length ≤ t0.length ∧ wx.ownsRow w5.heap.size 36 5 lv l.length (chgv l) ∧ Below w5.heap.size w5 wx)
  case atStart => exact ⟨t0, [], rfl, rfl, by show _ = addC [] _; unfold addC; cases clauseGo W t0.length t0 <;> simp, by simp, World.ownsRow_nil _ _ _ _, Below.refl _ _⟩
  case round =>
    obtain ⟨t, l, htl, rfl, HG, hlt, hown, hB⟩ := hrel
    have hsz := hB.size
    have hbw : Below w.heap.size w wr := b5.trans (hB.mono b5.size)
    obtain ⟨A, c, rfl⟩ := own_slice hown
    rcases t with _ | ⟨op, r⟩
    · have hq := str_isE
      cases l with
      | nil =>
        have HNO := Lib.hid (show clauseV s = none by rw [HCV.out, HG.out]; rfl)
        go_wp2_with fail
        go_ret2
        exact ⟨ClauseIs.no HNO.out, hbw⟩
      | cons x l =>
        have HY := Lib.hid (show clauseV s = some (x :: l) by rw [HCV.out, HG.out]; show (match addC (x :: l) (some []) with | none => none | some [] => none | some (x :: l) => some (x :: l)) = _; simp [addC])
        have hI : decide ((0 : Int) < (((x :: l).length : Nat) : Int)) = true := decide_eq_true (by simp only [List.length_cons]; omega)
        have hown2 := ownsRow_mono (base' := w.heap.size) hown b5.size
        obtain ⟨m, hm⟩ : ∃ m, m = (x :: l).length := ⟨_, rfl⟩
        rw [← hm] at hI hown2 ⊢
        have hI2 : decide (0 < m) = true := decide_eq_true (by rw [hm]; simp)
        have HM := Lib.hid hm
        clear hm hown
        go_wp2_with fail
        go_ret2
        refine ⟨?_, hbw⟩
        unfold ClauseIs
        rw [HY.out]
        exact ⟨_, rfl, by rw [← HM.out]; exact hown2⟩
    · obtain ⟨g', rfl⟩ : ∃ g', gk = g' + 1 := ⟨r.length, by simpa using htl.symm⟩
      have hrl : r.length = g' := by simpa using htl
      have hq : (str (op :: r)).toList.isEmpty = false := str_isS _ (by simp)
      have hss : (str (op :: r)).size = r.length + 1 := by rw [str_size]; rfl
      have hg0 : ∀ h : 0 < (str (op :: r)).size, (str (op :: r))[0]'h = op := fun _ => rfl
      have hx : (str (op :: r)).extract 1 (g' + 1) = str r := by rw [← hrl, ← hss, str_from]; rfl
      go_wp2_with fail
      refine (op_is op _).mono ?_
      rintro e w6 ⟨⟨z, rfl, hz⟩, hw6⟩
      rw [hw6]
      clear hw6 w6
      cases hop : isOp op with
      | false =>
        have hzI : decide (z < 0) = true := decide_eq_true (hz.2 hop)
        have HNO := Lib.hid (show clauseV s = none by rw [HCV.out, HG.out]; show (match addC l (clauseGo W (r.length + 1) (op :: r)) with | none => none | some [] => none | some (x :: l) => some (x :: l)) = none; rw [clauseGo_no W _ op r hop]; rfl)
        go_wp2_with fail
        go_ret2
        exact ⟨ClauseIs.no HNO.out, hbw.alloc hbw.size _⟩
      | true =>
        have hzI : decide (z < 0) = false := decide_eq_false (fun h => by rw [hz.1 h] at hop; cases hop)
        have HG2 := Lib.hid (show clauseGo W t0.length t0 = addC (l ++ [(oneV W op r).1]) (clauseGo W r.length (oneV W op r).2) by
          rw [HG.out]; show addC l (clauseGo W (r.length + 1) (op :: r)) = _; rw [clauseGo_cons W _ op r hop, addC_addC])
        clear hop hz HG
        have hF := Blk.new wr 36 #[.int .i64 (W : Int), .int .u8 (op.toNat : Int), .int .i64 0, .int .u8 0, .bool false]
        have hB1 : Below w5.heap.size w5 (wr.alloc (.cells #[.int .i64 (W : Int), .int .u8 (op.toNat : Int), .int .i64 0, .int .u8 0, .bool false] 36)) := hB.alloc hsz _
        have hz1 : (wr.alloc (.cells #[.int .i64 (W : Int), .int .u8 (op.toNat : Int), .int .i64 0, .int .u8 0, .bool false] 36)).heap.size = wr.heap.size + 1 := by simp
        have hown1 := hown.alloc (.cells #[.int .i64 (W : Int), .int .u8 (op.toNat : Int), .int .i64 0, .int .u8 0, .bool false] 36)
        rcases r with _ | ⟨c, r2⟩
        · have hq2 : (str []).toList.isEmpty = true := str_isE
          have q0 := MapI.new (wr.alloc (.cells #[.int .i64 (W : Int), .int .u8 (op.toNat : Int), .int .i64 0, .int .u8 0, .bool false] 36)) .u8
          rw [hz1] at q0
          have qb0 : Below wr.heap.size wr ((wr.alloc (.cells #[.int .i64 (W : Int), .int .u8 (op.toNat : Int), .int .i64 0, .int .u8 0, .bool false] 36)).alloc (.map #[] 0)) := ((Below.refl _ _).alloc (Nat.le_refl _) _).alloc (by simp) _
          have qz0 : ((wr.alloc (.cells #[.int .i64 (W : Int), .int .u8 (op.toNat : Int), .int .i64 0, .int .u8 0, .bool false] 36)).alloc (.map #[] 0)).heap.size = wr.heap.size + 2 := by simp
          have hF0 := hF.alloc (.map #[] 0)
          go_wp2_with (first
            | (refine wpList_insertI rfl (.tmp 42) (.const (.int .u8 114)) (.const (.int .i64 4)) 78 rfl q0 5 3 Tryd.underlying78 Tryd.underlying5 114 _ rfl rfl rfl rfl ?_; intro qw1 q1 qg1 qs1)
            | (refine wpList_insertI rfl (.tmp 42) (.const (.int .u8 119)) (.const (.int .i64 2)) 78 rfl q1 5 3 Tryd.underlying78 Tryd.underlying5 119 _ rfl rfl rfl rfl ?_; intro qw2 q2 qg2 qs2)
            | (refine wpList_insertI rfl (.tmp 42) (.const (.int .u8 120)) (.const (.int .i64 1)) 78 rfl q2 5 3 Tryd.underlying78 Tryd.underlying5 120 _ rfl rfl rfl rfl ?_; intro qw3 q3 qg3 qs3)
            | (refine wpList_insertI rfl (.tmp 42) (.const (.int .u8 88)) (.const (.int .i64 8)) 78 rfl q3 5 3 Tryd.underlying78 Tryd.underlying5 88 _ rfl rfl rfl rfl ?_; intro qw4 q4 qg4 qs4))
          have hM4 : MapI qw4 (wr.heap.size + 1) .u8 (mv bitM) := q4
          have qb4 : Below wr.heap.size wr qw4 := (((qb0.grown qg1 (by omega) (fun k e => by cases e; omega)).grown qg2 (by omega) (fun k e => by cases e; omega)).grown qg3 (by omega) (fun k e => by cases e; omega)).grown qg4 (by omega) (fun k e => by cases e; omega)
          have hF4 := (((hF0.grown qg1 (by simp)).grown qg2 (by simp)).grown qg3 (by simp)).grown qg4 (by simp)
          have qz4 : qw4.heap.size = wr.heap.size + 2 := by omega
          refine (mletters_any bitM [] (wr.heap.size + 1) qw4 hM4 (by first | omega | (simp only [List.length_cons, List.length_nil] at *; omega)) bit_lt).mono ?_
          rintro e w6 ⟨⟨n1, rfl⟩, hb16, kk, hw6⟩
          have hB6 : Below wr.heap.size wr w6 := by rw [hw6]; exact below_drewN qb4 kk
          have hF6 : Blk w6 wr.heap.size 36 #[.int .i64 (W : Int), .int .u8 (op.toNat : Int), .int .i64 0, .int .u8 0, .bool false] := by rw [hw6]; exact hF4
          have hz6 : w6.heap.size = wr.heap.size + 2 := by rw [hw6]; exact qz4
          obtain ⟨b, hb⟩ : ∃ b, b = (lettersM bitM 0 []).1 := ⟨_, rfl⟩
          obtain ⟨t1, ht1⟩ : ∃ t, t = (lettersM bitM 0 []).2 := ⟨_, rfl⟩
          have ht1l : t1.length ≤ ([] : List UInt8).length := by rw [ht1]; exact lettersM_len bitM [] 0
          rw [← hb] at hb16
          rw [← hb, ← ht1]
          have HG3 := Lib.hid (show clauseGo W t0.length t0 = addC (l ++ [⟨W, op, ((b % 8 : Nat) : Int), 0, decide (b / 8 % 2 = 1)⟩]) (clauseGo W t1.length t1) by
            rw [HG2.out, ht1, hb]
            rfl)
          have f0 : w6.cell? ⟨wr.heap.size, 0, none⟩ = some (.int .i64 (W : Int)) := hF6.cell 0
          have f1 : w6.cell? ⟨wr.heap.size, 1, none⟩ = some (.int .u8 (op.toNat : Int)) := hF6.cell 1
          have f2 : w6.cell? ⟨wr.heap.size, 2, none⟩ = some (.int .i64 0) := hF6.cell 2
          have f3 : w6.cell? ⟨wr.heap.size, 3, none⟩ = some (.int .u8 0) := hF6.cell 3
          have f4 : w6.cell? ⟨wr.heap.size, 4, none⟩ = some (.bool false) := hF6.cell 4
          have g2 := hF6.frozen 2
          have g4 := hF6.frozen 4
          obtain ⟨a1, a2⟩ := bits16 b hb16
          obtain ⟨b8, hb8⟩ : ∃ b8, b8 = b % 8 := ⟨_, rfl⟩
          rw [← hb8] at a2 HG3
          clear hb ht1 hw6 hM4 q0 q1 q2 q3 q4 qg1 qg2 qg3 qg4 qs1 qs2 qs3 qs4 hF0 hF4 qb0 qb4 qz0 qz4 qw1 qw2 qw3 qw4
          by_cases hd : b / 8 % 2 = 1
          · rw [if_pos hd] at a1
            rw [decide_eq_true hd] at HG3
            clear hd hb8
            have hBX : Below wr.heap.size wr (((w6.setCell ⟨wr.heap.size, 2, none⟩ (.int .i64 (b : Int))).setCell ⟨wr.heap.size, 4, none⟩ (.bool true)).setCell ⟨wr.heap.size, 2, none⟩ (.int .i64 (b8 : Int))) := ((hB6.setCell (Nat.le_refl _) _).setCell (Nat.le_refl _) _).setCell (Nat.le_refl _) _
            have hz7 : (((w6.setCell ⟨wr.heap.size, 2, none⟩ (.int .i64 (b : Int))).setCell ⟨wr.heap.size, 4, none⟩ (.bool true)).setCell ⟨wr.heap.size, 2, none⟩ (.int .i64 (b8 : Int))).heap.size = wr.heap.size + 2 := by simp [World.setCell]; exact hz6
            have hownX := own_below hown hBX
            go_wp2_with (at_builtin; refine wpList_append_own _ rfl (.tmp 58) (.tmp 60) 34 rfl w5.heap.size 36 i0 (.agg #[.int .i64 0, .int .u8 0, .int .i64 0, .int .u8 0, .bool false]) 5 32 Tryd.underlying34 hi0 hz0 hz1' hz2 rfl (by decide) _ _ _ rfl (hownX.alloc _) ⟨wr.heap.size + 2, 0, none⟩ 1 1 [.int .i64 (W : Int), .int .u8 (op.toNat : Int), .int .i64 (b8 : Int), .int .u8 0, .bool true] rfl rfl (by have h := cells_new (((w6.setCell ⟨wr.heap.size, 2, none⟩ (.int .i64 (b : Int))).setCell ⟨wr.heap.size, 4, none⟩ (.bool true)).setCell ⟨wr.heap.size, 2, none⟩ (.int .i64 (b8 : Int))) #[.int .i64 (W : Int), .int .u8 (op.toNat : Int), .int .i64 (b8 : Int), .int .u8 0, .bool true] 36; rw [hz7] at h; exact h) (chg1_one (⟨W, op, (b8 : Int), 0, true⟩ : Chg)) (by unfold maxLen; omega) (by omega) (by rw [sz_alloc, hz7]; omega) ?_; intro v9 w9 hown9 hg9 _)
            have hB9 : Below w5.heap.size w5 w9 := ((hB.trans (hBX.mono hsz)).alloc (by rw [hz7]; omega) _).grown hg9 (by rw [sz_alloc, hz7]; omega) (own_ge hown)
            have hown10 : w9.ownsRow w5.heap.size 36 5 v9 (l ++ [(⟨W, op, (b8 : Int), 0, true⟩ : Chg)]).length (chgv (l ++ [(⟨W, op, (b8 : Int), 0, true⟩ : Chg)])) := by
              rw [show chgv (l ++ [(⟨W, op, (b8 : Int), 0, true⟩ : Chg)]) = chgv l ++ chg1 (⟨W, op, (b8 : Int), 0, true⟩ : Chg) from by simp [sv_append, sv], List.length_append]
              exact hown9
            go_wp2_with fail
            go_roundg t1.length
            case measure => first | omega | (simp only [List.length_cons, List.length_nil] at *; omega)
            case rel => exact ⟨t1, l ++ [(⟨W, op, (b8 : Int), 0, true⟩ : Chg)], rfl, rfl, HG3, by rw [List.length_append]; simp only [List.length_cons, List.length_nil] at *; omega, hown10, hB9⟩
          · rw [if_neg hd] at a1
            rw [decide_eq_false hd] at HG3
            clear hd hb8
            have hBX : Below wr.heap.size wr (((w6.setCell ⟨wr.heap.size, 2, none⟩ (.int .i64 (b : Int))).setCell ⟨wr.heap.size, 4, none⟩ (.bool false)).setCell ⟨wr.heap.size, 2, none⟩ (.int .i64 (b8 : Int))) := ((hB6.setCell (Nat.le_refl _) _).setCell (Nat.le_refl _) _).setCell (Nat.le_refl _) _
            have hz7 : (((w6.setCell ⟨wr.heap.size, 2, none⟩ (.int .i64 (b : Int))).setCell ⟨wr.heap.size, 4, none⟩ (.bool false)).setCell ⟨wr.heap.size, 2, none⟩ (.int .i64 (b8 : Int))).heap.size = wr.heap.size + 2 := by simp [World.setCell]; exact hz6
            have hownX := own_below hown hBX
            go_wp2_with (at_builtin; refine wpList_append_own _ rfl (.tmp 58) (.tmp 60) 34 rfl w5.heap.size 36 i0 (.agg #[.int .i64 0, .int .u8 0, .int .i64 0, .int .u8 0, .bool false]) 5 32 Tryd.underlying34 hi0 hz0 hz1' hz2 rfl (by decide) _ _ _ rfl (hownX.alloc _) ⟨wr.heap.size + 2, 0, none⟩ 1 1 [.int .i64 (W : Int), .int .u8 (op.toNat : Int), .int .i64 (b8 : Int), .int .u8 0, .bool false] rfl rfl (by have h := cells_new (((w6.setCell ⟨wr.heap.size, 2, none⟩ (.int .i64 (b : Int))).setCell ⟨wr.heap.size, 4, none⟩ (.bool false)).setCell ⟨wr.heap.size, 2, none⟩ (.int .i64 (b8 : Int))) #[.int .i64 (W : Int), .int .u8 (op.toNat : Int), .int .i64 (b8 : Int), .int .u8 0, .bool false] 36; rw [hz7] at h; exact h) (chg1_one (⟨W, op, (b8 : Int), 0, false⟩ : Chg)) (by unfold maxLen; omega) (by omega) (by rw [sz_alloc, hz7]; omega) ?_; intro v9 w9 hown9 hg9 _)
            have hB9 : Below w5.heap.size w5 w9 := ((hB.trans (hBX.mono hsz)).alloc (by rw [hz7]; omega) _).grown hg9 (by rw [sz_alloc, hz7]; omega) (own_ge hown)
            have hown10 : w9.ownsRow w5.heap.size 36 5 v9 (l ++ [(⟨W, op, (b8 : Int), 0, false⟩ : Chg)]).length (chgv (l ++ [(⟨W, op, (b8 : Int), 0, false⟩ : Chg)])) := by
              rw [show chgv (l ++ [(⟨W, op, (b8 : Int), 0, false⟩ : Chg)]) = chgv l ++ chg1 (⟨W, op, (b8 : Int), 0, false⟩ : Chg) from by simp [sv_append, sv], List.length_append]
              exact hown9
            go_wp2_with fail
            go_roundg t1.length
            case measure => first | omega | (simp only [List.length_cons, List.length_nil] at *; omega)
            case rel => exact ⟨t1, l ++ [(⟨W, op, (b8 : Int), 0, false⟩ : Chg)], rfl, rfl, HG3, by rw [List.length_append]; simp only [List.length_cons, List.length_nil] at *; omega, hown10, hB9⟩
        · have hq2 : (str (c :: r2)).toList.isEmpty = false := str_isS _ (by simp)
          have hgc : ∀ h : 0 < (str (c :: r2)).size, (str (c :: r2))[0]'h = c := fun _ => rfl
          have hss2 : (str (c :: r2)).size = r2.length + 1 := by rw [str_size]; rfl
          have hx2 : (str (c :: r2)).extract 1 (r2.length + 1) = str r2 := by rw [← hss2, str_from]; rfl
          go_wp2_with fail
          refine (ugo_is c _).mono ?_
          rintro e w6 ⟨⟨z2, rfl, hzz⟩, hw6⟩
          rw [hw6]
          clear hw6 w6
          cases hu : isUgo c with
          | true =>
            have hz2I : decide (0 ≤ z2) = true := decide_eq_true (by rcases Int.lt_or_le z2 0 with h | h; rw [hzz.1 h] at hu; cases hu; exact h)
            have HG3 := Lib.hid (show clauseGo W t0.length t0 = addC (l ++ [⟨W, op, 0, c, false⟩]) (clauseGo W r2.length r2) by
              rw [HG2.out]
              have e1 : oneV W op (c :: r2) = (⟨W, op, 0, c, false⟩, r2) := by
                show (if isUgo c = true then ((⟨W, op, 0, c, false⟩, r2) : Chg × List UInt8) else _) = _
                rw [if_pos hu]
              rw [e1, clauseGo_more W (c :: r2).length r2.length r2 (by simp) (Nat.le_refl _)])
            clear hu hzz HG2
            have f0 := hF.cell 0
            have f3 := hF.cell 3
            have g3 := hF.frozen 3
            have hBY : Below wr.heap.size wr (wr.alloc (.cells #[.int .i64 (W : Int), .int .u8 (op.toNat : Int), .int .i64 0, .int .u8 (c.toNat : Int), .bool false] 36)) := (Below.refl _ _).alloc (Nat.le_refl _) _
            have hz7' : (wr.alloc (.cells #[.int .i64 (W : Int), .int .u8 (op.toNat : Int), .int .i64 0, .int .u8 (c.toNat : Int), .bool false] 36)).heap.size = wr.heap.size + 1 := by simp
            go_wp2_with fail
            go_region
            obtain ⟨w7, hw7⟩ : ∃ w7, w7 = (wr.alloc (.cells #[.int .i64 (W : Int), .int .u8 (op.toNat : Int), .int .i64 0, .int .u8 (c.toNat : Int), .bool false] 36)).drew := ⟨_, rfl⟩
            rw [← hw7]
            have hF7 : Blk w7 wr.heap.size 36 #[.int .i64 (W : Int), .int .u8 (op.toNat : Int), .int .i64 0, .int .u8 (c.toNat : Int), .bool false] := by rw [hw7]; exact Blk.drew (Blk.new wr _ _)
            have hBX : Below wr.heap.size wr w7 := by rw [hw7]; exact (hBY.drew)
            have hz7 : w7.heap.size = wr.heap.size + 1 := by rw [hw7]; exact hz7'
            clear hw7 f0 f3 g3 hBY hz7'
            have k0 : w7.cell? ⟨wr.heap.size, 0, none⟩ = some (.int .i64 (W : Int)) := hF7.cell 0
            have k1 : w7.cell? ⟨wr.heap.size, 1, none⟩ = some (.int .u8 (op.toNat : Int)) := hF7.cell 1
            have k2 : w7.cell? ⟨wr.heap.size, 2, none⟩ = some (.int .i64 0) := hF7.cell 2
            have k3 : w7.cell? ⟨wr.heap.size, 3, none⟩ = some (.int .u8 (c.toNat : Int)) := hF7.cell 3
            have k4 : w7.cell? ⟨wr.heap.size, 4, none⟩ = some (.bool false) := hF7.cell 4
            have hownX := own_below hown hBX
            go_wp2_with (at_builtin; refine wpList_append_own _ rfl (.tmp 58) (.tmp 60) 34 rfl w5.heap.size 36 i0 (.agg #[.int .i64 0, .int .u8 0, .int .i64 0, .int .u8 0, .bool false]) 5 32 Tryd.underlying34 hi0 hz0 hz1' hz2 rfl (by decide) _ _ _ rfl (hownX.alloc _) ⟨wr.heap.size + 1, 0, none⟩ 1 1 [.int .i64 (W : Int), .int .u8 (op.toNat : Int), .int .i64 0, .int .u8 (c.toNat : Int), .bool false] rfl rfl (by have h := cells_new (w7) #[.int .i64 (W : Int), .int .u8 (op.toNat : Int), .int .i64 0, .int .u8 (c.toNat : Int), .bool false] 36; rw [hz7] at h; exact h) (chg1_one (⟨W, op, 0, c, false⟩ : Chg)) (by unfold maxLen; omega) (by omega) (by rw [sz_alloc, hz7]; omega) ?_; intro v9 w9 hown9 hg9 _)
            have hB9 : Below w5.heap.size w5 w9 := ((hB.trans (hBX.mono hsz)).alloc (by rw [hz7]; omega) _).grown hg9 (by rw [sz_alloc, hz7]; omega) (own_ge hown)
            have hown10 : w9.ownsRow w5.heap.size 36 5 v9 (l ++ [(⟨W, op, 0, c, false⟩ : Chg)]).length (chgv (l ++ [(⟨W, op, 0, c, false⟩ : Chg)])) := by
              rw [show chgv (l ++ [(⟨W, op, 0, c, false⟩ : Chg)]) = chgv l ++ chg1 (⟨W, op, 0, c, false⟩ : Chg) from by simp [sv_append, sv], List.length_append]
              exact hown9
            go_wp2_with fail
            go_roundg r2.length
            case measure => first | omega | (simp only [List.length_cons] at *; omega)
            case rel => exact ⟨r2, l ++ [(⟨W, op, 0, c, false⟩ : Chg)], rfl, rfl, HG3, by rw [List.length_append]; simp only [List.length_cons, List.length_nil] at *; omega, hown10, hB9⟩
          | false =>
            have hz2I : decide (0 ≤ z2) = false := decide_eq_false (by have := hzz.2 hu; omega)
            have HU := Lib.hid hu
            clear hu hzz
            have q0 := MapI.new (wr.alloc (.cells #[.int .i64 (W : Int), .int .u8 (op.toNat : Int), .int .i64 0, .int .u8 0, .bool false] 36)) .u8
            rw [hz1] at q0
            have qb0 : Below wr.heap.size wr ((wr.alloc (.cells #[.int .i64 (W : Int), .int .u8 (op.toNat : Int), .int .i64 0, .int .u8 0, .bool false] 36)).alloc (.map #[] 0)) := ((Below.refl _ _).alloc (Nat.le_refl _) _).alloc (by simp) _
            have qz0 : ((wr.alloc (.cells #[.int .i64 (W : Int), .int .u8 (op.toNat : Int), .int .i64 0, .int .u8 0, .bool false] 36)).alloc (.map #[] 0)).heap.size = wr.heap.size + 2 := by simp
            have hF0 := hF.alloc (.map #[] 0)
            go_wp2_with (first
              | (refine wpList_insertI rfl (.tmp 42) (.const (.int .u8 114)) (.const (.int .i64 4)) 78 rfl q0 5 3 Tryd.underlying78 Tryd.underlying5 114 _ rfl rfl rfl rfl ?_; intro qw1 q1 qg1 qs1)
              | (refine wpList_insertI rfl (.tmp 42) (.const (.int .u8 119)) (.const (.int .i64 2)) 78 rfl q1 5 3 Tryd.underlying78 Tryd.underlying5 119 _ rfl rfl rfl rfl ?_; intro qw2 q2 qg2 qs2)
              | (refine wpList_insertI rfl (.tmp 42) (.const (.int .u8 120)) (.const (.int .i64 1)) 78 rfl q2 5 3 Tryd.underlying78 Tryd.underlying5 120 _ rfl rfl rfl rfl ?_; intro qw3 q3 qg3 qs3)
              | (refine wpList_insertI rfl (.tmp 42) (.const (.int .u8 88)) (.const (.int .i64 8)) 78 rfl q3 5 3 Tryd.underlying78 Tryd.underlying5 88 _ rfl rfl rfl rfl ?_; intro qw4 q4 qg4 qs4))
            have hM4 : MapI qw4 (wr.heap.size + 1) .u8 (mv bitM) := q4
            have qb4 : Below wr.heap.size wr qw4 := (((qb0.grown qg1 (by omega) (fun k e => by cases e; omega)).grown qg2 (by omega) (fun k e => by cases e; omega)).grown qg3 (by omega) (fun k e => by cases e; omega)).grown qg4 (by omega) (fun k e => by cases e; omega)
            have hF4 := (((hF0.grown qg1 (by simp)).grown qg2 (by simp)).grown qg3 (by simp)).grown qg4 (by simp)
            have qz4 : qw4.heap.size = wr.heap.size + 2 := by omega
            refine (mletters_any bitM (c :: r2) (wr.heap.size + 1) qw4 hM4 (by first | omega | (simp only [List.length_cons, List.length_nil] at *; omega)) bit_lt).mono ?_
            rintro e w6 ⟨⟨n1, rfl⟩, hb16, kk, hw6⟩
            have hB6 : Below wr.heap.size wr w6 := by rw [hw6]; exact below_drewN qb4 kk
            have hF6 : Blk w6 wr.heap.size 36 #[.int .i64 (W : Int), .int .u8 (op.toNat : Int), .int .i64 0, .int .u8 0, .bool false] := by rw [hw6]; exact hF4
            have hz6 : w6.heap.size = wr.heap.size + 2 := by rw [hw6]; exact qz4
            obtain ⟨b, hb⟩ : ∃ b, b = (lettersM bitM 0 (c :: r2)).1 := ⟨_, rfl⟩
            obtain ⟨t1, ht1⟩ : ∃ t, t = (lettersM bitM 0 (c :: r2)).2 := ⟨_, rfl⟩
            have ht1l : t1.length ≤ ((c :: r2) : List UInt8).length := by rw [ht1]; exact lettersM_len bitM (c :: r2) 0
            rw [← hb] at hb16
            rw [← hb, ← ht1]
            have HG3 := Lib.hid (show clauseGo W t0.length t0 = addC (l ++ [⟨W, op, ((b % 8 : Nat) : Int), 0, decide (b / 8 % 2 = 1)⟩]) (clauseGo W t1.length t1) by
              rw [HG2.out]
              have e1 : oneV W op (c :: r2) = (⟨W, op, ((b % 8 : Nat) : Int), 0, decide (b / 8 % 2 = 1)⟩, t1) := by
                show (if isUgo c = true then _ else ((⟨W, op, (((lettersM bitM 0 (c :: r2)).1 % 8 : Nat) : Int), 0, decide ((lettersM bitM 0 (c :: r2)).1 / 8 % 2 = 1)⟩, (lettersM bitM 0 (c :: r2)).2) : Chg × List UInt8)) = _
                rw [if_neg (by rw [HU.out]; simp), ← hb, ← ht1]
              rw [e1, clauseGo_more W (c :: r2).length t1.length t1 ht1l (Nat.le_refl _)])
            have f0 : w6.cell? ⟨wr.heap.size, 0, none⟩ = some (.int .i64 (W : Int)) := hF6.cell 0
            have f1 : w6.cell? ⟨wr.heap.size, 1, none⟩ = some (.int .u8 (op.toNat : Int)) := hF6.cell 1
            have f2 : w6.cell? ⟨wr.heap.size, 2, none⟩ = some (.int .i64 0) := hF6.cell 2
            have f3 : w6.cell? ⟨wr.heap.size, 3, none⟩ = some (.int .u8 0) := hF6.cell 3
            have f4 : w6.cell? ⟨wr.heap.size, 4, none⟩ = some (.bool false) := hF6.cell 4
            have g2 := hF6.frozen 2
            have g4 := hF6.frozen 4
            obtain ⟨a1, a2⟩ := bits16 b hb16
            obtain ⟨b8, hb8⟩ : ∃ b8, b8 = b % 8 := ⟨_, rfl⟩
            rw [← hb8] at a2 HG3
            clear hb ht1 hw6 hM4 q0 q1 q2 q3 q4 qg1 qg2 qg3 qg4 qs1 qs2 qs3 qs4 hF0 hF4 qb0 qb4 qz0 qz4 qw1 qw2 qw3 qw4
            by_cases hd : b / 8 % 2 = 1
            · rw [if_pos hd] at a1
              rw [decide_eq_true hd] at HG3
              clear hd hb8
              have hBX : Below wr.heap.size wr (((w6.setCell ⟨wr.heap.size, 2, none⟩ (.int .i64 (b : Int))).setCell ⟨wr.heap.size, 4, none⟩ (.bool true)).setCell ⟨wr.heap.size, 2, none⟩ (.int .i64 (b8 : Int))) := ((hB6.setCell (Nat.le_refl _) _).setCell (Nat.le_refl _) _).setCell (Nat.le_refl _) _
              have hz7 : (((w6.setCell ⟨wr.heap.size, 2, none⟩ (.int .i64 (b : Int))).setCell ⟨wr.heap.size, 4, none⟩ (.bool true)).setCell ⟨wr.heap.size, 2, none⟩ (.int .i64 (b8 : Int))).heap.size = wr.heap.size + 2 := by simp [World.setCell]; exact hz6
              have hownX := own_below hown hBX
              go_wp2_with (at_builtin; refine wpList_append_own _ rfl (.tmp 58) (.tmp 60) 34 rfl w5.heap.size 36 i0 (.agg #[.int .i64 0, .int .u8 0, .int .i64 0, .int .u8 0, .bool false]) 5 32 Tryd.underlying34 hi0 hz0 hz1' hz2 rfl (by decide) _ _ _ rfl (hownX.alloc _) ⟨wr.heap.size + 2, 0, none⟩ 1 1 [.int .i64 (W : Int), .int .u8 (op.toNat : Int), .int .i64 (b8 : Int), .int .u8 0, .bool true] rfl rfl (by have h := cells_new (((w6.setCell ⟨wr.heap.size, 2, none⟩ (.int .i64 (b : Int))).setCell ⟨wr.heap.size, 4, none⟩ (.bool true)).setCell ⟨wr.heap.size, 2, none⟩ (.int .i64 (b8 : Int))) #[.int .i64 (W : Int), .int .u8 (op.toNat : Int), .int .i64 (b8 : Int), .int .u8 0, .bool true] 36; rw [hz7] at h; exact h) (chg1_one (⟨W, op, (b8 : Int), 0, true⟩ : Chg)) (by unfold maxLen; omega) (by omega) (by rw [sz_alloc, hz7]; omega) ?_; intro v9 w9 hown9 hg9 _)
              have hB9 : Below w5.heap.size w5 w9 := ((hB.trans (hBX.mono hsz)).alloc (by rw [hz7]; omega) _).grown hg9 (by rw [sz_alloc, hz7]; omega) (own_ge hown)
              have hown10 : w9.ownsRow w5.heap.size 36 5 v9 (l ++ [(⟨W, op, (b8 : Int), 0, true⟩ : Chg)]).length (chgv (l ++ [(⟨W, op, (b8 : Int), 0, true⟩ : Chg)])) := by
                rw [show chgv (l ++ [(⟨W, op, (b8 : Int), 0, true⟩ : Chg)]) = chgv l ++ chg1 (⟨W, op, (b8 : Int), 0, true⟩ : Chg) from by simp [sv_append, sv], List.length_append]
                exact hown9
              go_wp2_with fail
              go_roundg t1.length
              case measure => first | omega | (simp only [List.length_cons, List.length_nil] at *; omega)
              case rel => exact ⟨t1, l ++ [(⟨W, op, (b8 : Int), 0, true⟩ : Chg)], rfl, rfl, HG3, by rw [List.length_append]; simp only [List.length_cons, List.length_nil] at *; omega, hown10, hB9⟩
            · rw [if_neg hd] at a1
              rw [decide_eq_false hd] at HG3
              clear hd hb8
              have hBX : Below wr.heap.size wr (((w6.setCell ⟨wr.heap.size, 2, none⟩ (.int .i64 (b : Int))).setCell ⟨wr.heap.size, 4, none⟩ (.bool false)).setCell ⟨wr.heap.size, 2, none⟩ (.int .i64 (b8 : Int))) := ((hB6.setCell (Nat.le_refl _) _).setCell (Nat.le_refl _) _).setCell (Nat.le_refl _) _
              have hz7 : (((w6.setCell ⟨wr.heap.size, 2, none⟩ (.int .i64 (b : Int))).setCell ⟨wr.heap.size, 4, none⟩ (.bool false)).setCell ⟨wr.heap.size, 2, none⟩ (.int .i64 (b8 : Int))).heap.size = wr.heap.size + 2 := by simp [World.setCell]; exact hz6
              have hownX := own_below hown hBX
              go_wp2_with (at_builtin; refine wpList_append_own _ rfl (.tmp 58) (.tmp 60) 34 rfl w5.heap.size 36 i0 (.agg #[.int .i64 0, .int .u8 0, .int .i64 0, .int .u8 0, .bool false]) 5 32 Tryd.underlying34 hi0 hz0 hz1' hz2 rfl (by decide) _ _ _ rfl (hownX.alloc _) ⟨wr.heap.size + 2, 0, none⟩ 1 1 [.int .i64 (W : Int), .int .u8 (op.toNat : Int), .int .i64 (b8 : Int), .int .u8 0, .bool false] rfl rfl (by have h := cells_new (((w6.setCell ⟨wr.heap.size, 2, none⟩ (.int .i64 (b : Int))).setCell ⟨wr.heap.size, 4, none⟩ (.bool false)).setCell ⟨wr.heap.size, 2, none⟩ (.int .i64 (b8 : Int))) #[.int .i64 (W : Int), .int .u8 (op.toNat : Int), .int .i64 (b8 : Int), .int .u8 0, .bool false] 36; rw [hz7] at h; exact h) (chg1_one (⟨W, op, (b8 : Int), 0, false⟩ : Chg)) (by unfold maxLen; omega) (by omega) (by rw [sz_alloc, hz7]; omega) ?_; intro v9 w9 hown9 hg9 _)
              have hB9 : Below w5.heap.size w5 w9 := ((hB.trans (hBX.mono hsz)).alloc (by rw [hz7]; omega) _).grown hg9 (by rw [sz_alloc, hz7]; omega) (own_ge hown)
              have hown10 : w9.ownsRow w5.heap.size 36 5 v9 (l ++ [(⟨W, op, (b8 : Int), 0, false⟩ : Chg)]).length (chgv (l ++ [(⟨W, op, (b8 : Int), 0, false⟩ : Chg)])) := by
                rw [show chgv (l ++ [(⟨W, op, (b8 : Int), 0, false⟩ : Chg)]) = chgv l ++ chg1 (⟨W, op, (b8 : Int), 0, false⟩ : Chg) from by simp [sv_append, sv], List.length_append]
                exact hown9
              go_wp2_with fail
              go_roundg t1.length
              case measure => first | omega | (simp only [List.length_cons, List.length_nil] at *; omega)
              case rel => exact ⟨t1, l ++ [(⟨W, op, (b8 : Int), 0, false⟩ : Chg)], rfl, rfl, HG3, by rw [List.length_append]; simp only [List.length_cons, List.length_nil] at *; omega, hown10, hB9⟩
end Go.Proofs.YtnpaddakkniliaaDoor
