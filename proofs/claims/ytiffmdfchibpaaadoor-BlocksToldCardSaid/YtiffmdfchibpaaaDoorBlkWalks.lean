/-
  blocks: fill, turn, letters, raise, lower, steps: their walks. (Printed by gen/blkwalks.py.)
-/
import Derived.Test.YtiffmdfchibpaaaDoorBlkSteps
set_option linter.unusedVariables false
set_option linter.unusedSimpArgs false
namespace Go.Proofs.YtiffmdfchibpaaaDoor
open Go.RowKit

theorem wpList_append_zeros (w : World) {ops : Array Oper} {rest : List Oper} {o : Oper} {a : Act} {Q : Exit → Act → World → Prop} (hgd : o.guard = none) (s x : Operand)
    (ho : o.op = .call { callee := .builtin .append, args := #[s, x], argTypes := #[42, 3] }) (g n cap m : Nat) (xs : List UInt8) (m' : Int) (hs : a.eval s = .slice (some ⟨g, 0, none⟩) n cap) (hx : a.eval x = .int .i64 m') (hm : m' = (m : Int))
    (h : Bs w g cap xs) (hn : xs.length = n) (hc : n ≤ cap) (hb : n + m ≤ 1073741824) (hcap : cap ≤ maxLen)
    (hK : ∀ g' cap' w', Bs w' g' (n + m) (xs ++ List.replicate m 0) → w.grownBy w' (some g) → (g' = g ∨ w.heap.size ≤ g') → wpList Tryd.prog ops Q rest (a.put o.dst (.slice (some ⟨g', 0, none⟩) (n + m) cap')) w') : wpList Tryd.prog ops Q (o :: rest) a w := by
  refine wpList_plain hgd fun K hK' => ?_
  subst hm
  obtain ⟨g', cap', w', hr, h2, h3, h4⟩ := run_append_zeros w o.type g n cap m xs h hn hc hb hcap
  unfold Oper.wp execOp
  simp only [ho, resolve, invoke, builtin, Sem.run_bind, Sem.run_pure, Result.andThen_ok, List.map_toArray, List.map_cons, List.map_nil, hs, hx, hr]
  exact hK' _ _ (hK g' cap' w' h2 h3 h4)
theorem grown_new {w : World} {o : Obj} {w' : World} {g : Nat} (h : (w.alloc o).grownBy w' (some g)) : w.grownBy w' (some g) :=
  ⟨h.os, h.tape, h.output, Nat.le_trans (by simp) h.size, fun k hk hne => (h.block k (by simp; omega) hne).trans (Below.heap_alloc w o k hk)⟩
/-- What a step answers: the bytes xs, in row g' of n' cells; of what lay, row g alone is turned. -/
def Stepped (w : World) (g : Nat) (xs : List UInt8) (e : Ending) (w' : World) : Prop :=
  ∃ g' cap', e = .returned (.slice (some ⟨g', 0, none⟩) xs.length cap') ∧ Bs w' g' xs.length xs ∧ w.grownBy w' (some g) ∧ (g' = g ∨ w.heap.size ≤ g')

set_option maxRecDepth 100000 in
set_option maxHeartbeats 2000000 in
theorem fill_any (p : PlanV) (g n cap : Nat) (xs : List UInt8) (w : World) (h : Bs w g cap xs) (hn : xs.length = n) (hc : n ≤ cap) (hcap : cap ≤ maxLen) (hp : p.ok) (hk : n ≤ p.k) :
    Calls Tryd.prog 25 #[p.val, .slice (some ⟨g, 0, none⟩) n cap] w (Stepped w g (fillV p xs)) := by
  have hk3 : ((p.k : Nat) : Int) = p.inn ∧ p.k ≤ 65536 := by
    obtain ⟨⟨h1, h2⟩, _⟩ := hp
    unfold PlanV.k
    omega
  obtain ⟨m, hm⟩ : ∃ m, m = p.k - n := ⟨_, rfl⟩
  have hX : p.sync = true → fillV p xs = xs ++ List.replicate m 0 := fun e => by unfold fillV; rw [if_pos e, hn, hm]
  have hY : p.sync = false → fillV p xs = xs := fun e => by unfold fillV; rw [e]; rfl
  have hm2 : p.inn - (n : Int) = (m : Int) := by omega
  have hm3 : n + m ≤ 1073741824 := by omega
  obtain ⟨X, hXe⟩ : ∃ X, X = fillV p xs := ⟨_, rfl⟩
  rw [← hXe] at hX hY ⊢
  have hi1 := hp.1.1
  have hi2 := hp.1.2
  have hn6 : n ≤ 65536 := by omega
  clear hXe hp hm hk3
  obtain ⟨inn, out, skip, count, seek, keep, swab, upper, lower, sync⟩ := p
  unfold PlanV.val pcells
  simp only at hX hY hm2 hi1 hi2
  have h1 : Bs (w.alloc (.cells #[.int .i64 inn, .int .i64 out, .int .i64 skip, .int .i64 count, .int .i64 seek, .bool keep, .bool swab, .bool upper, .bool lower, .bool sync] 26)) g cap xs := Buf.alloc h _
  go_enter Tryd.func25, Tryd.ntmps25
  cases sync with
  | false =>
    have HY := Lib.hid (hY rfl)
    clear hX hY hm2
    go_wp2
    go_ret
    refine ⟨g, cap, by rw [HY.out, hn]; rfl, by rw [HY.out, hn]; exact Buf.less h1 hc, only_of_below ((Below.refl _ _).alloc (Nat.le_refl _) _) _, .inl rfl⟩
  | true =>
    have HX := Lib.hid (hX rfl)
    have HM := Lib.hid hm2
    clear hX hY hm2
    go_wp2_with (at_builtin; refine wpList_append_zeros _ rfl (.tmp 7) (.tmp 12) rfl g n cap m xs _ rfl rfl HM.out h1 hn hc hm3 hcap ?_; intro g' cap' w' hb hg hge)
    go_ret
    have hl : X.length = n + m := by rw [HX.out, List.length_append, List.length_replicate, hn]
    refine ⟨g', cap', by rw [hl]; rfl, by rw [hl, HX.out]; exact hb, grown_new hg, ?_⟩
    rcases hge with e | e
    · exact .inl e
    · refine .inr ?_
      simp at e
      omega

/-! ### Bytes by twos -/
theorem swab_even : ∀ (xs : List UInt8) (q : Nat), 2 * q + 1 < xs.length → (swabV xs).getD (2 * q) 0 = xs.getD (2 * q + 1) 0 ∧ (swabV xs).getD (2 * q + 1) 0 = xs.getD (2 * q) 0
  | [], q, h => by simp at h
  | [_], q, h => by simp at h
  | a :: b :: r, 0, _ => ⟨rfl, rfl⟩
  | a :: b :: r, q + 1, h => by
    have ih := swab_even r q (by simp at h; omega)
    show (b :: a :: swabV r).getD (2 * (q + 1)) 0 = _ ∧ (b :: a :: swabV r).getD (2 * (q + 1) + 1) 0 = _
    rw [show 2 * (q + 1) = 2 * q + 1 + 1 from by omega]
    exact ih
theorem swab_last : ∀ (xs : List UInt8) (q j : Nat), xs.length ≤ 2 * q + 1 → 2 * q ≤ j → (swabV xs).getD j 0 = xs.getD j 0
  | [], _, _, _, _ => rfl
  | [_], _, _, _, _ => rfl
  | a :: b :: r, 0, j, h, _ => by simp at h
  | a :: b :: r, q + 1, j, h, hj => by
    obtain ⟨j, rfl⟩ : ∃ k, j = k + 2 := ⟨j - 2, by omega⟩
    exact swab_last r q j (by simp at h; omega) (by omega)
def swF (xs : List UInt8) (q j : Nat) : Value := if j < 2 * q then byF (swabV xs) j else byF xs j
theorem swF_end (xs : List UInt8) (q j : Nat) (h : xs.length ≤ 2 * q + 1) : swF xs q j = byF (swabV xs) j := by
  unfold swF
  split
  · rfl
  · unfold byF
    rw [swab_last xs q j h (by omega)]
theorem swF_step (xs : List UInt8) (q j : Nat) (h : 2 * q + 1 < xs.length) : (if j = 2 * q + 1 then byF xs (2 * q) else if j = 2 * q then byF xs (2 * q + 1) else swF xs q j) = swF xs (q + 1) j := by
  obtain ⟨h1, h2⟩ := swab_even xs q h
  unfold swF
  by_cases e1 : j = 2 * q + 1
  · subst e1
    rw [if_pos rfl, if_pos (by omega)]
    unfold byF
    rw [h2]
  · rw [if_neg e1]
    by_cases e2 : j = 2 * q
    · subst e2
      rw [if_pos rfl, if_pos (by omega)]
      unfold byF
      rw [h1]
    · rw [if_neg e2]
      by_cases e3 : j < 2 * q
      · rw [if_pos e3, if_pos (by omega)]
      · rw [if_neg e3, if_neg (by omega)]

set_option maxRecDepth 100000 in
set_option maxHeartbeats 4000000 in
theorem turn_any (p : PlanV) (g n cap : Nat) (xs : List UInt8) (w : World) (h : Bs w g n xs) (hn : xs.length = n) (hb : n ≤ 1073741824) :
    Calls Tryd.prog 26 #[p.val, .slice (some ⟨g, 0, none⟩) n cap] w (Stepped w g (turnV p xs)) := by
  have hX : p.swab = true → turnV p xs = swabV xs := fun e => by unfold turnV; rw [if_pos e]
  have hY : p.swab = false → turnV p xs = xs := fun e => by unfold turnV; rw [e]; rfl
  have hL := turnV_len p xs
  obtain ⟨X, hXe⟩ : ∃ X, X = turnV p xs := ⟨_, rfl⟩
  rw [← hXe] at hX hY hL ⊢
  have HL := Lib.hid (hL.trans hn)
  clear hXe hL
  obtain ⟨inn, out, skip, count, seek, keep, swab, upper, lower, sync⟩ := p
  unfold PlanV.val pcells
  simp only at hX hY
  obtain ⟨w1, hw1⟩ : ∃ w1, w1 = w.alloc (.cells #[.int .i64 inn, .int .i64 out, .int .i64 skip, .int .i64 count, .int .i64 seek, .bool keep, .bool swab, .bool upper, .bool lower, .bool sync] 26) := ⟨_, rfl⟩
  have h1 : Bs w1 g n xs := by rw [hw1]; exact Buf.alloc h _
  have hB1 : Below w.heap.size w w1 := by rw [hw1]; exact (Below.refl _ _).alloc (Nat.le_refl _) _
  have hglt := h.lt
  have kP : Blk w1 w.heap.size 26 #[.int .i64 inn, .int .i64 out, .int .i64 skip, .int .i64 count, .int .i64 seek, .bool keep, .bool swab, .bool upper, .bool lower, .bool sync] := by rw [hw1]; exact Blk.new w _ _
  go_enter Tryd.func26, Tryd.ntmps26
  cases swab with
  | false =>
    have HY := Lib.hid (hY rfl)
    clear hX hY
    go_wp2
    rw [← hw1]
    clear hw1
    go_loopw [5] (fun i wr => i = .int .i64 1 ∧ wr = w1) (fun _ _ => 0)
    case atStart => exact ⟨rfl, rfl⟩
    case round =>
      obtain ⟨rfl, rfl⟩ := hrel
      have f6 := kP.cell 6
      simp at f6
      go_wp2
      go_ret
      exact ⟨g, cap, by rw [HL.out]; rfl, by rw [HL.out, HY.out]; exact h1, only_of_below hB1 _, .inl rfl⟩
  | true =>
    have HX := Lib.hid (hX rfl)
    clear hX hY
    go_wp2
    rw [← hw1]
    clear hw1
    go_loopw [5] (fun i wr => ∃ q : Nat, i = .int .i64 (2 * (q : Int) + 1) ∧ 2 * q ≤ n ∧ Buf wr g n (swF xs q) ∧ w1.grownBy wr (some g)) (fun i _ => n + 2 - (intOf i).toNat)
    case atStart => exact ⟨0, rfl, by omega, h1.congr (fun j _ => by unfold swF; rw [if_neg (by omega)]), World.grownBy.refl _ _⟩
    case round =>
      obtain ⟨q, rfl, hq, hbf, hgr⟩ := hrel
      have kQ := kP.grown hgr (by intro e; injection e with e; omega)
      have f6 := kQ.cell 6
      simp at f6
      by_cases hlt : 2 * q + 1 < n
      · have c1 := hbf.cell (i := 2 * q) (by omega)
        have c2 := hbf.cell (i := 2 * q + 1) hlt
        have z1 := hbf.frozen (i := 2 * q) (by omega)
        have z2 := hbf.frozen (i := 2 * q + 1) hlt
        rw [show swF xs q (2 * q) = byF xs (2 * q) from by unfold swF; rw [if_neg (by omega)]] at c1
        rw [show swF xs q (2 * q + 1) = byF xs (2 * q + 1) from by unfold swF; rw [if_neg (by omega)]] at c2
        unfold byF at c1 c2
        have hI : 2 * (q : Int) + 1 < (n : Int) := by omega
        have t1 : (2 * (q : Int)).toNat = 2 * q := by omega
        have t2 : (2 * (q : Int) + 1).toNat = 2 * q + 1 := by omega
        have HN := Lib.hid hn
        clear hn
        go_wp2
        go_region
        all_goals go_wp2
        refine ⟨⟨q + 1, by rw [show 2 * (((q + 1 : Nat)) : Int) + 1 = 2 * (q : Int) + 1 + 2 from by omega], by omega, Buf.drew (((hbf.set (2 * q) _).set (2 * q + 1) _).congr (fun j _ => swF_step xs q j (by rw [HN.out]; exact hlt))), only_drew (only_setCell (only_setCell hgr (.inl rfl) _) (.inl rfl) _)⟩, by simp [intOf]; omega⟩
      · have hI : ¬ 2 * (q : Int) + 1 < (n : Int) := by omega
        have HN := Lib.hid hn
        go_wp2
        go_ret
        exact ⟨g, cap, by rw [HL.out]; rfl, by rw [HL.out, HX.out]; exact hbf.congr (fun j _ => swF_end xs q j (by omega)), World.grownBy.trans (only_of_below hB1 _) hgr, .inl rfl⟩

theorem u8_xor_all : ∀ n : Fin 256, bits .xor .u8 ((n.val : Nat) : Int) 32 = (((UInt8.ofNat n.val) ^^^ 32).toNat : Int) := by decide +kernel
theorem u8_xor32 (c : UInt8) : bits .xor .u8 (c.toNat : Int) 32 = ((c ^^^ 32).toNat : Int) := by
  have h := u8_xor_all ⟨c.toNat, c.toNat_lt⟩
  rw [UInt8.ofNat_toNat] at h
  exact h

set_option maxRecDepth 100000 in
set_option maxHeartbeats 4000000 in
theorem letters_up (so : Bool) (g n cap : Nat) (xs : List UInt8) (w : World) (h : Bs w g n xs) (hn : xs.length = n) (hb : n ≤ 1073741824) :
    Calls Tryd.prog 43 #[.slice (some ⟨g, 0, none⟩) n cap, .int .u8 97, .bool so] w (Stepped w g (if so = true then xs.map upB else xs)) := by
  have hL : (if so = true then xs.map upB else xs).length = n := by split <;> simp [hn]
  have HX := Lib.hid (show so = true → (if so = true then xs.map upB else xs) = xs.map upB from fun e => by rw [if_pos e])
  have HY := Lib.hid (show so = false → (if so = true then xs.map upB else xs) = xs from fun e => by rw [e]; rfl)
  obtain ⟨X, hXe⟩ : ∃ X, X = if so = true then xs.map upB else xs := ⟨_, rfl⟩
  rw [← hXe] at hL HX HY ⊢
  have HL := Lib.hid hL
  have HN := Lib.hid hn
  clear hXe hL hn
  go_enter Tryd.func43, Tryd.ntmps43
  go_wp2
  cases so with
  | false =>
    have HZ := Lib.hid (HY.out rfl)
    clear HX HY
    go_loopw [11] (fun i wr => wr = w ∧ ∃ q : Nat, i = .int .i64 (q : Int) ∧ q ≤ n) (fun i _ => n - (intOf i).toNat)
    case atStart => exact ⟨rfl, 0, rfl, by omega⟩
    case round =>
      obtain ⟨rfl, q, rfl, hq⟩ := hrel
      by_cases hlt : q < n
      · have c1 := h.cell (i := q) hlt
        unfold byF at c1
        have hI : (q : Int) < (n : Int) := by omega
        go_wp2
        go_roundw
        case rel => exact ⟨trivial, q + 1, by go_num, by omega⟩
        case measure => simp [intOf]; omega
      · have hI : ¬ (q : Int) < (n : Int) := by omega
        go_wp2
        go_ret
        exact ⟨g, cap, by rw [HL.out]; rfl, by rw [HL.out, HZ.out]; exact h, World.grownBy.refl _ _, .inl rfl⟩
  | true =>
    have HZ := Lib.hid (HX.out rfl)
    clear HX HY
    go_loopw [11] (fun i wr => ∃ q : Nat, i = .int .i64 (q : Int) ∧ q ≤ n ∧ Buf wr g n (fun j => if j < q then byF (xs.map upB) j else byF xs j) ∧ w.grownBy wr (some g)) (fun i _ => n - (intOf i).toNat)
    case atStart => exact ⟨0, rfl, by omega, h.congr (fun j _ => by rw [if_neg (by omega)]), World.grownBy.refl _ _⟩
    case round =>
      obtain ⟨q, rfl, hq, hbf, hgr⟩ := hrel
      by_cases hlt : q < n
      · have c1 := hbf.cell (i := q) hlt
        have z1 := hbf.frozen (i := q) hlt
        rw [if_neg (by omega)] at c1
        obtain ⟨c, hc⟩ : ∃ c, c = xs.getD q 0 := ⟨_, rfl⟩
        have hmap : byF (xs.map upB) q = .int .u8 ((upB c).toNat : Int) := by
          have hq2 : q < xs.length := by rw [HN.out]; exact hlt
          unfold byF
          rw [hc, List.getD_eq_getElem?_getD, List.getD_eq_getElem?_getD, List.getElem?_map, List.getElem?_eq_getElem hq2]
          rfl
        have c2 : wr.cell? ⟨g, q, none⟩ = some (.int .u8 (c.toNat : Int)) := by rw [c1, hc]; rfl
        have hI : (q : Int) < (n : Int) := by omega
        have HM := Lib.hid hmap
        have hlt8 := UInt8.toNat_lt c
        clear c1 hmap hc
        by_cases hin : 97 ≤ c.toNat ∧ c.toNat ≤ 122
        · have HF := Lib.hid (show upB c = c ^^^ 32 from if_pos hin)
          have hj1 : (97 : Int) ≤ (c.toNat : Int) := by omega
          have hj2 : (c.toNat : Int) < 123 := by omega
          go_wp2
          go_roundw
          case rel =>
            refine ⟨q + 1, by go_num, by omega, (hbf.set q _).congr (fun j _ => ?_), only_setCell hgr (.inl rfl) _⟩
            by_cases e1 : j = q
            · subst e1
              rw [if_pos rfl, if_pos (by omega), HM.out, HF.out, u8_xor32]
            · rw [if_neg e1]
              by_cases e2 : j < q
              · rw [if_pos e2, if_pos (by omega)]
              · rw [if_neg e2, if_neg (by omega)]
          case measure => simp [intOf]; omega
        · have HF := Lib.hid (show upB c = c from if_neg hin)
          have HG := Lib.hid (show ∀ j, (if j < q then byF (xs.map upB) j else byF xs j) = (if j < q + 1 then byF (xs.map upB) j else byF xs j) from fun j => by
            by_cases e1 : j = q
            · subst e1
              rw [if_neg (by omega), if_pos (by omega), HM.out, HF.out]
              have := c2.symm.trans (hbf.cell hlt)
              rw [if_neg (by omega)] at this
              injection this with this
              exact this.symm
            · by_cases e2 : j < q
              · rw [if_pos e2, if_pos (by omega)]
              · rw [if_neg e2, if_neg (by omega)])
          by_cases hj1 : (c.toNat : Int) < 97
          · have hj3 : ¬ (97 : Int) ≤ (c.toNat : Int) := by omega
            go_wp2
            go_roundw
            case rel => exact ⟨q + 1, by go_num, by omega, hbf.congr (fun j _ => HG.out j), hgr⟩
            case measure => simp [intOf]; omega
          · have hj3 : (97 : Int) ≤ (c.toNat : Int) := by omega
            have hj4 : ¬ (c.toNat : Int) < 123 := by omega
            go_wp2
            go_roundw
            case rel => exact ⟨q + 1, by go_num, by omega, hbf.congr (fun j _ => HG.out j), hgr⟩
            case measure => simp [intOf]; omega
      · have hI : ¬ (q : Int) < (n : Int) := by omega
        go_wp2
        go_ret
        exact ⟨g, cap, by rw [HL.out]; rfl, by rw [HL.out, HZ.out]; exact hbf.congr (fun j hj => by rw [if_pos (by omega)]), hgr, .inl rfl⟩

set_option maxRecDepth 100000 in
set_option maxHeartbeats 4000000 in
theorem letters_lo (so : Bool) (g n cap : Nat) (xs : List UInt8) (w : World) (h : Bs w g n xs) (hn : xs.length = n) (hb : n ≤ 1073741824) :
    Calls Tryd.prog 43 #[.slice (some ⟨g, 0, none⟩) n cap, .int .u8 65, .bool so] w (Stepped w g (if so = true then xs.map loB else xs)) := by
  have hL : (if so = true then xs.map loB else xs).length = n := by split <;> simp [hn]
  have HX := Lib.hid (show so = true → (if so = true then xs.map loB else xs) = xs.map loB from fun e => by rw [if_pos e])
  have HY := Lib.hid (show so = false → (if so = true then xs.map loB else xs) = xs from fun e => by rw [e]; rfl)
  obtain ⟨X, hXe⟩ : ∃ X, X = if so = true then xs.map loB else xs := ⟨_, rfl⟩
  rw [← hXe] at hL HX HY ⊢
  have HL := Lib.hid hL
  have HN := Lib.hid hn
  clear hXe hL hn
  go_enter Tryd.func43, Tryd.ntmps43
  go_wp2
  cases so with
  | false =>
    have HZ := Lib.hid (HY.out rfl)
    clear HX HY
    go_loopw [11] (fun i wr => wr = w ∧ ∃ q : Nat, i = .int .i64 (q : Int) ∧ q ≤ n) (fun i _ => n - (intOf i).toNat)
    case atStart => exact ⟨rfl, 0, rfl, by omega⟩
    case round =>
      obtain ⟨rfl, q, rfl, hq⟩ := hrel
      by_cases hlt : q < n
      · have c1 := h.cell (i := q) hlt
        unfold byF at c1
        have hI : (q : Int) < (n : Int) := by omega
        go_wp2
        go_roundw
        case rel => exact ⟨trivial, q + 1, by go_num, by omega⟩
        case measure => simp [intOf]; omega
      · have hI : ¬ (q : Int) < (n : Int) := by omega
        go_wp2
        go_ret
        exact ⟨g, cap, by rw [HL.out]; rfl, by rw [HL.out, HZ.out]; exact h, World.grownBy.refl _ _, .inl rfl⟩
  | true =>
    have HZ := Lib.hid (HX.out rfl)
    clear HX HY
    go_loopw [11] (fun i wr => ∃ q : Nat, i = .int .i64 (q : Int) ∧ q ≤ n ∧ Buf wr g n (fun j => if j < q then byF (xs.map loB) j else byF xs j) ∧ w.grownBy wr (some g)) (fun i _ => n - (intOf i).toNat)
    case atStart => exact ⟨0, rfl, by omega, h.congr (fun j _ => by rw [if_neg (by omega)]), World.grownBy.refl _ _⟩
    case round =>
      obtain ⟨q, rfl, hq, hbf, hgr⟩ := hrel
      by_cases hlt : q < n
      · have c1 := hbf.cell (i := q) hlt
        have z1 := hbf.frozen (i := q) hlt
        rw [if_neg (by omega)] at c1
        obtain ⟨c, hc⟩ : ∃ c, c = xs.getD q 0 := ⟨_, rfl⟩
        have hmap : byF (xs.map loB) q = .int .u8 ((loB c).toNat : Int) := by
          have hq2 : q < xs.length := by rw [HN.out]; exact hlt
          unfold byF
          rw [hc, List.getD_eq_getElem?_getD, List.getD_eq_getElem?_getD, List.getElem?_map, List.getElem?_eq_getElem hq2]
          rfl
        have c2 : wr.cell? ⟨g, q, none⟩ = some (.int .u8 (c.toNat : Int)) := by rw [c1, hc]; rfl
        have hI : (q : Int) < (n : Int) := by omega
        have HM := Lib.hid hmap
        have hlt8 := UInt8.toNat_lt c
        clear c1 hmap hc
        by_cases hin : 65 ≤ c.toNat ∧ c.toNat ≤ 90
        · have HF := Lib.hid (show loB c = c ^^^ 32 from if_pos hin)
          have hj1 : (65 : Int) ≤ (c.toNat : Int) := by omega
          have hj2 : (c.toNat : Int) < 91 := by omega
          go_wp2
          go_roundw
          case rel =>
            refine ⟨q + 1, by go_num, by omega, (hbf.set q _).congr (fun j _ => ?_), only_setCell hgr (.inl rfl) _⟩
            by_cases e1 : j = q
            · subst e1
              rw [if_pos rfl, if_pos (by omega), HM.out, HF.out, u8_xor32]
            · rw [if_neg e1]
              by_cases e2 : j < q
              · rw [if_pos e2, if_pos (by omega)]
              · rw [if_neg e2, if_neg (by omega)]
          case measure => simp [intOf]; omega
        · have HF := Lib.hid (show loB c = c from if_neg hin)
          have HG := Lib.hid (show ∀ j, (if j < q then byF (xs.map loB) j else byF xs j) = (if j < q + 1 then byF (xs.map loB) j else byF xs j) from fun j => by
            by_cases e1 : j = q
            · subst e1
              rw [if_neg (by omega), if_pos (by omega), HM.out, HF.out]
              have := c2.symm.trans (hbf.cell hlt)
              rw [if_neg (by omega)] at this
              injection this with this
              exact this.symm
            · by_cases e2 : j < q
              · rw [if_pos e2, if_pos (by omega)]
              · rw [if_neg e2, if_neg (by omega)])
          by_cases hj1 : (c.toNat : Int) < 65
          · have hj3 : ¬ (65 : Int) ≤ (c.toNat : Int) := by omega
            go_wp2
            go_roundw
            case rel => exact ⟨q + 1, by go_num, by omega, hbf.congr (fun j _ => HG.out j), hgr⟩
            case measure => simp [intOf]; omega
          · have hj3 : (65 : Int) ≤ (c.toNat : Int) := by omega
            have hj4 : ¬ (c.toNat : Int) < 91 := by omega
            go_wp2
            go_roundw
            case rel => exact ⟨q + 1, by go_num, by omega, hbf.congr (fun j _ => HG.out j), hgr⟩
            case measure => simp [intOf]; omega
      · have hI : ¬ (q : Int) < (n : Int) := by omega
        go_wp2
        go_ret
        exact ⟨g, cap, by rw [HL.out]; rfl, by rw [HL.out, HZ.out]; exact hbf.congr (fun j hj => by rw [if_pos (by omega)]), hgr, .inl rfl⟩

set_option maxRecDepth 100000 in
set_option maxHeartbeats 2000000 in
theorem raise_any (p : PlanV) (g n cap : Nat) (xs : List UInt8) (w : World) (h : Bs w g n xs) (hn : xs.length = n) (hb : n ≤ 1073741824) :
    Calls Tryd.prog 27 #[p.val, .slice (some ⟨g, 0, none⟩) n cap] w (Stepped w g (raiseV p xs)) := by
  have hX : raiseV p xs = if p.upper = true then xs.map upB else xs := rfl
  obtain ⟨X, hXe⟩ : ∃ X, X = raiseV p xs := ⟨_, rfl⟩
  rw [← hXe] at hX ⊢
  clear hXe
  obtain ⟨inn, out, skip, count, seek, keep, swab, upper, lower, sync⟩ := p
  unfold PlanV.val pcells
  obtain ⟨w1, hw1⟩ : ∃ w1, w1 = w.alloc (.cells #[.int .i64 inn, .int .i64 out, .int .i64 skip, .int .i64 count, .int .i64 seek, .bool keep, .bool swab, .bool upper, .bool lower, .bool sync] 26) := ⟨_, rfl⟩
  have h1 : Bs w1 g n xs := by rw [hw1]; exact Buf.alloc h _
  have hB1 : Below w.heap.size w w1 := by rw [hw1]; exact (Below.refl _ _).alloc (Nat.le_refl _) _
  have hl := letters_up upper g n cap xs w1 h1 hn hb
  rw [← hX] at hl
  have HW := Lib.hid hw1
  rw [hw1] at hl
  clear hw1 hX h1 h
  go_enter Tryd.func27, Tryd.ntmps27
  go_wp2_with fail
  refine hl.mono ?_
  rintro e w2 ⟨g', cap', rfl, hbs, hg, hor⟩
  rw [← HW.out] at hg hor
  clear hl HW
  go_wp2_with fail
  go_ret
  refine ⟨g', cap', rfl, hbs, World.grownBy.trans (only_of_below hB1 _) hg, ?_⟩
  rcases hor with e | e
  · exact .inl e
  · exact .inr (Nat.le_trans hB1.size e)

set_option maxRecDepth 100000 in
set_option maxHeartbeats 2000000 in
theorem lower_any (p : PlanV) (g n cap : Nat) (xs : List UInt8) (w : World) (h : Bs w g n xs) (hn : xs.length = n) (hb : n ≤ 1073741824) :
    Calls Tryd.prog 28 #[p.val, .slice (some ⟨g, 0, none⟩) n cap] w (Stepped w g (lowerV p xs)) := by
  have hX : lowerV p xs = if p.lower = true then xs.map loB else xs := rfl
  obtain ⟨X, hXe⟩ : ∃ X, X = lowerV p xs := ⟨_, rfl⟩
  rw [← hXe] at hX ⊢
  clear hXe
  obtain ⟨inn, out, skip, count, seek, keep, swab, upper, lower, sync⟩ := p
  unfold PlanV.val pcells
  obtain ⟨w1, hw1⟩ : ∃ w1, w1 = w.alloc (.cells #[.int .i64 inn, .int .i64 out, .int .i64 skip, .int .i64 count, .int .i64 seek, .bool keep, .bool swab, .bool upper, .bool lower, .bool sync] 26) := ⟨_, rfl⟩
  have h1 : Bs w1 g n xs := by rw [hw1]; exact Buf.alloc h _
  have hB1 : Below w.heap.size w w1 := by rw [hw1]; exact (Below.refl _ _).alloc (Nat.le_refl _) _
  have hl := letters_lo lower g n cap xs w1 h1 hn hb
  rw [← hX] at hl
  have HW := Lib.hid hw1
  rw [hw1] at hl
  clear hw1 hX h1 h
  go_enter Tryd.func28, Tryd.ntmps28
  go_wp2_with fail
  refine hl.mono ?_
  rintro e w2 ⟨g', cap', rfl, hbs, hg, hor⟩
  rw [← HW.out] at hg hor
  clear hl HW
  go_wp2_with fail
  go_ret
  refine ⟨g', cap', rfl, hbs, World.grownBy.trans (only_of_below hB1 _) hg, ?_⟩
  rcases hor with e | e
  · exact .inl e
  · exact .inr (Nat.le_trans hB1.size e)

theorem infoSteps : (Tryd.prog.info? 46).map (fun i => (i.zero, i.size, i.bytes)) = some (some (.agg #[Value.nilFunc, Value.nilFunc, Value.nilFunc, Value.nilFunc]), 4, 32) := by kernel_rfl
end Go.Proofs.YtiffmdfchibpaaaDoor
