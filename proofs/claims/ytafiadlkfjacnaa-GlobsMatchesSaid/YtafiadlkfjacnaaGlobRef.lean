/-
  The document's own globs: one, every, closing, bracket: contracts.
-/
import Derived.Test.YtafiadlkfjacnaaGlobNext
import Derived.Laws.Tables
import Derived.Great.BuildSlice
namespace Go.Proofs.Ytafiadlkfjacnaa
open Go.RowKit

/-! ### The cells of a thing -/
def tc (s : Bool) (f : UInt8 → Bool) : Array Value := (Value.bool s :: (List.range 256).map fun j => Value.bool (f (UInt8.ofNat j))).toArray
section
variable (s : Bool) (f g : UInt8 → Bool)
theorem tc_size : (tc s f).size = 257 := by simp [tc]
theorem tc_head : (tc s f)[0]? = some (.bool s) := by simp [tc]
theorem tc_get (c : UInt8) : (tc s f)[c.toNat + 1]? = some (.bool (f c)) := by
  have h := c.toNat_lt
  unfold tc
  rw [List.getElem?_toArray, List.getElem?_cons_succ, List.getElem?_map, List.getElem?_range h]
  simp
theorem tc_ext {cs : Array Value} (h : cs.size = 257) (h0 : cs[0]? = some (.bool s)) (h1 : ∀ c : UInt8, cs[c.toNat + 1]? = some (.bool (f c))) : cs = tc s f := by
  apply Array.ext_getElem?
  intro i
  cases i with
  | zero => rw [h0, tc_head]
  | succ i =>
    by_cases hi : i < 256
    · have e : (UInt8.ofNat i).toNat = i := by simp; omega
      have h2 := h1 (UInt8.ofNat i)
      have h3 := tc_get s f (UInt8.ofNat i)
      rw [e] at h2 h3
      rw [h2, h3]
    · rw [Array.getElem?_eq_none (by omega), Array.getElem?_eq_none (by rw [tc_size]; omega)]
theorem tc_congr (h : ∀ c, f c = g c) : tc s f = tc s g := by rw [show f = g from funext h]
theorem tc_set (x : UInt8) (v : Bool) : (tc s f).setIfInBounds (1 + x.toNat) (.bool v) = tc s (fun c => if c = x then v else f c) := by
  have hx := x.toNat_lt
  refine tc_ext s _ (by simp [tc_size]) ?_ fun c => ?_
  · rw [Array.getElem?_setIfInBounds_ne (by omega), tc_head]
  · by_cases e : c = x
    · subst e
      rw [show 1 + c.toNat = c.toNat + 1 from by omega, Array.getElem?_setIfInBounds_self_of_lt (by rw [tc_size]; omega), if_pos rfl]
    · rw [Array.getElem?_setIfInBounds_ne (fun h => e (UInt8.toNat_inj.1 (by omega))), if_neg e, tc_get]
theorem tc_one : (tc s f).all (·.oneCell') = true := by
  rw [Array.all_eq_true_iff_forall_mem]
  intro v hv
  simp [tc] at hv
  rcases hv with rfl | ⟨j, _, rfl⟩ <;> rfl
end
def f257 : Array Value := Array.replicate 257 (Value.bool false)
theorem f257_tc : f257 = tc false (fun _ => false) :=
  tc_ext _ _ (by simp [f257]) (by simp [f257]) fun c => by
    have := c.toNat_lt
    unfold f257
    rw [Array.getElem?_replicate, if_pos (by omega)]
theorem infoTh : (Try.prog.info? 53).map (fun i => (i.zero, i.size, i.bytes)) = some (some (.agg f257), 257, 257) := by kernel_rfl
theorem infoThSize (cs : Array Value) (h : cs.size = 257) : (Try.prog.info? 53).map (·.size) = some cs.size := by rw [h]; kernel_rfl

theorem below_setRow {B : Nat} {a w : World} (h : Below B a w) {g : Nat} (hg : B ≤ g) (cs : Array Value) : Below B a (w.setRow g cs) :=
  h.trans ⟨rfl, rfl, rfl, by simp, fun k hk => setRow_other _ _ _ _ (by omega)⟩

/-- The two blocks of a function that makes a thing: its result, and its own variable. -/
structure Two (w wr : World) (f : UInt8 → Bool) : Prop where
  own : Blk wr (w.heap.size + 1) 53 (tc false f)
  res : Blk wr w.heap.size 53 f257
  below : Below w.heap.size w wr
section
variable {w wr : World} {f g : UInt8 → Bool}
theorem Two.start (w : World) : Two w ((w.alloc (.cells f257 53)).alloc (.cells f257 53)) (fun _ => false) := by
  refine ⟨?_, (Blk.new w _ _).alloc _, ((Below.refl _ _).alloc (Nat.le_refl _) _).alloc (by simp) _⟩
  have := Blk.new (w.alloc (.cells f257 53)) 53 f257
  rw [show (w.alloc (.cells f257 53)).heap.size = w.heap.size + 1 from by simp] at this
  rw [← f257_tc]
  exact this
theorem Two.congr (h : Two w wr f) (e : ∀ c, f c = g c) : Two w wr g := by rw [← show f = g from funext e]; exact h
theorem Two.cell (h : Two w wr f) (c : UInt8) : wr.cell? ⟨w.heap.size + 1, 1 + c.toNat, none⟩ = some (.bool (f c)) := by
  rw [h.own.cell, show 1 + c.toNat = c.toNat + 1 from by omega, tc_get]
theorem Two.frozen (h : Two w wr f) (i : Nat) : wr.frozen? ⟨w.heap.size + 1, i, none⟩ = false := h.own.frozen i
theorem Two.set (h : Two w wr f) (x : UInt8) (v : Bool) : Two w (wr.setCell ⟨w.heap.size + 1, 1 + x.toNat, none⟩ (.bool v)) (fun c => if c = x then v else f c) := by
  refine ⟨?_, h.res.far (p := ⟨w.heap.size + 1, 1 + x.toNat, none⟩) (by show w.heap.size ≠ w.heap.size + 1; omega) _, h.below.setCell (p := ⟨w.heap.size + 1, 1 + x.toNat, none⟩) (by show w.heap.size ≤ w.heap.size + 1; omega) _⟩
  rw [← tc_set]
  exact h.own.set_ _ _
theorem Two.cell_q (h : Two w wr f) {q : Nat} (hq : q < 256) : wr.cell? ⟨w.heap.size + 1, 1 + q, none⟩ = some (.bool (f (UInt8.ofNat q))) := by
  have := h.cell (UInt8.ofNat q)
  rwa [show (UInt8.ofNat q).toNat = q from by simp; omega] at this
theorem Two.set_q (h : Two w wr f) {q : Nat} (hq : q < 256) (v : Bool) : Two w (wr.setCell ⟨w.heap.size + 1, 1 + q, none⟩ (.bool v)) (fun c => if c = UInt8.ofNat q then v else f c) := by
  have := h.set (UInt8.ofNat q) v
  rwa [show (UInt8.ofNat q).toNat = q from by simp; omega] at this
theorem Two.drewN (h : Two w wr f) (k : Nat) : Two w (wr.drewN k) f := ⟨h.own.drewN k, h.res.drewN k, below_drewN h.below k⟩
theorem Two.end_ (h : Two w wr f) : Blk (wr.setRow w.heap.size (tc false f)) w.heap.size 53 (tc false f) ∧ Below w.heap.size w (wr.setRow w.heap.size (tc false f)) :=
  ⟨setRow_heap _ _ _ _ _ _ h.res, below_setRow h.below (Nat.le_refl _) _⟩
end

set_option maxRecDepth 100000 in
set_option maxHeartbeats 1000000 in
theorem rone_any (c : UInt8) (w : World) :
    Calls Try.prog 28 #[.int .u8 c.toNat] w fun e w' => e = .returned (.agg (tc false (fun d => d == c))) ∧ Below w.heap.size w w' := by
  obtain ⟨i0, hi0, hz0, hz1, hz2⟩ := info_parts infoTh
  have hT := Two.start w
  obtain ⟨w0, hw0⟩ : ∃ w0, w0 = w.alloc (.cells f257 53) := ⟨_, rfl⟩
  have hs0 : w0.heap.size = w.heap.size + 1 := by rw [hw0]; simp
  rw [← hw0] at hT
  obtain ⟨w1, hw1⟩ : ∃ w1, w1 = w0.alloc (.cells f257 53) := ⟨_, rfl⟩
  rw [← hw1] at hT
  have HW0 := Lib.hid hw0
  have HW1 := Lib.hid hw1
  have HS0 := Lib.hid hs0
  have hc := hT.cell c
  have hf := hT.frozen (1 + c.toNat)
  have h256 := c.toNat_lt
  have hT2 := (hT.set c true).congr (g := fun d => d == c) (fun d => by by_cases e : d = c <;> simp [e])
  clear hw0 hw1 hs0 hT
  go_enter Try.func28, Try.ntmps28
  go_wp2_with (first
    | (refine wpList_alloc_any _ rfl 53 rfl i0 _ hi0 hz0 ?_; rw [show (Value.agg f257).cells = f257 from rfl]; first | rw [← HW0.out] | rw [← HW1.out, HS0.out])
    | (refine wpList_load_row rfl 53 (.tmp 3) rfl (w.heap.size + 1) rfl 53 _ (0, 0) _ hT2.own Try.underlying53 rfl (infoThSize _ (tc_size _ _)) ?_)
    | (refine wpList_store_row rfl 53 (.tmp 2) (.tmp 7) rfl w.heap.size _ rfl rfl 53 _ hT2.res (infoThSize _ (tc_size _ _)) (by rw [tc_size]; simp [f257]) (tc_one _ _) ?_))
  refine bodyPost_ret (v := .agg (tc false (fun d => d == c))) (by refine results_cell_row (p := 2) (ty := 53) ?_ _ _ w.heap.size _ _ _ _ ?_ hT2.end_.1 Try.underlying53 rfl (infoThSize _ (tc_size _ _)) <;> rfl) rfl ⟨rfl, hT2.end_.2⟩

set_option maxRecDepth 100000 in
set_option maxHeartbeats 1000000 in
theorem revery_any (w : World) :
    Calls Try.prog 27 #[] w fun e w' => e = .returned (.agg (tc false (fun _ => true))) ∧ Below w.heap.size w w' := by
  obtain ⟨i0, hi0, hz0, hz1, hz2⟩ := info_parts infoTh
  have hT := Two.start w
  obtain ⟨w0, hw0⟩ : ∃ w0, w0 = w.alloc (.cells f257 53) := ⟨_, rfl⟩
  have hs0 : w0.heap.size = w.heap.size + 1 := by rw [hw0]; simp
  rw [← hw0] at hT
  obtain ⟨w1, hw1⟩ : ∃ w1, w1 = w0.alloc (.cells f257 53) := ⟨_, rfl⟩
  rw [← hw1] at hT
  have HW0 := Lib.hid hw0
  have HW1 := Lib.hid hw1
  have HS0 := Lib.hid hs0
  have HT := Lib.hid hT
  clear hw0 hw1 hs0 hT
  go_enter Try.func27, Try.ntmps27
  go_wp2_with (refine wpList_alloc_any _ rfl 53 rfl i0 _ hi0 hz0 ?_; rw [show (Value.agg f257).cells = f257 from rfl]; first | rw [← HW0.out] | rw [← HW1.out, HS0.out])
  go_loopw [2] (fun i wr => ∃ q : Nat, q ≤ 256 ∧ i = .int .i64 q ∧ Two w wr (fun c => decide (c.toNat < q))) (fun i _ => 256 - (intOf i).toNat)
  case atStart => exact ⟨0, Nat.zero_le _, rfl, HT.out.congr fun c => by simp⟩
  case round =>
    obtain ⟨q, hq, rfl, hT⟩ := hrel
    by_cases hlt : q < 256
    · have hc := hT.cell_q hlt
      have hf := hT.frozen (1 + q)
      have hT2 := hT.set_q hlt true
      have HT2 := Lib.hid hT2
      clear hT hT2
      go_wp2_with fail
      go_roundw
      case rel => exact ⟨q + 1, by omega, by go_num, HT2.out.congr fun c => by
        by_cases e : c = UInt8.ofNat q
        · have : c.toNat = q := by rw [e]; simp; omega
          rw [if_pos e, decide_eq_true (by omega)]
        · have hne : c.toNat ≠ q := fun h => e (UInt8.toNat_inj.1 (by simp; omega))
          rw [if_neg e]
          exact decide_eq_decide.2 ⟨fun h => by omega, fun h => by omega⟩⟩
      case measure => simp [intOf]; omega
    · obtain rfl : q = 256 := by omega
      have hT2 := hT.congr (g := fun _ => true) (fun c => decide_eq_true c.toNat_lt)
      clear hT hq
      go_wp2_with (first
        | (refine wpList_load_row rfl 53 (.tmp 1) rfl (w.heap.size + 1) rfl 53 _ (0, 0) _ hT2.own Try.underlying53 rfl (infoThSize _ (tc_size _ _)) ?_)
        | (refine wpList_store_row rfl 53 (.tmp 0) (.tmp 10) rfl w.heap.size _ rfl rfl 53 _ hT2.res (infoThSize _ (tc_size _ _)) (by rw [tc_size]; simp [f257]) (tc_one _ _) ?_))
      refine bodyPost_ret (v := .agg (tc false (fun _ => true))) (by refine results_cell_row (p := 0) (ty := 53) ?_ _ _ w.heap.size _ _ _ _ ?_ hT2.end_.1 Try.underlying53 rfl (infoThSize _ (tc_size _ _)) <;> rfl) rfl ⟨rfl, hT2.end_.2⟩

/-! ### closing -/
def fromOf (L : List UInt8) (p : Nat) : Nat := if notOf (L.drop (p + 1)) = true then p + 2 else p + 1
theorem closeAt_cons (c : UInt8) (r : List UInt8) : closeAt (c :: r) = if c = 93 then some 0 else (closeAt r).map (· + 1) := by
  unfold closeAt
  rw [List.findIdx?_cons]
  by_cases h : c = 93
  · subst h; simp
  · have h1 : (c == 93) = false := by simpa using h
    rw [h1, if_neg h]
    rfl
theorem str_at (L : List UInt8) (q : Nat) (a : UInt8) (h0 : L[q]? = some a) (h : q < (str L).size) : (str L)[q]'h = a := by
  have h2 : q < L.length := by rw [← str_size]; exact h
  rw [List.getElem?_eq_getElem h2] at h0
  injection h0
theorem drop_at (L : List UInt8) (q : Nat) (a : UInt8) (r : List UInt8) (h : L.drop q = a :: r) : L[q]? = some a ∧ L.drop (q + 1) = r ∧ q < L.length := by
  have h1 : L[q]? = some a := by
    have := List.getElem?_drop (xs := L) (i := q) (j := 0)
    rw [h] at this
    simpa using this.symm
  refine ⟨h1, ?_, (List.getElem?_eq_some_iff.1 h1).1⟩
  rw [← List.drop_drop, h]
  rfl
def CloseIs (L : List UInt8) (p : Nat) (e : Ending) : Prop := match closeAt (L.drop (fromOf L p + 1)) with
  | none => e = .returned (.tuple #[.int .i64 0, .int .i64 0, .bool false])
  | some n => e = .returned (.tuple #[.int .i64 (fromOf L p : Nat), .int .i64 (fromOf L p + 1 + n : Nat), .bool true])
theorem CloseIs.none_ {L : List UInt8} {p q : Nat} (h : closeAt (L.drop (fromOf L p + 1)) = (closeAt (L.drop q)).map (· + (q - (fromOf L p + 1)))) (hq : L.length ≤ q) : CloseIs L p (.returned (.tuple #[.int .i64 0, .int .i64 0, .bool false])) := by
  unfold CloseIs
  rw [h, List.drop_eq_nil_of_le hq]
  rfl
theorem CloseIs.some_ {L : List UInt8} {p q : Nat} (h : closeAt (L.drop (fromOf L p + 1)) = (closeAt (L.drop q)).map (· + (q - (fromOf L p + 1)))) (hq : L[q]? = some 93) (hpq : fromOf L p + 1 ≤ q) {x : Int} (hx : x = (fromOf L p : Nat)) :
    CloseIs L p (.returned (.tuple #[.int .i64 x, .int .i64 (q : Int), .bool true])) := by
  have hlt := (List.getElem?_eq_some_iff.1 hq).1
  have hd : L.drop q = 93 :: L.drop (q + 1) := by
    rw [List.drop_eq_getElem_cons hlt]
    rw [List.getElem?_eq_getElem hlt] at hq
    injection hq with hq
    rw [hq]
  unfold CloseIs
  rw [h, hd, closeAt_cons, if_pos rfl]
  show _ = _
  rw [hx]
  show Ending.returned (.tuple #[_, .int .i64 (q : Int), _]) = Ending.returned (.tuple #[_, .int .i64 ((fromOf L p + 1 + (0 + (q - (fromOf L p + 1))) : Nat) : Int), _])
  rw [show fromOf L p + 1 + (0 + (q - (fromOf L p + 1))) = q from by omega]
theorem close_next {L : List UInt8} {p q : Nat} {c : UInt8} (h : closeAt (L.drop (fromOf L p + 1)) = (closeAt (L.drop q)).map (· + (q - (fromOf L p + 1)))) (hq : L[q]? = some c) (hc : c ≠ 93) (hpq : fromOf L p + 1 ≤ q) :
    closeAt (L.drop (fromOf L p + 1)) = (closeAt (L.drop (q + 1))).map (· + (q + 1 - (fromOf L p + 1))) := by
  have hlt := (List.getElem?_eq_some_iff.1 hq).1
  have hd : L.drop q = c :: L.drop (q + 1) := by
    rw [List.drop_eq_getElem_cons hlt]
    rw [List.getElem?_eq_getElem hlt] at hq
    injection hq with hq
    rw [hq]
  rw [h, hd, closeAt_cons, if_neg hc, Option.map_map]
  congr 1
  funext n
  show n + 1 + (q - (fromOf L p + 1)) = n + (q + 1 - (fromOf L p + 1))
  omega
theorem fromOf_cases (L : List UInt8) (p : Nat) : (L.length ≤ p + 1 ∧ fromOf L p = p + 1) ∨ (p + 1 < L.length ∧ L[p + 1]? = some 33 ∧ fromOf L p = p + 2) ∨ (∃ c, p + 1 < L.length ∧ L[p + 1]? = some c ∧ c ≠ 33 ∧ fromOf L p = p + 1) := by
  unfold fromOf
  cases hd : L.drop (p + 1) with
  | nil => exact .inl ⟨by rwa [List.drop_eq_nil_iff] at hd, rfl⟩
  | cons c r =>
    obtain ⟨h1, _, h3⟩ := drop_at _ _ _ _ hd
    by_cases h : c = 33
    · subst h; exact .inr (.inl ⟨h3, h1, rfl⟩)
    · rw [(insideOf_ne c r h).2]
      exact .inr (.inr ⟨c, h3, h1, h, rfl⟩)

set_option maxRecDepth 100000 in
set_option maxHeartbeats 2000000 in
theorem rclosing_any (L : List UInt8) (p : Nat) (w : World) (hp : p < L.length) (hL : L.length ≤ 4096) :
    Calls Try.prog 29 #[.string (str L), .int .i64 p] w fun e w' => CloseIs L p e ∧ Below w.heap.size w w' := by
  have hs0 : (str L).size = L.length := str_size L
  have HFC := Lib.hid (fromOf_cases L p)
  rcases HFC.out with ⟨h1, hF⟩ | ⟨h1, h2, hF⟩ | ⟨c, h1, h2, h3, hF⟩
  · have HF := Lib.hid hF
    clear hF
    go_enter Try.func29, Try.ntmps29
    go_wp2_with fail
    go_loopw [8] (fun i wr => i = .int .i64 (p + 2 : Nat) ∧ Below w.heap.size w wr) (fun i _ => 0)
    case atStart => exact ⟨by go_num, below_drewN (Below.refl _ _) 0⟩
    case round =>
      obtain ⟨rfl, hB⟩ := hrel
      go_wp2_with fail
      go_ret3
      exact ⟨CloseIs.none_ (q := p + 2) (by rw [HF.out]; simp) (by omega), hB⟩
  · have HF := Lib.hid hF
    have hg := str_at L (p + 1) 33 h2
    clear hF h2
    go_enter Try.func29, Try.ntmps29
    go_wp2_with fail
    go_loopw [8] (fun i wr => ∃ q : Nat, i = .int .i64 q ∧ p + 3 ≤ q ∧ q ≤ L.length + 1 ∧ Hid (closeAt (L.drop (fromOf L p + 1)) = (closeAt (L.drop q)).map (· + (q - (fromOf L p + 1)))) ∧ Below w.heap.size w wr) (fun i _ => L.length + 1 - (intOf i).toNat)
    case atStart => exact ⟨p + 3, by go_num, Nat.le_refl _, by omega, hide (by rw [HF.out]; simp), Below.refl _ _⟩
    case round =>
      obtain ⟨q, rfl, hpq, hql, hcl, hB⟩ := hrel
      by_cases hlt : q < L.length
      · obtain ⟨c, hc⟩ : ∃ c, L[q]? = some c := ⟨_, List.getElem?_eq_getElem hlt⟩
        have hgq := str_at L q c hc
        by_cases h93 : c = 93
        · subst h93
          have HC := Lib.hid hc
          clear hc
          go_wp2_with fail
          go_ret3
          exact ⟨CloseIs.some_ hcl.out HC.out (by rw [HF.out]; omega) (by rw [HF.out]; omega), hB⟩
        · have h93' : ((c.toNat : Int) == 93) = false := u8_beq_lit (n := 93) (by omega) h93
          have HC := Lib.hid hc
          have HN := Lib.hid h93
          clear hc h93
          go_wp2_with fail
          go_roundw
          case rel => exact ⟨q + 1, by go_num, by omega, by omega, hide (close_next hcl.out HC.out HN.out (by rw [HF.out]; omega)), hB⟩
          case measure => simp [intOf]; omega
      · go_wp2_with fail
        go_ret3
        exact ⟨CloseIs.none_ hcl.out (by omega), hB⟩
  · have HF := Lib.hid hF
    have hg := str_at L (p + 1) c h2
    have h33 : ((c.toNat : Int) == 33) = false := u8_beq_lit (n := 33) (by omega) h3
    clear hF h2 h3
    go_enter Try.func29, Try.ntmps29
    go_wp2_with fail
    go_loopw [8] (fun i wr => ∃ q : Nat, i = .int .i64 q ∧ p + 2 ≤ q ∧ q ≤ L.length + 1 ∧ Hid (closeAt (L.drop (fromOf L p + 1)) = (closeAt (L.drop q)).map (· + (q - (fromOf L p + 1)))) ∧ Below w.heap.size w wr) (fun i _ => L.length + 1 - (intOf i).toNat)
    case atStart => exact ⟨p + 2, by go_num, Nat.le_refl _, by omega, hide (by rw [HF.out]; simp), Below.refl _ _⟩
    case round =>
      obtain ⟨q, rfl, hpq, hql, hcl, hB⟩ := hrel
      by_cases hlt : q < L.length
      · obtain ⟨c, hc⟩ : ∃ c, L[q]? = some c := ⟨_, List.getElem?_eq_getElem hlt⟩
        have hgq := str_at L q c hc
        by_cases h93 : c = 93
        · subst h93
          have HC := Lib.hid hc
          clear hc
          go_wp2_with fail
          go_ret3
          exact ⟨CloseIs.some_ hcl.out HC.out (by rw [HF.out]; omega) (by rw [HF.out]; omega), hB⟩
        · have h93' : ((c.toNat : Int) == 93) = false := u8_beq_lit (n := 93) (by omega) h93
          have HC := Lib.hid hc
          have HN := Lib.hid h93
          clear hc h93
          go_wp2_with fail
          go_roundw
          case rel => exact ⟨q + 1, by go_num, by omega, by omega, hide (close_next hcl.out HC.out HN.out (by rw [HF.out]; omega)), hB⟩
          case measure => simp [intOf]; omega
      · go_wp2_with fail
        go_ret3
        exact ⟨CloseIs.none_ hcl.out (by omega), hB⟩
end Go.Proofs.Ytafiadlkfjacnaa
