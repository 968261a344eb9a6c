/-
  opts.Last (a range over slices.Backward) contract.
-/
import Derived.RangeFuncNested
import Derived.RangeFuncBound
import Derived.RangeFuncCalls
import Derived.RangeFuncLeaves
import Derived.RangeFuncBox
import Derived.Shelf.Abstract
import Derived.Shelf.RegionOpen
import Derived.OwnWalkIn
import Derived.TacticsInMore
import Derived.LoopNIn
import Derived.LoopIn
import Derived.Test.YtghkdfjmahmolaaDoorFlag1
namespace Go.Proofs.YtghkdfjmahmolaaDoor
open Go.RowKit Go.Shelf
attribute [local go_sem] Oper.semAt_some

/-- What was told with a letter the last time. -/
def flast : List Flag2 → UInt8 → Option ByteArray
  | [], _ => none
  | x :: l, c => match flast l c with
    | some s => some s
    | none => if x.1 = c then some x.2 else none
theorem flast_none (l : List Flag2) (c : UInt8) (h : ∀ j (hj : j < l.length), (l[j]).1 ≠ c) : flast l c = none := by
  induction l with
  | nil => rfl
  | cons x l ih =>
    unfold flast
    rw [ih fun j hj => h (j + 1) (by simpa using hj)]
    have := h 0 (by simp)
    simp at this
    simp [this]
theorem flast_at (l : List Flag2) (c : UInt8) : ∀ (k : Nat) (hk : k < l.length) (_ : (l[k]).1 = c) (_ : ∀ j (hj : j < l.length), k < j → (l[j]).1 ≠ c), flast l c = some (l[k]).2 := by
  induction l with
  | nil => intro k hk; simp at hk
  | cons x l ih =>
    intro k hk he hn
    unfold flast
    cases k with
    | zero =>
      rw [flast_none l c fun j hj => hn (j + 1) (by simpa using hj) (by omega)]
      simp at he
      simp [he]
    | succ k =>
      rw [ih k (by simpa using hk) (by simpa using he) fun j hj hkj => by have := hn (j + 1) (by simpa using hj) (by omega); simpa using this]
      rfl

/-- What slices.Backward hands its loop, round by round. -/
def bk (l : List Flag2) (j : Nat) : Nat × Flag2 := (l.length - 1 - j, l.getD (l.length - 1 - j) (0, ⟨#[]⟩))
def uptoB (l : List Flag2) (k : Nat) : List (Nat × Flag2) := (List.range k).map (bk l)
theorem uptoB_succ (l : List Flag2) (k : Nat) : uptoB l (k + 1) = uptoB l k ++ [bk l k] := by simp [uptoB, List.range_succ]
theorem uptoB_length (l : List Flag2) (k : Nat) : (uptoB l k).length = k := by simp [uptoB]
def encB (x : Nat × Flag2) : Array Value := #[.int .i64 (x.1 : Int), .agg #[.int .u8 (x.2.1.toNat : Int), .string x.2.2]]

set_option maxRecDepth 100000 in
set_option maxHeartbeats 2000000 in
theorem backward1_in (F : Fence) (nF : Nat) (h7 : F.fn 43) (hro : F.round = none) (hnF : 1 ≤ nF) (lp Bs n₀ : Nat) (A : Option Addr) (len cap : Nat) (l : List Flag2) (hlen : len ≤ 2097152) (J Jx : List (Nat × Flag2) → World → Prop)
    (hY : ∀ pre x W, J pre W → pre.length < len → YieldAt F (nF - 1) Tryd.prog lp (encB x) W fun e W' =>
      (e = .returned (.bool true) ∧ J (pre ++ [x]) W' ∧ Below n₀ W W') ∨ (e = .returned (.bool false) ∧ Jx (pre ++ [x]) W'))
    (W : World) (hBs : W.cell? ⟨Bs, 0, none⟩ = some (.slice A len cap)) (hBn : Bs < n₀) (hr : Reads W n₀ 2 A len (fv l)) (h0 : J [] W) :
    CallsIn F nF Tryd.prog 43 #[.func (.yield lp) #[] #[], .pointer (some ⟨Bs, 0, none⟩)] W fun e W' => (∃ v, e = .returned v) ∧
      ((∃ ys, ys = uptoB l len ∧ J ys W') ∨ (∃ pre, (∃ k, k ≤ len ∧ pre = uptoB l k) ∧ Jx pre W')) := by
  have hl : l.length = len := by have := hr.1; rw [fv_length] at this; omega
  have HL := Lib.hid hl
  clear hl
  refine callsIn_of_wp Tryd.func43 rfl h7 ?_ hro
  simp only [Tryd.ntmps43, List.size_toArray, List.length_cons, List.length_nil, Nat.reduceAdd, Nat.reduceSub, Array.replicate_succ, Array.replicate_zero, List.push_toArray, List.append_toArray, List.nil_append, List.cons_append]
  gi_wp2
  gi_loopw [3] (fun i wr => ∃ k : Nat, k ≤ len ∧ i = .int .i64 ((len : Int) - 1 - k) ∧ J (uptoB l k) wr ∧ Below n₀ W wr)
    (fun i _ => (intOf i + 1).toNat)
  case atStart => exact ⟨0, Nat.zero_le _, by simp, h0, Below.refl _ _⟩
  case round =>
    obtain ⟨k, hk, rfl, hJs, hnx⟩ := hrel
    have hBs2 := (hnx.cell (p := ⟨Bs, 0, none⟩) hBn).trans hBs
    by_cases hlt : k < len
    · obtain ⟨q, hq⟩ : ∃ q, len = q + 1 + k := ⟨len - 1 - k, by omega⟩
      have hq3 : q < len := by omega
      have hkl : q < l.length := by rw [HL.out]; exact hq3
      have hbk : bk l k = (q, l[q]) := by
        unfold bk
        rw [HL.out, show len - 1 - k = q from by omega, List.getD_eq_getElem?_getD, List.getElem?_eq_getElem hkl]; rfl
      obtain ⟨ad, rfl, had, hc0, hc1⟩ := (hr.below hnx).flag hq3 HL.out
      obtain ⟨fn, tmps, assign, body, hy, hR⟩ := hY _ (bk l k) wr hJs (by rw [uptoB_length]; exact hlt)
      rw [hbk] at hy
      dsimp only [encB] at hy
      have Hbk := Lib.hid hbk
      have Hq := Lib.hid hq
      have hidx : (len : Int) - 1 - k = q := by omega
      rw [hidx]
      clear hbk hq hr hidx
      gi_wp2
      refine hR.mono ?_
      rintro e W3 (⟨rfl, hJ3, hk3⟩ | ⟨rfl, hJx3⟩)
      · gi_wp2
        go_roundw
        case rel =>
          refine ⟨k + 1, by omega, ?_, by rw [uptoB_succ]; exact hJ3, hnx.trans hk3⟩
          have := Hq.out
          exact congrArg (Value.int .i64) (by omega)
        case measure => simp [intOf]
      · gi_wp2
        refine bodyPost_ret (results_none rfl _ _ _) rfl ?_
        exact ⟨⟨_, rfl⟩, .inr ⟨_, ⟨k + 1, by omega, (uptoB_succ _ _).symm⟩, hJx3⟩⟩
    · have hkn : k = len := by omega
      have hidx : (len : Int) - 1 - k = -1 := by omega
      rw [hidx]
      clear hidx
      have Hk := Lib.hid hkn
      clear hkn
      gi_wp2
      go_end0
      exact ⟨⟨_, rfl⟩, .inl ⟨_, by rw [Hk.out], hJs⟩⟩

theorem backward_in (F : Fence) (nF : Nat) (h5 : F.fn 31) (hro : F.round = none) (a : Option Addr) (len cap : Nat) (w : World) :
    CallsIn F nF Tryd.prog 31 #[.slice a len cap] w fun e w' => e = .returned (.func (.func 43) #[] #[.pointer (some ⟨w.heap.size, 0, none⟩)]) ∧ w' = w.alloc (.cells #[.slice a len cap] 29) := by
  refine callsIn_of_wp Tryd.func31 rfl h5 ?_ hro
  simp only [Tryd.ntmps31, List.size_toArray, List.length_cons, List.length_nil, Nat.reduceAdd, Nat.reduceSub, Array.replicate_succ, Array.replicate_zero, List.push_toArray, List.append_toArray, List.nil_append, List.cons_append]
  gi_wp2
  go_ret
  exact ⟨rfl, rfl⟩

theorem backward_stops (F : Fence) (nF : Nat) (h7 : F.fn 43) (hro : F.round = none) (hnF : 1 ≤ nF) (Bs n₀ : Nat) (A : Option Addr) (len cap : Nat) (l : List Flag2) (hlen : len ≤ 2097152) (w : World) (hBs : Bs < w.heap.size) (hBn : Bs < n₀) (hn₀ : n₀ ≤ w.heap.size)
    (hc : w.cell? ⟨Bs, 0, none⟩ = some (.slice A len cap)) (hr : Reads w n₀ 2 A len (fv l)) :
    SeqStopsK F nF Tryd.prog 43 #[.pointer (some ⟨Bs, 0, none⟩)] encB (Below n₀) (fun ys => ys = uptoB l len)
      (fun pre => ∃ k, k ≤ len ∧ pre = uptoB l k) len w := fun lp J Jx W hW _ _ hY h0 =>
  backward1_in F nF h7 hro hnF lp Bs n₀ A len cap l hlen J Jx hY W ((hW.cell (p := ⟨Bs, 0, none⟩) hBs).trans hc) hBn (hr.below (hW.mono hn₀)) h0

theorem bk_at (l : List Flag2) (j : Nat) (hj : j < l.length) : bk l (l.length - 1 - j) = (j, l[j]) := by
  unfold bk
  rw [show l.length - 1 - (l.length - 1 - j) = j from by omega, List.getD_eq_getElem?_getD, List.getElem?_eq_getElem hj]; rfl
theorem flast_of_all (l : List Flag2) (x : UInt8) (h : ∀ p ∈ uptoB l l.length, p.2.1 ≠ x) : flast l x = none :=
  flast_none l x fun j hj => by
    have := h (bk l (l.length - 1 - j)) (by unfold uptoB; rw [List.mem_map]; exact ⟨l.length - 1 - j, by rw [List.mem_range]; omega, rfl⟩)
    rwa [bk_at l j hj] at this
theorem flast_of_stop (l : List Flag2) (x : UInt8) (k : Nat) (hk : k ≤ l.length) (ini : List (Nat × Flag2)) (last : Nat × Flag2) (e1 : uptoB l k = ini ++ [last]) (e2 : ∀ p ∈ ini, p.2.1 ≠ x) (e3 : last.2.1 = x) : flast l x = some last.2.2 := by
  obtain ⟨k', rfl⟩ : ∃ k', k = k' + 1 := by
    cases k with
    | zero => simp [uptoB] at e1
    | succ k' => exact ⟨k', rfl⟩
  rw [uptoB_succ] at e1
  obtain ⟨rfl, e5⟩ := List.append_inj' e1 rfl
  have e6 : bk l k' = last := by simpa using e5
  have hq : l.length - 1 - k' < l.length := by omega
  have e7 : bk l k' = (l.length - 1 - k', l[l.length - 1 - k']) := by
    have := bk_at l (l.length - 1 - k') hq
    rwa [show l.length - 1 - (l.length - 1 - k') = k' from by omega] at this
  rw [e7] at e6
  subst e6
  refine flast_at l x _ hq e3 fun j hj hkj => ?_
  have := e2 (bk l (l.length - 1 - j)) (by unfold uptoB; rw [List.mem_map]; exact ⟨l.length - 1 - j, by rw [List.mem_range]; omega, rfl⟩)
  rwa [bk_at l j hj] at this
theorem blk_kept {X Y : World} {row : Option Nat} {g : Nat} {t : TypeId} {cs : Array Value} (h : Blk X g t cs) (hg : X.grownBy Y row) (hr : ∀ r, row = some r → ∃ o : Obj, X.heap[r]? = some o ∧ o.isCells = false) : Blk Y g t cs :=
  h.grown hg (fun e => by
    obtain ⟨o, ho, hc⟩ := hr g e.symm
    rw [show X.heap[g]? = _ from h] at ho
    injection ho with ho
    subst ho
    cases hc)

set_option maxRecDepth 100000 in
set_option maxHeartbeats 4000000 in
theorem last_in (F : Fence) (nF : Nat) (h3 : F.fn 21) (h4 : F.fn 31) (h5 : F.fn 43) (hro : F.round = none) (hnF : 6 ≤ nF)
    (A : Option Addr) (n c : Nat) (l : List Flag2) (x : UInt8) (w : World) (hr : Reads w w.heap.size 2 A n (fv l)) (hn : n ≤ 2097152) :
    CallsIn F nF Tryd.prog 21 #[.slice A n c, .int .u8 (x.toNat : Int)] w fun e W' => e = .returned (.tuple #[.string ((flast l x).getD ⟨#[]⟩), .bool (flast l x).isSome]) ∧ Below w.heap.size w W' := by
  have h1 : 1 ≤ nF := by omega
  have hl : l.length = n := by have := hr.1; rw [fv_length] at this; omega
  have HL := Lib.hid hl
  clear hl
  refine callsIn_of_wp_marks Tryd.func21 rfl h3 ?_ hro
  simp only [Tryd.ntmps21, List.size_toArray, List.length_cons, List.length_nil, Nat.reduceAdd, Nat.reduceSub, Array.replicate_succ, Array.replicate_zero, List.push_toArray, List.append_toArray, List.nil_append, List.cons_append]
  gi_wp2_with (gi_at_call 31; refine (backward_in F (nF - 1) h4 hro _ _ _ _).mono ?_; rintro e w' ⟨rfl, rfl⟩)
  have b0 := (((Boxed.new w 5 (.int .u8 (x.toNat : Int))).alloc (.cells #[.string ⟨#[]⟩] 9)).alloc (.cells #[.bool false] 4)).alloc (.cells #[.slice A n c] 29)
  have b1 := ((Boxed.new (w.alloc (.cells #[.int .u8 (x.toNat : Int)] 5)) 9 (.string ⟨#[]⟩)).alloc (.cells #[.bool false] 4)).alloc (.cells #[.slice A n c] 29)
  have b2 := (Boxed.new ((w.alloc (.cells #[.int .u8 (x.toNat : Int)] 5)).alloc (.cells #[.string ⟨#[]⟩] 9)) 4 (.bool false)).alloc (.cells #[.slice A n c] 29)
  have b3 := Boxed.new (((w.alloc (.cells #[.int .u8 (x.toNat : Int)] 5)).alloc (.cells #[.string ⟨#[]⟩] 9)).alloc (.cells #[.bool false] 4)) 29 (.slice A n c)
  simp only [World.size_alloc] at b1 b2 b3
  have hB0 : Below w.heap.size w ((((w.alloc (.cells #[.int .u8 (x.toNat : Int)] 5)).alloc (.cells #[.string ⟨#[]⟩] 9)).alloc (.cells #[.bool false] 4)).alloc (.cells #[.slice A n c] 29)) := ((((Below.refl _ w).alloc (Nat.le_refl _) _).alloc (by simp) _).alloc (by simp; omega) _).alloc (by simp; omega) _
  have hsz : ((((w.alloc (.cells #[.int .u8 (x.toNat : Int)] 5)).alloc (.cells #[.string ⟨#[]⟩] 9)).alloc (.cells #[.bool false] 4)).alloc (.cells #[.slice A n c] 29)).heap.size = w.heap.size + 4 := by simp
  obtain ⟨W0, hW0⟩ : ∃ W0, ((((w.alloc (.cells #[.int .u8 (x.toNat : Int)] 5)).alloc (.cells #[.string ⟨#[]⟩] 9)).alloc (.cells #[.bool false] 4)).alloc (.cells #[.slice A n c] 29)) = W0 := ⟨_, rfl⟩
  rw [hW0] at b0 b1 b2 b3 hB0 hsz ⊢
  clear hW0
  refine wpIn_rangeFunc_ownH hro h1 (gf := 43) (lb := #[.pointer (some ⟨w.heap.size + 1 + 1 + 1, 0, none⟩)]) rfl h5 (enters_of Tryd.func43 (by kernel_rfl) rfl)
    (backward_stops F (nF - 1) h5 hro (by omega) (w.heap.size + 1 + 1 + 1) W0.heap.size A n c l hn W0 (by omega) (by omega) (Nat.le_refl _) b3.cell ((hr.below hB0).more hB0.size)) belowK_t (belowK_b (Nat.le_refl _)) (Below.refl _ _) (fun _ => rfl)
    (fun pre W => ((((Boxed W w.heap.size 5 (.int .u8 (x.toNat : Int)) ∧ Boxed W (w.heap.size + 1) 9 (.string ⟨#[]⟩)) ∧ Boxed W (w.heap.size + 1 + 1) 4 (.bool false)) ∧ Boxed W (w.heap.size + 1 + 1 + 1) 29 (.slice A n c)) ∧ ∀ p ∈ pre, p.2.1 ≠ x) ∧ Below w.heap.size w W)
    (fun cd pre W => ((cd = .ret ∧ ∃ ini last, pre = ini ++ [last] ∧ (∀ p ∈ ini, p.2.1 ≠ x) ∧ last.2.1 = x ∧ Boxed W (w.heap.size + 1) 9 (.string last.2.2) ∧ Boxed W (w.heap.size + 1 + 1) 4 (.bool true))) ∧ Below w.heap.size w W)
    (OwnFrom.and (OwnFrom.and (OwnFrom.and (OwnFrom.and (OwnFrom.and (Own.from (boxed_own _ _ _) _) (Own.from (boxed_own _ _ _) _)) (Own.from (boxed_own _ _ _) _)) (Own.from (boxed_own _ _ _) _)) (ownFrom_pure _ _)) (ownFrom_below (Nat.le_refl _) (by omega)))
    (fun cd => OwnFrom.and (Own.from (fun s X Y row hs hg hrow => by
      obtain ⟨e0, ini, last, e1, e2, e3, e4, e5⟩ := hs
      exact ⟨e0, ini, last, e1, e2, e3, boxed_own (w.heap.size + 1) _ (fun (_ : Unit) => Value.string last.2.2) () X Y row e4 hg hrow, boxed_own (w.heap.size + 1 + 1) _ (fun (_ : Unit) => Value.bool true) () X Y row e5 hg hrow⟩) _) (ownFrom_below (Nat.le_refl _) (by omega)))
    ⟨⟨⟨⟨⟨b0, b1⟩, b2⟩, b3⟩, by simp⟩, hB0⟩
    (fun y a' W => ∃ Bx, w.heap.size + 3 < Bx ∧ Blk W Bx 38 #[.int .u8 (y.2.1.toNat : Int), .string y.2.2] ∧ a' = { tmps := #[.slice A n c, .int .u8 (x.toNat : Int), undef, .pointer (some ⟨w.heap.size, 0, none⟩), .pointer (some ⟨w.heap.size + 1, 0, none⟩), .pointer (some ⟨w.heap.size + 1 + 1, 0, none⟩), undef, .pointer (some ⟨Bx, 0, none⟩), .slice A n c, .func (.func 43) #[] #[.pointer (some ⟨w.heap.size + 1 + 1 + 1, 0, none⟩)], .int .i64 (y.1 : Int), .agg #[.int .u8 (y.2.1.toNat : Int), .string y.2.2], undef, undef, undef, undef, undef, undef], defers := [] })
    (fun y a' _ X Y row hs hg hrow => by obtain ⟨Bx, h1, h2, h3⟩ := hs; exact ⟨Bx, h1, blk_kept h2 hg (fun r e => (hrow r e).2), h3⟩)
    ?assign ?body ?done ?stop
  case assign =>
    rintro lp pre y W K ⟨⟨⟨⟨⟨c0, c1⟩, c2⟩, c3⟩, hp⟩, hB⟩ hK
    have hsW := c3.lt
    dsimp only [encB]
    gi_wp2
    exact hK _ _ ((KeepsOthers.alloc _ _).from _) ((Below.refl _ W).alloc (by omega) _) ⟨⟨⟨⟨⟨c0.alloc _, c1.alloc _⟩, c2.alloc _⟩, c3.alloc _⟩, hp⟩, hB.alloc hB.size _⟩ ⟨W.heap.size, by omega, Blk.new W _ _, rfl⟩
  case body =>
    rintro lp pre y a' W hlp ⟨r, hr2⟩ ⟨⟨⟨⟨⟨c0, c1⟩, c2⟩, c3⟩, hp⟩, hB⟩ ⟨Bx, hBx, cX, rfl⟩ hlt
    have d0 := c0.cell
    have d1 := c1.cell
    have f1 := c1.frozen
    have d2 := c2.cell
    have f2 := c2.frozen
    have dx0 := cX.cell 0
    have dx1 := cX.cell 1
    simp at dx0 dx1
    have hs3 := c3.lt
    by_cases hx : y.2.1 = x
    · have hq := u8_beq_true hx
      have Hx := Lib.hid hx
      clear hx
      gi_wp2
      exact ⟨((KeepsOthers.setCell _ _ _).trans (KeepsOthers.setCell _ _ _)).from _, ⟨rfl, pre, y, rfl, hp, Hx.out, (c1.set _).other (by omega) _, (c2.other (by omega) _).set _⟩,
        (hB.setCell (p := ⟨w.heap.size + 1, 0, none⟩) (by simp) _).setCell (p := ⟨w.heap.size + 1 + 1, 0, none⟩) (by simp; omega) _⟩
    · have hq := u8_beq_false hx
      have Hx := Lib.hid hx
      clear hx
      gi_wp2
      exact ⟨KeepsFrom.refl _ _, Below.refl _ _, ⟨⟨⟨⟨c0, c1⟩, c2⟩, c3⟩, fun p hp' => (List.mem_append.1 hp').elim (hp p) (fun e => by simp at e; subst e; exact Hx.out)⟩, hB⟩
  case done =>
    rintro D ys W hD rfl ⟨⟨⟨⟨⟨c0, c1⟩, c2⟩, c3⟩, hp⟩, hB⟩ hK
    have d1 := c1.cell
    have f1 := c1.frozen
    have d2 := c2.cell
    have f2 := c2.frozen
    have hfl := Lib.hid (flast_of_all l x (by rw [HL.out]; exact hp))
    clear hp
    gi_wp2
    have hK' := ((KeepsOthers.setCell W ⟨w.heap.size + 1, 0, none⟩ (.string ⟨#[]⟩)).trans (KeepsOthers.setCell _ ⟨w.heap.size + 1 + 1, 0, none⟩ (.bool false))).same D _ hK rfl
    refine ⟨by simp, .inl ⟨_, _, rfl, run_takeDeferred hK', ?_⟩⟩
    have hc5 := cell_kept ((c1.set (.string ⟨#[]⟩)).other (B' := w.heap.size + 1 + 1) (by omega) (.bool false)).cell (grownBy_putObj' _ D (.deferred none)) (fun r e => by cases e; exact ⟨_, hK', rfl⟩)
    have hc6 := cell_kept ((c2.other (B' := w.heap.size + 1) (by omega) (.string ⟨#[]⟩)).set (.bool false)).cell (grownBy_putObj' _ D (.deferred none)) (fun r e => by cases e; exact ⟨_, hK', rfl⟩)
    refine ⟨.tuple #[.string ⟨#[]⟩, .bool false], ?_, by rw [hfl.out]; rfl, ((hB.setCell (p := ⟨w.heap.size + 1, 0, none⟩) (by simp) _).setCell (p := ⟨w.heap.size + 1 + 1, 0, none⟩) (by simp; omega) _).trans (belowK_b (w := w) (Nat.le_refl _) _ D _ _ (by omega) hK' rfl rfl)⟩
    simp [results, Tryd.f21, go_sem, hc5, hc6]
  case stop =>
    rintro D cd pre W hD ⟨k, hk, rfl⟩ ⟨⟨rfl, ini, last, e1, e2, e3, c1, c2⟩, hB⟩ hK
    have hfl := Lib.hid (flast_of_stop l x k (by rw [HL.out]; exact hk) ini last e1 e2 e3)
    clear e1 e2 e3
    gi_wp2
    refine ⟨by simp, .inl ⟨_, _, rfl, run_takeDeferred hK, ?_⟩⟩
    have hc5 := cell_kept c1.cell (grownBy_putObj' _ D (.deferred none)) (fun r e => by cases e; exact ⟨_, hK, rfl⟩)
    have hc6 := cell_kept c2.cell (grownBy_putObj' _ D (.deferred none)) (fun r e => by cases e; exact ⟨_, hK, rfl⟩)
    refine ⟨.tuple #[.string last.2.2, .bool true], ?_, by rw [hfl.out]; rfl, hB.trans (belowK_b (w := w) (Nat.le_refl _) W D _ _ (by omega) hK rfl rfl)⟩
    simp [results, Tryd.f21, go_sem, hc5, hc6]

theorem last_any (A : Option Addr) (n c : Nat) (l : List Flag2) (x : UInt8) (w : World) (hr : Reads w w.heap.size 2 A n (fv l)) (hn : n ≤ 2097152) :
    Calls Tryd.prog 21 #[.slice A n c, .int .u8 (x.toNat : Int)] w fun e W' => e = .returned (.tuple #[.string ((flast l x).getD ⟨#[]⟩), .bool (flast l x).isSome]) ∧ Below w.heap.size w W' :=
  callsIn_wide.1 (last_in Fence.wide 8 trivial trivial trivial rfl (by omega) A n c l x w hr hn)
end Go.Proofs.YtghkdfjmahmolaaDoor
