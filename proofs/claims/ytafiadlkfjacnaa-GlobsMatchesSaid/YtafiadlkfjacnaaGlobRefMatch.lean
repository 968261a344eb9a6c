/-
  The document's own Check and Match: their contracts.
-/
import Derived.Test.YtafiadlkfjacnaaGlobRefThings
import Derived.Test.YtafiadlkfjacnaaGlobLaws
import Derived.Deep.OwnRows
import Derived.StillTailTactics
namespace Go.Proofs.Ytafiadlkfjacnaa
open Go.RowKit

theorem RPatIs.cases_ {L : List UInt8} {base : Nat} {w' : World} {e : Ending} (h : RPatIs L base w' e) :
    (okP L = false ∧ (∀ N, matchP L N = false) ∧ e = .returned (.tuple #[.slice none 0 0, .bool false])) ∨
    (∃ ts v, okP L = true ∧ (∀ N, matchP L N = gm ts N) ∧ e = .returned (.tuple #[v, .bool true]) ∧ w'.ownsRow base 53 257 v ts.length (sv tcV ts) ∧ ts.length ≤ 4096) := by
  unfold RPatIs at h
  by_cases hb : 4096 < L.length
  · rw [if_pos hb] at h
    exact .inl ⟨by unfold okP; rw [decide_eq_false (by omega)]; rfl, fun N => by unfold matchP; rw [decide_eq_false (by omega)]; rfl, h⟩
  · rw [if_neg hb] at h
    cases hp : parse L with
    | none =>
      rw [hp] at h
      exact .inl ⟨by unfold okP; rw [hp]; simp, fun N => by unfold matchP; rw [hp]; simp, h⟩
    | some ts =>
      rw [hp] at h
      obtain ⟨v, he, hown, hT⟩ := h
      exact .inr ⟨ts, v, by unfold okP; rw [hp, decide_eq_true (by omega)]; rfl, fun N => by unfold matchP; rw [hp, decide_eq_true (by omega)]; rfl, he, hown, hT⟩
set_option maxHeartbeats 400000 in
theorem rcheck_any (L : List UInt8) (w : World) (hL : L.length ≤ 2097152) :
    Calls Try.prog 15 #[.string (str L)] w fun e w' => e = .returned (.bool (okP L)) ∧ Below w.heap.size w w' := by
  go_enter Try.func15, Try.ntmps15
  go_wp2_with fail
  refine (rthings_any L w hL).mono ?_
  rintro e w2 ⟨hP, hB⟩
  rcases hP.cases_ with ⟨ho, _, rfl⟩ | ⟨ts, v, ho, _, rfl, _⟩
  all_goals
    have HO := Lib.hid ho
    clear ho
    go_wp2_with fail
    go_ret
    exact ⟨ret_bool HO.out.symm, hB⟩

/-! ### A region that draws, walked in the order of the text; the guards are the kernel's to read -/
structure WSt (P : Program) (ops : Array Oper) (w : World) (Q : Act → Prop) (l : List Oper) (a : Act) : Prop where
  h : wpStill P ops w Q l a
section
variable {P : Program} {ops : Array Oper} {w : World} {Q : Act → Prop} {a : Act} {o : Oper} {rest : List Oper}
theorem WSt.skip (hw : Region.wanted o (yielded ops a.tmps) = false) (h : WSt P ops w Q rest (a.put o.dst undef)) : WSt P ops w Q (o :: rest) a :=
  ⟨wpStill_step fun K hK => by rw [if_neg (by rw [hw]; exact Bool.false_ne_true)]; exact hK _ h.h⟩
theorem WSt.want (hw : Region.wanted o (yielded ops a.tmps) = true) (h : ∀ K : Act → Prop, (∀ a, WSt P ops w Q rest a → K a) → o.still P a w K) : WSt P ops w Q (o :: rest) a :=
  ⟨wpStill_step fun K hK => by rw [if_pos hw]; exact h K fun a ha => hK a ha.h⟩
theorem WSt.nil (h : Q a) : WSt P ops w Q [] a := ⟨h⟩
end
theorem wp_region_wst {P : Program} {id : Nat} {Q : Exit → Act → World → Prop} {a : Act} {w : World} {l : List Oper} (n : Nat) (hm : P.follows .mixedOrders = true) (hB : Region.lexTailB .any l.toArray n = true)
    (h : WSt P l.toArray w.drew (fun a' => wpList P l.toArray Q (l.drop n) a' w.drew) (l.take n) a) : (Code.region id l.toArray true).wp P Q a w :=
  wp_region_still_tail n hm hB h.h

/-! ### A row of truth values -/
def bc (n : Nat) (f : Nat → Bool) : Array Value := ((List.range n).map fun i => Value.bool (f i)).toArray
theorem bc_size (n : Nat) (f : Nat → Bool) : (bc n f).size = n := by simp [bc]
theorem bc_get (n : Nat) (f : Nat → Bool) (i : Nat) (h : i < n) : (bc n f)[i]? = some (.bool (f i)) := by simp [bc, h]
theorem bc_ext {n : Nat} {f : Nat → Bool} {cs : Array Value} (h : cs.size = n) (h1 : ∀ i, i < n → cs[i]? = some (.bool (f i))) : cs = bc n f := by
  apply Array.ext_getElem?
  intro i
  by_cases hi : i < n
  · rw [h1 i hi, bc_get n f i hi]
  · rw [Array.getElem?_eq_none (by omega), Array.getElem?_eq_none (by rw [bc_size]; omega)]
theorem bc_congr {n : Nat} {f g : Nat → Bool} (h : ∀ i, i < n → f i = g i) : bc n f = bc n g := bc_ext (bc_size _ _) fun i hi => by rw [bc_get n f i hi, h i hi]
theorem bc_set (n : Nat) (f : Nat → Bool) (i : Nat) (v : Bool) : (bc n f).setIfInBounds i (.bool v) = bc n (fun j => if j = i then v else f j) := by
  refine bc_ext (by simp [bc_size]) fun j hj => ?_
  by_cases e : i = j
  · subst e
    rw [Array.getElem?_setIfInBounds_self_of_lt (by rw [bc_size]; exact hj), if_pos rfl]
  · rw [Array.getElem?_setIfInBounds_ne e, bc_get n f j hj, if_neg (fun h => e h.symm)]
theorem bc_made (n : Nat) : madeCells #[Value.bool false] n = bc n (fun _ => false) := by
  refine bc_ext (size_madeCells _ _) fun i hi => ?_
  simp [madeCells, hi, Nat.mod_one]
theorem infoBool : (Try.prog.info? 4).map (fun i => (i.zero, i.size, i.bytes)) = some (some (.bool false), 1, 1) := by kernel_rfl

/-- The rows of the document's reckoning. -/
def rowF (T : List Thing) (N : List UInt8) (k i : Nat) : Bool := gm (T.take k) (N.take i)
theorem rowF_start (T : List Thing) (N : List UInt8) (i : Nat) (h : i ≤ N.length) : rowF T N 0 i = decide (i = 0) := by
  unfold rowF
  rw [List.take_zero, gm]
  cases i with
  | zero => simp
  | succ i => cases N with
    | nil => simp at h
    | cons c r => simp
theorem rowF_end (T : List Thing) (N : List UInt8) : rowF T N T.length N.length = gm T N := by
  unfold rowF
  rw [List.take_length, List.take_length]
theorem rowF_star (T : List Thing) (N : List UInt8) (k i : Nat) (hk : k < T.length) (ht : T[k] = none) (hi : i ≤ N.length) : rowF T N (k + 1) i = (rowF T N k i || (decide (0 < i) && rowF T N (k + 1) (i - 1))) := by
  unfold rowF
  rw [List.take_succ_eq_append_getElem hk, ht]
  exact dp_star _ N i hi
theorem rowF_zero (T : List Thing) (N : List UInt8) (k : Nat) (p : UInt8 → Bool) (hk : k < T.length) (ht : T[k] = some p) : rowF T N (k + 1) 0 = false := by
  unfold rowF
  rw [List.take_succ_eq_append_getElem hk, ht]
  exact dp_zero _ p
theorem rowF_some (T : List Thing) (N : List UInt8) (k i : Nat) (p : UInt8 → Bool) (hk : k < T.length) (ht : T[k] = some p) (hi : i < N.length) : rowF T N (k + 1) (i + 1) = (rowF T N k i && p N[i]) := by
  unfold rowF
  rw [List.take_succ_eq_append_getElem hk, ht]
  exact dp_some _ p N i hi
theorem upto_next {f : Nat → Bool} {q : Nat} {v : Bool} (h : f q = v) (n : Nat) : bc n (fun j => if j = q then v else if j < q then f j else false) = bc n (fun j => if j < q + 1 then f j else false) := by
  refine bc_congr fun j _ => ?_
  by_cases e : j = q
  · subst e
    rw [if_pos rfl, if_pos (by omega), h]
  · rw [if_neg e]
    by_cases h2 : j < q
    · rw [if_pos h2, if_pos (by omega)]
    · rw [if_neg h2, if_neg (by omega)]
/-- A thing's cells in the row of things. -/
theorem thing_cells {w : World} {base h c : Nat} {T : List Thing} (hown : w.ownsRow base 53 257 (.slice (some ⟨h, 0, none⟩) T.length c) T.length (sv tcV T)) (k : Nat) (hk : k < T.length) (j : Nat) (hj : j < 257) :
    w.cell? ⟨h, k * 257 + j, none⟩ = (tcT T[k])[j]? := by
  obtain ⟨ad, e, _, hc⟩ := (Reads.of_own hown).2 (by omega)
  injection e with e
  subst e
  have hg := sv_get tcV 257 tcV_len T k hk j hj
  obtain ⟨u, hu⟩ : ∃ u, (tcV T[k])[j]? = some u := ⟨_, List.getElem?_eq_getElem (by rw [tcV_len T[k]]; exact hj)⟩
  have h2 := hc (k * 257 + j) u (hg.trans hu)
  rw [Addr.add_lit, Nat.zero_add] at h2
  rw [h2, ← hu]
  simp [tcV]
theorem own_form {w : World} {β n : Nat} {e : TypeId} {size : Nat} {v : Value} {xs : List Value} (h : w.ownsRow β e size v n xs) (hn : 0 < n) : ∃ g cap, v = .slice (some ⟨g, 0, none⟩) n cap := by
  rcases h.2 with ⟨_, h0⟩ | ⟨g, cap, cur, hv, _⟩
  · omega
  · exact ⟨g, cap, hv⟩
theorem ret_bool2 {b c : Bool} (h : c = b) : Ending.returned (.bool b) = Ending.returned (.bool c) := by rw [h]

/-- Within a row of the reckoning: the row before it, and the row that is being laid. -/
structure InRow (T : List Thing) (N : List UInt8) (j g g' : Nat) (w2 wq : World) (q : Nat) : Prop where
  old : Blk wq g 4 (bc (N.length + 1) (rowF T N j))
  new : Blk wq g' 4 (bc (N.length + 1) (fun i => if i < q then rowF T N (j + 1) i else false))
  below : Below w2.heap.size w2 wq
section
variable {T : List Thing} {N : List UInt8} {j g g' : Nat} {w2 wq : World} {q : Nat}
theorem InRow.cell_at (h : InRow T N j g g' w2 wq q) (i : Nat) (hi : i ≤ N.length) : wq.cell? ⟨g, i, none⟩ = some (.bool (rowF T N j i)) := (h.old.cell i).trans (bc_get _ _ i (by omega))
theorem InRow.cell_new (h : InRow T N j g g' w2 wq q) (i : Nat) (hi : i ≤ N.length) (hq : i < q) : wq.cell? ⟨g', i, none⟩ = some (.bool (rowF T N (j + 1) i)) := by
  rw [h.new.cell i, bc_get _ _ i (by omega), if_pos hq]
theorem InRow.cell_q (h : InRow T N j g g' w2 wq q) (hi : q ≤ N.length) : wq.cell? ⟨g', q, none⟩ = some (.bool false) := by
  rw [h.new.cell q, bc_get _ _ q (by omega), if_neg (by omega)]
theorem InRow.frozen (h : InRow T N j g g' w2 wq q) (i : Nat) : wq.frozen? ⟨g', i, none⟩ = false := h.new.frozen i
theorem InRow.drewN (h : InRow T N j g g' w2 wq q) (k : Nat) : InRow T N j g g' w2 (wq.drewN k) q := ⟨h.old.drewN k, h.new.drewN k, below_drewN h.below k⟩
theorem InRow.next (h : InRow T N j g g' w2 wq q) (hne : g ≠ g') (hg : w2.heap.size ≤ g') (v : Bool) (hv : rowF T N (j + 1) q = v) : InRow T N j g g' w2 (wq.setCell ⟨g', q, none⟩ (.bool v)) (q + 1) := by
  refine ⟨h.old.far (p := ⟨g', q, none⟩) hne _, ?_, h.below.setCell (p := ⟨g', q, none⟩) hg _⟩
  have h2 := h.new.set_ q (.bool v)
  rw [bc_set, upto_next hv] at h2
  exact h2
theorem InRow.done (h : InRow T N j g g' w2 wq (N.length + 1)) : Blk wq g' 4 (bc (N.length + 1) (rowF T N (j + 1))) := by
  have h2 := h.new
  rw [bc_congr (g := rowF T N (j + 1)) (fun i hi => by rw [if_pos hi])] at h2
  exact h2
end

set_option maxRecDepth 100000 in
set_option maxHeartbeats 8000000 in
theorem rmatch_any (L N : List UInt8) (w : World) (hL : L.length ≤ 2097152) (hN : N.length ≤ 2097152) :
    Calls Try.prog 17 #[.string (str L), .string (str N)] w fun e w' => e = .returned (.bool (matchP L N)) ∧ Below w.heap.size w w' := by
  have hsN : (str N).size = N.length := str_size N
  obtain ⟨ib, hib, hb0, hb1, hb2⟩ := info_parts infoBool
  go_enter Try.func17, Try.ntmps17
  go_wp2_with fail
  refine (rthings_any L w hL).mono ?_
  rintro e w2 ⟨hP, hB⟩
  rcases hP.cases_ with ⟨_, hm, rfl⟩ | ⟨T, v, _, hm, rfl, hown, hTl⟩
  · have HM := Lib.hid (hm N)
    clear hm
    go_wp2_with fail
    go_ret
    exact ⟨ret_bool HM.out.symm, hB⟩
  · have HM := Lib.hid (hm N)
    clear hm hP
    have HOWN := Lib.hid hown
    obtain ⟨A, c, rfl⟩ := own_slice hown
    have HB := Lib.hid hB
    obtain ⟨n, hn⟩ : ∃ n, n = T.length := ⟨_, rfl⟩
    rw [← hn] at hTl ⊢
    have HNT := Lib.hid hn
    clear hown hB hn
    have HW := Lib.hid (show (w2.alloc (.cells (madeCells #[Value.bool false] (N.length + 1)) 4)) = w2.alloc (.cells (bc (N.length + 1) (fun _ => false)) 4) from by rw [bc_made])
    obtain ⟨w3, hw3⟩ : ∃ w3, w3 = w2.alloc (.cells (bc (N.length + 1) (fun _ => false)) 4) := ⟨_, rfl⟩
    have hblk : Blk w3 w2.heap.size 4 (bc (N.length + 1) (fun _ => false)) := by rw [hw3]; exact Blk.new _ _ _
    have hB3 : Below w2.heap.size w2 w3 := by rw [hw3]; exact (Below.refl _ _).alloc (Nat.le_refl _) _
    have HW3 := Lib.hid hw3
    have h0c := (hblk.cell 0).trans (bc_get _ _ 0 (by omega))
    have h0f := hblk.frozen 0
    have hst := hblk.set_ 0 (.bool true)
    rw [bc_set] at hst
    have hst2 : Blk (w3.setCell ⟨w2.heap.size, 0, none⟩ (.bool true)) w2.heap.size 4 (bc (N.length + 1) (rowF T N 0)) := by
      rw [bc_congr (g := fun j => if j = 0 then true else false) (fun i hi => by rw [rowF_start T N i (by omega)]; by_cases e : i = 0 <;> simp [e])]
      exact hst
    have hB4 := hB3.setCell (p := ⟨w2.heap.size, 0, none⟩) (Nat.le_refl _) (.bool true)
    have HST := Lib.hid hst2
    have HB4 := Lib.hid hB4
    clear hw3 hblk hB3 hst hst2 hB4
    go_wp2_with (refine wpList_make_row _ rfl _ _ 50 rfl 4 ib (.bool false) Try.underlying50 hib hb0 hb1 rfl .i64 .i64 (N.length + 1) rfl rfl (by rw [hb2]; omega) (by omega) ?_; rw [HW.out, ← HW3.out])
    go_loopw [7, 8] (fun x k wr => ∃ (g j : Nat), j ≤ n ∧ k = .int .i64 j ∧ x = .slice (some ⟨g, 0, none⟩) (N.length + 1) (N.length + 1) ∧ w2.heap.size ≤ g ∧ Blk wr g 4 (bc (N.length + 1) (rowF T N j)) ∧ Below w2.heap.size w2 wr) (fun _ k _ => n - (intOf k).toNat)
    case atStart => exact ⟨_, 0, Nat.zero_le _, rfl, rfl, Nat.le_refl _, HST.out, HB4.out⟩
    case round =>
      obtain ⟨g, j, hj, rfl, rfl, hg, hblk, hBr⟩ := hrel
      by_cases hlt : j < n
      · have hlt' : j < T.length := by rw [← HNT.out]; exact hlt
        obtain ⟨hh, cc, hv⟩ := own_form HOWN.out (by omega)
        injection hv with hA _ hcc
        subst hA hcc
        have hhlt : hh < w2.heap.size := (HOWN.out.lt hh rfl).2
        have HTC := Lib.hid (thing_cells HOWN.out j hlt')
        have hgs : g < wr.heap.size := hblk.lt
        have hws : w2.heap.size ≤ wr.heap.size := hBr.size
        have hin : InRow T N j g wr.heap.size w2 (wr.alloc (.cells (madeCells #[Value.bool false] (N.length + 1)) 4)) 0 := by
          refine ⟨hblk.alloc _, ?_, hBr.alloc hws _⟩
          rw [bc_made, bc_congr (g := fun i => if i < 0 then rowF T N (j + 1) i else false) (fun i _ => by simp)]
          exact Blk.new _ _ _
        obtain ⟨wm, hwm⟩ : ∃ wm, wm = wr.alloc (.cells (madeCells #[Value.bool false] (N.length + 1)) 4) := ⟨_, rfl⟩
        rw [← hwm] at hin
        obtain ⟨G, hG⟩ : ∃ G, G = wr.heap.size := ⟨_, rfl⟩
        rw [← hG] at hin hgs hws
        have HG := Lib.hid hG
        have HIN := Lib.hid hin
        have HWM := Lib.hid hwm
        have HBLK := Lib.hid hblk
        clear hwm hin hblk hBr hG
        go_wp2_with (refine wpList_make_row _ rfl _ _ 50 rfl 4 ib (.bool false) Try.underlying50 hib hb0 hb1 rfl .i64 .i64 (N.length + 1) rfl rfl (by rw [hb2]; omega) (by omega) ?_; rw [← HWM.out, ← HG.out])
        go_loopw [10] (fun i wq => ∃ q : Nat, q ≤ N.length + 1 ∧ i = .int .i64 q ∧ InRow T N j g G w2 wq q) (fun i _ => N.length + 1 - (intOf i).toNat)
        case atStart => exact ⟨0, Nat.zero_le _, rfl, HIN.out⟩
        case round =>
          obtain ⟨q, hq, rfl, hI⟩ := hrel
          by_cases hql : q ≤ N.length
          · have hcq := hI.cell_q hql
            have hfq := hI.frozen q
            have hca := hI.cell_at q hql
            have HI := Lib.hid hI
            cases ht : T[j] with
            | none =>
              have hs : wr.cell? ⟨hh, j * 257, none⟩ = some (.bool true) := by
                rw [hI.below.cell (p := ⟨hh, j * 257, none⟩) hhlt]
                have := HTC.out 0 (by omega)
                rw [ht] at this
                exact this.trans (tc_head _ _)
              have HR := Lib.hid (rowF_star T N j q hlt' ht hql)
              clear hI ht
              cases q with
              | zero =>
                obtain ⟨b, hb⟩ : ∃ b, b = rowF T N j 0 := ⟨_, rfl⟩
                rw [← hb] at hca
                have HB0 := Lib.hid hb
                clear hb
                cases b
                all_goals
                  go_wp2_with fail
                  go_roundw
                  case rel => exact ⟨1, by omega, rfl, HI.out.next (by omega) hws _ (by rw [HR.out, ← HB0.out]; rfl)⟩
                  case measure => simp [intOf]
              | succ p =>
                have hcn := HI.out.cell_new p (by omega) (by omega)
                obtain ⟨b, hb⟩ : ∃ b, b = rowF T N j (p + 1) := ⟨_, rfl⟩
                rw [← hb] at hca
                obtain ⟨d, hd⟩ : ∃ d, d = rowF T N (j + 1) p := ⟨_, rfl⟩
                rw [← hd] at hcn
                have HB0 := Lib.hid hb
                have HD0 := Lib.hid hd
                clear hb hd
                cases b
                all_goals
                  go_wp2_with fail
                  go_roundw
                  case rel => exact ⟨p + 2, by omega, by go_num, HI.out.next (by omega) hws _ (by rw [HR.out, ← HB0.out]; simp [HD0.out])⟩
                  case measure => simp [intOf]; omega
            | some f =>
              have hs : wr.cell? ⟨hh, j * 257, none⟩ = some (.bool false) := by
                rw [hI.below.cell (p := ⟨hh, j * 257, none⟩) hhlt]
                have := HTC.out 0 (by omega)
                rw [ht] at this
                exact this.trans (tc_head _ _)
              cases q with
              | zero =>
                have HR := Lib.hid (rowF_zero T N j f hlt' ht)
                clear hI ht
                go_wp2_with fail
                refine wp_region_wst 23 (by kernel_rfl) (by kernel_rfl) ?_
                simp only [List.take_succ_cons, List.take_zero, List.drop_succ_cons, List.drop_zero]
                iterate 5 (refine WSt.want (by kernel_rfl) (fun K hK => ?_); go_simp; refine hK _ ?_; clear hK K)
                iterate 5 refine WSt.skip (by kernel_rfl) ?_
                iterate 2 (refine WSt.want (by kernel_rfl) (fun K hK => ?_); go_simp; refine hK _ ?_; clear hK K)
                iterate 10 refine WSt.skip (by kernel_rfl) ?_
                iterate 1 (refine WSt.want (by kernel_rfl) (fun K hK => ?_); go_simp; refine hK _ ?_; clear hK K)
                refine WSt.nil ?_
                change wpList _ _ _ _ _ wr.drew
                go_wp2_with fail
                go_roundw
                case rel => exact ⟨1, by omega, rfl, (HI.out.drewN 1).next (by omega) hws _ HR.out⟩
                case measure => simp [intOf]
              | succ p =>
                have hpl : p < N.length := by omega
                obtain ⟨c, hc⟩ : ∃ c, N[p] = c := ⟨_, rfl⟩
                have hgc := str_at N p c (by rw [List.getElem?_eq_getElem hpl, hc])
                have h256 := c.toNat_lt
                have hcp := hI.cell_at p (by omega)
                have hin : wr.cell? ⟨hh, j * 257 + 1 + c.toNat, none⟩ = some (.bool (f c)) := by
                  rw [hI.below.cell (p := ⟨hh, j * 257 + 1 + c.toNat, none⟩) hhlt]
                  have := HTC.out (c.toNat + 1) (by omega)
                  rw [ht] at this
                  rw [show j * 257 + 1 + c.toNat = j * 257 + (c.toNat + 1) from by omega]
                  exact this.trans (tc_get _ _ c)
                have HR := Lib.hid (rowF_some T N j p f hlt' ht hpl)
                rw [hc] at HR
                obtain ⟨b, hb⟩ : ∃ b, b = rowF T N j p := ⟨_, rfl⟩
                rw [← hb] at hcp HR
                obtain ⟨d, hd⟩ : ∃ d, d = f c := ⟨_, rfl⟩
                rw [← hd] at hin HR
                clear hI ht hb hd
                have ew : IntKind.i64.wrap (p : Int) = (p : Int) := by rw [IntKind.wrap_i64]; omega
                have e1 : (p : Int) < (N.length : Int) + 1 := by omega
                have e2 : (p : Int) < (N.length : Int) := by omega
                have e3 : (j : Int) < (n : Int) := by omega
                have e4 : (c.toNat : Int) < 256 := by omega
                cases b with
                | false =>
                  go_wp2_with fail
                  refine wp_region_wst 23 (by kernel_rfl) (by kernel_rfl) ?_
                  simp only [List.take_succ_cons, List.take_zero, List.drop_succ_cons, List.drop_zero]
                  iterate 12 (refine WSt.want (by kernel_rfl) (fun K hK => ?_); go_simp; refine hK _ ?_; clear hK K)
                  iterate 10 refine WSt.skip (by kernel_rfl) ?_
                  iterate 1 (refine WSt.want (by kernel_rfl) (fun K hK => ?_); go_simp; refine hK _ ?_; clear hK K)
                  refine WSt.nil ?_
                  change wpList _ _ _ _ _ wr.drew
                  go_wp2_with fail
                  go_roundw
                  case rel => exact ⟨p + 2, by omega, by go_num, (HI.out.drewN 1).next (by omega) hws _ (by rw [HR.out]; rfl)⟩
                  case measure => simp [intOf]; omega
                | true =>
                  go_wp2_with fail
                  refine wp_region_wst 23 (by kernel_rfl) (by kernel_rfl) ?_
                  simp only [List.take_succ_cons, List.take_zero, List.drop_succ_cons, List.drop_zero]
                  iterate 23 (refine WSt.want (by kernel_rfl) (fun K hK => ?_); go_simp; refine hK _ ?_; clear hK K)
                  refine WSt.nil ?_
                  change wpList _ _ _ _ _ wr.drew
                  go_wp2_with fail
                  go_roundw
                  case rel => exact ⟨p + 2, by omega, by go_num, (HI.out.drewN 1).next (by omega) hws _ (by rw [HR.out]; rfl)⟩
                  case measure => simp [intOf]; omega
          · obtain rfl : q = N.length + 1 := by omega
            have HD := Lib.hid hI.done
            have HBQ := Lib.hid hI.below
            clear hI
            go_wp2_with fail
            go_roundw
            case rel => exact ⟨G, j + 1, by omega, by go_num, rfl, hws, HD.out, HBQ.out⟩
            case measure => simp [intOf]; omega
      · obtain rfl : j = n := by omega
        have hcl := (hblk.cell N.length).trans (bc_get _ _ N.length (by omega))
        rw [HNT.out, rowF_end] at hcl
        have HCL := Lib.hid hcl
        have HBF := Lib.hid (below_then HB.out HB.out.size hBr)
        go_wp2_with fail
        go_ret
        exact ⟨ret_bool HM.out.symm, HBF.out⟩
end Go.Proofs.Ytafiadlkfjacnaa
