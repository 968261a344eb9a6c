/-
  blocks: steps; Plan.blocks and the iterator that it hands back: their contracts.
-/
import Derived.Test.YtiffmdfchibpaaaDoorBlkWalks
import Derived.Laws.EntriesVeiled
import Derived.Lib.AtoiErrMem
import Derived.RangeFuncNested
import Derived.RangeFuncBound
import Derived.RangeFuncCalls
import Derived.RangeFuncLeaves
import Derived.Shelf.Abstract
import Derived.Shelf.RegionOpen
import Derived.OwnWalkIn
import Derived.TacticsInMore
import Derived.LoopNIn
import Derived.LoopIn
set_option linter.unusedVariables false
set_option linter.unusedSimpArgs false
namespace Go.Proofs.YtiffmdfchibpaaaDoor
open Go.RowKit Go.Shelf
attribute [local go_sem] Oper.semAt_some

def stepVals : Array Value := #[.func (.func 25) #[] #[], .func (.func 26) #[] #[], .func (.func 27) #[] #[], .func (.func 28) #[] #[]]
set_option maxRecDepth 10000 in
set_option maxHeartbeats 400000 in
theorem steps_any (w : World) :
    Calls Tryd.prog 15 #[] w fun e w' => e = .returned (.agg stepVals) ∧ Below w.heap.size w w' := by
  obtain ⟨i0, hi0, hz0, hz1, hz2⟩ := info_parts infoSteps
  go_enter Tryd.func15, Tryd.ntmps15
  go_wp2_with (refine wpList_alloc_any _ rfl 46 rfl i0 _ hi0 hz0 ?_)
  refine bodyPost_ret (v := .agg stepVals) (by
    rw [results_cell_row rfl _ _ w.heap.size 46 _ (0, 0) _ rfl (heap_alloc_new w _) Tryd.underlying46 rfl rfl]
    simp [stepVals]) rfl ⟨rfl, (Below.refl _ _).alloc (Nat.le_refl _) _⟩
set_option maxHeartbeats 400000 in
theorem blocksf_any (p : PlanV) (s : ByteArray) (w : World) :
    Calls Tryd.prog 14 #[p.val, .string s] w fun e w' => e = .returned (.func (.func 24) #[] #[.pointer (some ⟨w.heap.size + 1, 0, none⟩), .pointer (some ⟨w.heap.size, 0, none⟩)]) ∧
      w' = (w.alloc (.cells (pcells p) 26)).alloc (.cells #[.string s] 9) := by
  obtain ⟨inn, out, skip, count, seek, keep, swab, upper, lower, sync⟩ := p
  unfold PlanV.val pcells
  go_enter Tryd.func14, Tryd.ntmps14
  go_wp2
  go_ret
  exact ⟨rfl, rfl⟩

/-! ### The iterator -/
/-- What a round is handed: the next block, in a row of its own. -/
def Handed (tot : List (List UInt8)) (base k : Nat) (s s' : List (List UInt8)) (args : Array Value) (W : World) : Prop :=
  ∃ x r g cap, s' = s ++ [x] ∧ tot = s ++ x :: r ∧ args = #[.slice (some ⟨g, 0, none⟩) x.length cap] ∧ Bs W g cap x ∧ x.length ≤ cap ∧ cap ≤ maxLen ∧ x ≠ [] ∧ x.length ≤ k ∧ base ≤ g ∧ ∀ c t, W.heap[g]? ≠ some (.cells c t (0, 0))
/-- What the iterator wants kept: its plan's block. -/
def KeepB (b : Nat) (W W' : World) : Prop := W.heap.size ≤ W'.heap.size ∧ W'.heap[b]? = W.heap[b]?
/-- An iterator that hands rows of its own: whatever the rounds keep said of what has come. -/
def Gives (n : Nat) (P : Program) (g : Nat) (lb : Array Value) (tot : List (List UInt8)) (base k b : Nat) (w : World) : Prop :=
  ∀ (l : Nat) (J : List (List UInt8) → World → Prop) (W : World), Below w.heap.size w W → AbidesFrom W.heap.size J →
    (∀ s s' args W1, J s W1 → Handed tot base k s s' args W1 → YieldAt Fence.wide (n - 1) P l args W1 fun e W' => e = .returned (.bool true) ∧ J s' W' ∧ KeepB b W1 W') →
    J [] W → CallsIn Fence.wide n P g (#[.func (.yield l) #[] #[]] ++ lb) W fun e W' => (∃ v, e = .returned v) ∧ J tot W'
/-- What is still to come, when m blocks have come and s is left. -/
def restV (p : PlanV) (m : Nat) (s : List UInt8) : List (List UInt8) := chunks p.k (limV p m s)
theorem restV_nil (p : PlanV) (m : Nat) : restV p m [] = [] := by
  unfold restV limV
  split <;> simp [chunks_nil]
theorem restV_end (p : PlanV) (m : Nat) (s : List UInt8) (h : (m : Int) = p.count) : restV p m s = [] := by
  unfold restV limV
  rw [if_neg (by omega), show p.count.toNat - m = 0 from by omega]
  simp [chunks_nil]
theorem restV_step (p : PlanV) (hk : 1 ≤ p.k) (m : Nat) (s : List UInt8) (hs : s ≠ []) (hm : p.count < 0 ∨ (m : Int) < p.count) : restV p m s = s.take p.k :: restV p (m + 1) (s.drop p.k) := by
  unfold restV limV
  by_cases hc : p.count < 0
  · rw [if_pos hc, if_pos hc, chunks_cons p.k hk s hs]
  · rw [if_neg hc, if_neg hc]
    obtain ⟨q, hq⟩ : ∃ q, p.count.toNat - m = q + 1 := ⟨p.count.toNat - m - 1, by omega⟩
    have hq2 : p.count.toNat - (m + 1) = q := by omega
    have hm2 : (q + 1) * p.k = q * p.k + p.k := Nat.succ_mul q p.k
    rw [hq, hq2]
    have ht : s.take ((q + 1) * p.k) ≠ [] := fun h => by
      have h2 := congrArg List.length h
      rw [List.length_take, List.length_nil] at h2
      have hl : 1 ≤ s.length := by
        cases s with
        | nil => exact absurd rfl hs
        | cons _ _ => simp
      omega
    rw [chunks_cons p.k hk _ ht, List.take_take, Nat.min_eq_left (by omega), List.drop_take, hm2, Nat.add_sub_cancel]

/-- '[]byte(s)': a row of its own, all of it known. -/
theorem conv_any (w : World) (x : List UInt8) (hx : x.length ≤ 1073741824) :
    ∃ cap w1, (convert 9 42 (.string (str x))).run Tryd.prog w = .ok (.slice (some ⟨w.heap.size, 0, none⟩) x.length cap) w1 ∧ x.length ≤ cap ∧ cap ≤ maxLen ∧ Bs w1 w.heap.size cap x ∧ Below w.heap.size w w1 ∧ w.heap.size < w1.heap.size ∧ ∀ c t, w1.heap[w.heap.size]? ≠ some (.cells c t (0, 0)) := by
  have hsz := str_size x
  have hrun := Lib.run_convert_string_bytes (P := Tryd.prog) w 9 42 5 (str x) Tryd.underlying9 Tryd.underlying42 Tryd.underlying5
  rw [hsz] at hrun
  have hge : x.length ≤ grownCap w x.length 0 5 := grownCap_ge _ _ _ _
  have hbs : (Lib.bytesCells w 5 (str x)).size = grownCap w x.length 0 5 := by
    simp only [Lib.bytesCells, Array.size_append, Array.size_map, Array.size_replicate, hsz]
    show x.toArray.size + _ = _
    rw [List.size_toArray]
    omega
  refine ⟨_, _, hrun, hge, grownCap_le_maxLen _ _ _ _ (by unfold maxLen; omega), ⟨_, _, _, _, Lib.bytesWorld_at_new w 5 (str x), by rw [hbs]; exact Nat.le_refl _, fun j hj => by rw [hbs]; omega, fun i hi => ?_⟩, Lib.bytesWorld_below w 5 (str x), by rw [Lib.bytesWorld_size]; omega, fun c t e => ?_⟩
  rotate_left
  · rw [Lib.bytesWorld_at_new] at e
    injection e with e
    injection e with _ _ e
    injection e with _ e
    omega
  unfold Lib.bytesCells
  by_cases hil : i < x.length
  · rw [Array.getElem?_append_left (by show i < (x.toArray.map _).size; simpa using hil)]
    show (x.toArray.map _)[i]? = _
    unfold byF
    simp [hil]
  · rw [byF_end x i (by omega), Array.getElem?_append_right (by show (x.toArray.map _).size ≤ i; simp; omega)]
    show (Array.replicate _ _)[i - (x.toArray.map _).size]? = _
    rw [Array.getElem?_replicate, if_pos]
    rw [hsz]
    simp
    omega
theorem toList_loop (b : ByteArray) : ∀ (k i : Nat) (r : List UInt8), b.size - i = k → i < b.size → (ByteArray.toList.loop b i r).isEmpty = false := by
  intro k
  induction k with
  | zero => intro i r h1 h2; omega
  | succ k ih =>
    intro i r h1 h2
    rw [ByteArray.toList.loop, if_pos h2]
    by_cases h3 : i + 1 < b.size
    · exact ih (i + 1) _ (by omega) h3
    · rw [ByteArray.toList.loop, if_neg h3]
      simp
theorem str_some (R : List UInt8) (h : R ≠ []) : (str R).toList.isEmpty = false := by
  unfold ByteArray.toList
  have hl : 0 < (str R).size := by
    rw [str_size]
    cases R with
    | nil => exact absurd rfl h
    | cons _ _ => simp
  exact toList_loop _ _ 0 [] rfl hl
def strLen : Value → Nat
  | .string s => s.size
  | _ => 0

set_option maxRecDepth 100000 in
set_option maxHeartbeats 2000000 in
theorem iter_any (p : PlanV) (hp : p.ok) (L : List UInt8) (hL : L.length ≤ 1048576) (n base a b : Nat) (w : World) (ha : Blk w a 9 #[.string (str L)]) (hb : Blk w b 26 (pcells p))
    (ha2 : a < base) (hb2 : b < base) (hbase : base ≤ w.heap.size) :
    Gives n Tryd.prog 24 #[.pointer (some ⟨a, 0, none⟩), .pointer (some ⟨b, 0, none⟩)] (restV p 0 (L.drop (p.skip.toNat * p.k))) base p.k b w := by
  intro l J W hW hJ hY h0
  obtain ⟨k, hk⟩ : ∃ k, k = p.k := ⟨_, rfl⟩
  obtain ⟨sk, hsk⟩ : ∃ sk, sk = p.skip.toNat := ⟨_, rfl⟩
  have hki : p.inn = (k : Int) ∧ 1 ≤ k ∧ k ≤ 65536 := by
    obtain ⟨⟨h1, h2⟩, _⟩ := hp
    unfold PlanV.k at hk
    omega
  have hsi : p.skip = (sk : Int) ∧ sk ≤ 2147483647 := by
    obtain ⟨_, _, ⟨h1, h2⟩, _⟩ := hp
    omega
  obtain ⟨M, hM⟩ : ∃ M, M = sk * k := ⟨_, rfl⟩
  have hmu : M ≤ 140737488355328 := by rw [hM]; exact Nat.le_trans (Nat.mul_le_mul hsi.2 hki.2.2) (by decide)
  have hmul : (sk : Int) * (k : Int) = (M : Int) := by rw [hM, Int.natCast_mul]
  have haW := ha.below hW (by omega)
  have hbW := hb.below hW (by omega)
  have q0 := haW.cell 0
  have p0 := hbW.cell 0
  have p2 := hbW.cell 2
  have p3 := hbW.cell 3
  unfold pcells at p0 p2 p3
  simp at q0 p0 p2 p3
  rw [hki.1] at p0
  rw [hsi.1] at p2
  obtain ⟨D, hD⟩ : ∃ D, D = min M L.length := ⟨_, rfl⟩
  have hD1 : D ≤ L.length := by omega
  have HD2 := Lib.hid (show L.drop (p.skip.toNat * p.k) = L.drop D from by
    rw [← hk, ← hsk, ← hM]
    by_cases h : M ≤ L.length
    · rw [hD, Nat.min_eq_left h]
    · rw [hD, Nat.min_eq_right (by omega), List.drop_eq_nil_of_le (by omega), List.drop_eq_nil_of_le (Nat.le_refl _)])
  have HD := Lib.hid hD
  have HK := Lib.hid hk
  have HKI := Lib.hid hki
  have HSI := Lib.hid hsi
  have HP := Lib.hid hp
  have HB := Lib.hid hbW
  have HA := Lib.hid haW
  have HJ0 := Lib.hid h0
  clear hD hk hki hsi hp hsk hM hbW haW ha hb h0
  have hsz := str_size L
  refine callsIn_of_wp Tryd.func24 rfl trivial ?_ rfl
  simp only [Tryd.ntmps24, List.size_toArray, List.length_cons, List.length_nil, Nat.reduceAdd, Nat.reduceSub, Array.replicate_succ, Array.replicate_zero, List.push_toArray, List.append_toArray, List.nil_append, List.cons_append]
  have HS1 : ∀ X : Nat, X = D → (str L).extract X L.length = str (L.drop D) := fun X hX => by rw [hX, ← hsz, str_from]
  gi_wp2
  all_goals (try rw [HS1 M (by have := HD.out; omega)])
  all_goals (try rw [HS1 L.length (by have := HD.out; omega)])
  all_goals (try rw [show ByteArray.empty = str (L.drop D) from by rw [List.drop_eq_nil_of_le (by have := HD.out; omega)]; rfl])
  all_goals (
    gi_loopw [4, 5] (fun s m wr => ∃ (q : Nat) (R : List UInt8) (done : List (List UInt8)), s = .string (str R) ∧ m = .int .i64 (q : Int) ∧ q + R.length ≤ L.length ∧ restV p 0 (L.drop D) = done ++ restV p q R ∧ (p.count < 0 ∨ (q : Int) ≤ p.count) ∧ J done wr ∧ KeepB b W wr) (fun s _ _ => strLen s))
  all_goals (try (case atStart => exact ⟨0, L.drop D, [], rfl, rfl, by rw [List.length_drop]; omega, rfl, by omega, HJ0.out, Nat.le_refl _, rfl⟩))
  all_goals (
    obtain ⟨q, R, done, rfl, rfl, hlen, htot, hcnt, hJr, hBr⟩ := hrel
    have r0 : wr.cell? ⟨b, 0, none⟩ = some (.int .i64 (k : Int)) := (World.cell?_of_block (a := ⟨b, 0, none⟩) hBr.2).trans p0
    have r3 : wr.cell? ⟨b, 3, none⟩ = some (.int .i64 p.count) := (World.cell?_of_block (a := ⟨b, 3, none⟩) hBr.2).trans p3
    have hRs := str_size R
    have HT := Lib.hid htot
    have HJ := Lib.hid hJr
    clear htot hJr
    by_cases hR : R = []
    · subst hR
      rw [show str [] = ({ data := #[] } : ByteArray) from rfl]
      gi_wp2
      go_end0
      exact ⟨⟨_, rfl⟩, by rw [HD2.out, HT.out, restV_nil, List.append_nil]; exact HJ.out⟩
    · by_cases hc : (q : Int) = p.count
      · have hne := str_some R hR
        have HC := Lib.hid hc
        rw [← hc] at r3
        clear hc hcnt
        gi_wp2
        go_end0
        exact ⟨⟨_, rfl⟩, by rw [HD2.out, HT.out, restV_end p q R HC.out, List.append_nil]; exact HJ.out⟩
      · have hne := str_some R hR
        have hcat := restV_step p (by rw [← HK.out]; exact HKI.out.2.1) q R hR (by omega)
        rw [← HK.out] at hcat
        have hl1 : 1 ≤ R.length := by
          cases R with
          | nil => exact absurd rfl hR
          | cons _ _ => simp
        have hc2 : ¬ (q : Int) = p.count := hc
        have hkk := HKI.out.2
        obtain ⟨x, hx⟩ : ∃ x, x = R.take k := ⟨_, rfl⟩
        obtain ⟨t, ht⟩ : ∃ t, t = R.drop k := ⟨_, rfl⟩
        have hxl : x.length = min k R.length := by rw [hx, List.length_take]
        have htl : t.length = R.length - k := by rw [ht, List.length_drop]
        obtain ⟨cap, w1, hcv, hcap1, hcap2, hbs, hB1, hs1, hmk⟩ := conv_any wr x (by omega)
        have hbsz := hBr.1
        have hJ1 : J done w1 := hJ done wr w1 none HJ.out (only_of_below hB1 none) (fun r e => by cases e)
        have hD3 : Handed (restV p 0 (L.drop (p.skip.toNat * p.k))) base p.k done (done ++ [x]) #[.slice (some ⟨wr.heap.size, 0, none⟩) x.length cap] w1 := by
          refine ⟨x, restV p (q + 1) t, wr.heap.size, cap, rfl, ?_, rfl, hbs, hcap1, hcap2, ?_, ?_, ?_, hmk⟩
          · rw [HD2.out, HT.out, hcat, hx, ht]
          · intro e
            rw [e] at hxl
            simp at hxl
            omega
          · rw [← HK.out, hxl]; exact Nat.min_le_left _ _
          · have := hW.size; omega
        obtain ⟨fn, tmps, assign, body, hy, hR2⟩ := hY done (done ++ [x]) _ w1 hJ1 hD3
        have HC := Lib.hid hcat
        have HX := Lib.hid hx
        have HTT := Lib.hid ht
        have HXL := Lib.hid hxl
        have HTL := Lib.hid htl
        clear hcat hx ht hD3 hJ1 hmk hbs hcap1 hcap2 hc hxl htl
        by_cases hlt : R.length < k
        · have hxR : x = R := by rw [HX.out, List.take_of_length_le (by omega)]
          have htR : t = [] := List.eq_nil_of_length_eq_zero (by have := HTL.out; omega)
          subst hxR
          have hI : (x.length : Int) < (k : Int) := by omega
          have hE0 : (str x).extract 0 x.length = str x := by rw [str_upto, List.take_length]
          gi_wp2
          refine ⟨fun h => (by cases h), hR2.mono ?_⟩
          rintro e W3 ⟨rfl, hJ3, hB3⟩
          have HJ3 := Lib.hid hJ3
          have hs3 := hB3.1
          have hBr3 : KeepB b W W3 := ⟨by omega, hB3.2.trans ((hB1.block b (by have := hW.size; omega)).trans hBr.2)⟩
          clear hJ3 hy hR2 hcv
          gi_wp2
          refine ⟨⟨q + 1, [], done ++ [x], rfl, by go_num, by simp; omega, ?_, by omega, HJ3.out, hBr3⟩, ?_⟩
          · rw [HT.out, HC.out, ← HTT.out, htR, ← HX.out, List.append_assoc]
            rfl
          · show 0 < (str x).size
            rw [str_size]
            omega
        · have hI : ¬ (R.length : Int) < (k : Int) := by omega
          have hE1 : (str R).extract 0 k = str x := by rw [HX.out, str_upto]
          have hE2 : (str R).extract k R.length = str t := by rw [HTT.out, ← hRs, str_from]
          gi_wp2
          refine ⟨fun h => (by cases h), hR2.mono ?_⟩
          rintro e W3 ⟨rfl, hJ3, hB3⟩
          have HJ3 := Lib.hid hJ3
          have hs3 := hB3.1
          have hBr3 : KeepB b W W3 := ⟨by omega, hB3.2.trans ((hB1.block b (by have := hW.size; omega)).trans hBr.2)⟩
          clear hJ3 hy hR2 hcv
          gi_wp2
          refine ⟨⟨q + 1, t, done ++ [x], rfl, by go_num, by have := HTL.out; omega, ?_, by omega, HJ3.out, hBr3⟩, ?_⟩
          · rw [HT.out, HC.out, ← HTT.out, ← HX.out, List.append_assoc]
            rfl
          · show (str t).size < (str R).size
            rw [str_size, str_size]
            have := HTL.out
            omega)
end Go.Proofs.YtiffmdfchibpaaaDoor
