/-
  blocks.Run: its contract.
-/
import Derived.Test.YtiffmdfchibpaaaDoorBlkRange
import Derived.Test.YtiffmdfchibpaaaDoorBlkLaws
import Derived.Test.YtiffmdfchibpaaaDoorBuilderW
import Derived.Test.YtiffmdfchibpaaaDoorShelf
import Derived.Deep.CutBlock
import Derived.StillTailTactics
import Derived.Deep.RegionHeld3
set_option linter.unusedVariables false
set_option linter.unusedSimpArgs false
namespace Go.Proofs.YtiffmdfchibpaaaDoor
open Go.RowKit Go.Shelf
attribute [local go_sem] Oper.semAt_some

theorem infoFn : (Tryd.prog.info? 45).map (·.size) = some 1 := by kernel_rfl
theorem infoFour : (Tryd.prog.info? 27).map (fun i => (i.zero, i.size, i.bytes)) = some (some (.agg #[.int .i64 0, .int .i64 0, .int .i64 0, .int .i64 0]), 4, 32) := by kernel_rfl
def runRes (r : RunV) : Value := .tuple #[.string (str r.text), .agg #[.int .i64 (r.n0 : Int), .int .i64 (r.n1 : Int), .int .i64 (r.n2 : Int), .int .i64 (r.n3 : Int)], .int .i64 (r.err : Int)]
theorem results_run (tmps : Array Value) (w : World) (g : Nat) (s : ByteArray) (cs : Array Value) (e : Value) (h6 : tmps.getD 6 undef = .string s) (h7 : tmps.getD 7 undef = .pointer (some ⟨g, 0, none⟩)) (h8 : tmps.getD 8 undef = e)
    (hg : w.heap[g]? = some (.cells cs 27 (0, 0))) (hs : cs.size = 4) : (results Tryd.f10 tmps).run Tryd.prog w = .ok (.tuple #[.string s, .agg cs, e]) w := by
  have hr : Tryd.f10.results = #[.tmp 6, .cell 7 27, .tmp 8] := rfl
  obtain ⟨i0, hi0, _, hz1, _⟩ := info_parts infoFour
  have h6' : tmps[6]?.getD undef = .string s := by simpa using h6
  have h7' : tmps[7]?.getD undef = .pointer (some ⟨g, 0, none⟩) := by simpa using h7
  have h8' : tmps[8]?.getD undef = e := by simpa using h8
  have hl := run_loadVar_row (P := Tryd.prog) w g 27 27 cs (0, 0) _ hg Tryd.underlying27 rfl (by rw [hi0]; simp [hz1, hs])
  simp [results, hr, h6', h7', h8', asAddr, hl]
set_option maxRecDepth 100000 in
set_option maxHeartbeats 4000000 in
theorem run_bad (p : PlanV) (s o : List UInt8) (w : World) (h : ¬ p.ok ∨ 1048576 < max s.length o.length) (hs : s.length ≤ 1073741824) (ho : o.length ≤ 1073741824) :
    Calls Tryd.prog 10 #[p.val, .string (str s), .string (str o)] w fun e w' => e = .returned (runRes (runV p s o)) ∧ Below w.heap.size w w' := by
  obtain ⟨i0, hi0, hz0, hz1, hz2⟩ := info_parts infoFour
  have hss := str_size s
  have hos := str_size o
  obtain ⟨ns, hns⟩ : ∃ n, n = s.length := ⟨_, rfl⟩
  obtain ⟨no, hno⟩ : ∃ n, n = o.length := ⟨_, rfl⟩
  rw [← hns] at hss hs h
  rw [← hno] at hos ho h
  obtain ⟨X, hX⟩ : ∃ X, X = runRes (runV p s o) := ⟨_, rfl⟩
  have h1 : ¬ p.ok → X = .tuple #[.string (str []), .agg #[.int .i64 0, .int .i64 0, .int .i64 0, .int .i64 0], .int .i64 1] := fun e => by rw [hX]; unfold runV; rw [if_pos e]; rfl
  have h3 : p.ok → X = .tuple #[.string (str []), .agg #[.int .i64 0, .int .i64 0, .int .i64 0, .int .i64 0], .int .i64 3] := fun e => by
    rw [hX]; unfold runV; rw [if_neg (fun h => h e), if_pos (by rcases h with h | h; exact absurd e h; rw [← hns, ← hno]; exact h)]; rfl
  rw [← hX]
  clear hX hns hno
  have hck := check_any p
  have hpv : p.val = .agg (pcells p) := rfl
  rw [hpv] at hck ⊢
  have b1 : Below w.heap.size w (w.alloc (.cells (pcells p) 26)) := (Below.refl _ _).alloc (Nat.le_refl _) _
  have hbig : p.ok → 1048576 < ns ∨ 1048576 < no := fun e => by rcases h with h | h; exact absurd e h; omega
  obtain ⟨inn, out, skip, count, seek, keep, swab, upper, lower, sync⟩ := p
  unfold pcells at hck b1 ⊢
  clear hpv h
  go_enter Tryd.func10, Tryd.ntmps10
  go_wp2_with (refine wpList_alloc_any _ rfl 27 rfl i0 _ hi0 hz0 ?_)
  refine (hck _).mono ?_
  rintro e w1 ⟨rfl, hB1⟩
  have hsz2 : ∀ o1 o2 : Obj, ((w.alloc o1).alloc o2).heap.size = w.heap.size + 2 := fun _ _ => by simp
  rw [hsz2] at hB1
  have k1 : Blk w1 (w.heap.size + 1) 27 #[.int .i64 0, .int .i64 0, .int .i64 0, .int .i64 0] := by
    refine Blk.below ?_ hB1 (by omega)
    have := Blk.new (w.alloc (.cells #[.int .i64 inn, .int .i64 out, .int .i64 skip, .int .i64 count, .int .i64 seek, .bool keep, .bool swab, .bool upper, .bool lower, .bool sync] 26)) 27 #[.int .i64 0, .int .i64 0, .int .i64 0, .int .i64 0]
    rw [World.size_alloc] at this
    exact this
  have b2 : Below w.heap.size w w1 := (b1.alloc (by simp) _).trans (hB1.mono (by omega))
  have c0 := k1.cell 0
  have c1 := k1.cell 1
  have c2 := k1.cell 2
  have c3 := k1.cell 3
  have f0 := k1.frozen 0
  have f1 := k1.frozen 1
  have f2 := k1.frozen 2
  have f3 := k1.frozen 3
  simp at c0 c1 c2 c3
  clear hck hB1 hsz2
  by_cases hp : PlanV.ok ⟨inn, out, skip, count, seek, keep, swab, upper, lower, sync⟩
  · rw [decide_eq_true hp]
    have HX := Lib.hid (h3 hp)
    have hbig2 := hbig hp
    clear h1 h3 hbig
    obtain ⟨mx, hmx⟩ : ∃ mx : Nat, max (ns : Int) (no : Int) = (mx : Int) := ⟨max ns no, by omega⟩
    have hI : (1048576 : Int) < (mx : Int) := by omega
    clear hbig2
    go_wp2
    go_region
    all_goals go_wp2
    refine bodyPost_ret (results_run _ _ (w.heap.size + 1) _ _ _ rfl rfl rfl (Blk.drew ((((k1.set_ 0 _).set_ 1 _).set_ 2 _).set_ 3 _)) rfl) rfl ⟨by rw [HX.out]; rfl, Below.drew (Below.setCell (Below.setCell (Below.setCell (Below.setCell b2 (p := ⟨w.heap.size + 1, 0, none⟩) (Nat.le_succ _) _) (p := ⟨w.heap.size + 1, 1, none⟩) (Nat.le_succ _) _) (p := ⟨w.heap.size + 1, 2, none⟩) (Nat.le_succ _) _) (p := ⟨w.heap.size + 1, 3, none⟩) (Nat.le_succ _) _)⟩
  · rw [decide_eq_false hp]
    have HX := Lib.hid (h1 hp)
    clear h1 h3 hbig
    go_wp2
    go_region
    all_goals go_wp2
    refine bodyPost_ret (results_run _ _ (w.heap.size + 1) _ _ _ rfl rfl rfl (Blk.drew ((((k1.set_ 0 _).set_ 1 _).set_ 2 _).set_ 3 _)) rfl) rfl ⟨by rw [HX.out]; rfl, Below.drew (Below.setCell (Below.setCell (Below.setCell (Below.setCell b2 (p := ⟨w.heap.size + 1, 0, none⟩) (Nat.le_succ _) _) (p := ⟨w.heap.size + 1, 1, none⟩) (Nat.le_succ _) _) (p := ⟨w.heap.size + 1, 2, none⟩) (Nat.le_succ _) _) (p := ⟨w.heap.size + 1, 3, none⟩) (Nat.le_succ _) _)⟩

/-! ### The rounds -/
/-- Between two rounds: the numbers, what goes, the plan; whatever lay below stays. -/
def RunJ (p : PlanV) (w : World) (nb gb pb β : Nat) (s : List (List UInt8)) (W : World) : Prop :=
  ∃ v, Blk W nb 27 #[.int .i64 (wholes p.k s : Int), .int .i64 (parts p.k s : Int), .int .i64 0, .int .i64 0] ∧ Blk W gb 42 #[v] ∧ W.ownsRow β 5 1 v (goesL p s).length (bv (goesL p s)) ∧ Blk W pb 26 (pcells p) ∧ Below w.heap.size w W ∧ β ≤ W.heap.size
/-- What a block has become when j steps are done. -/
def stV (p : PlanV) (x : List UInt8) : Nat → List UInt8
  | 0 => x
  | 1 => fillV p x
  | 2 => turnV p (fillV p x)
  | 3 => raiseV p (turnV p (fillV p x))
  | _ => blkV p x
theorem grown_step {A B C : World} {g g1 : Nat} (h1 : A.grownBy B (some g)) (h2 : B.grownBy C (some g1)) (h : g1 = g ∨ A.heap.size ≤ g1) : A.grownBy C (some g) :=
  ⟨h2.os.trans h1.os, h2.tape.trans h1.tape, h2.output.trans h1.output, Nat.le_trans h1.size h2.size, fun k hk hne => (h2.block k (Nat.lt_of_lt_of_le hk h1.size) (fun e => by
    injection e with e
    rcases h with h | h
    · exact hne (by rw [e, h])
    · omega)).trans (h1.block k hk hne)⟩
theorem blk_row {W W' : World} {g : Nat} {t : TypeId} {cs : Array Value} {row : Option Nat} (h : Blk W g t cs) (hg : W.grownBy W' row) (hr : ∀ r, row = some r → ∃ o : Obj, W.heap[r]? = some o ∧ o.isCells = false) : Blk W' g t cs := by
  refine h.grown hg fun e => ?_
  obtain ⟨o, ho, hc⟩ := hr g e.symm
  unfold Blk at h
  rw [h] at ho
  injection ho with ho
  rw [← ho] at hc
  cases hc
theorem RunJ.own {p : PlanV} {w : World} {nb gb pb β : Nat} (hβ : w.heap.size ≤ β) : OwnFrom β (RunJ p w nb gb pb β) := by
  rintro s W W' row ⟨v, h1, h2, h3, h4, h5, h6⟩ hg hr
  have hr2 : ∀ r, row = some r → ∃ o : Obj, W.heap[r]? = some o ∧ o.isCells = false := fun r e => (hr r e).2
  refine ⟨v, blk_row h1 hg hr2, blk_row h2 hg hr2, h3.kept hg ?_, blk_row h4 hg hr2, h5.grown hg (by omega) (fun g e => by have := (hr g e).1; omega), Nat.le_trans h6 hg.size⟩
  cases hv : v.ownBlock with
  | none => exact .inl rfl
  | some g =>
    refine .inr fun e => ?_
    obtain ⟨o, ho, hc⟩ := hr2 g e.symm
    rcases h3.2 with ⟨e1, _⟩ | ⟨g', cap, cur, hvv, _, hh, _⟩
    · rw [e1] at hv; cases hv
    · have hgg : g' = g := by rw [hvv] at hv; simpa [Value.ownBlock] using hv
      rw [hgg, ho] at hh
      injection hh with hh
      rw [hh] at hc
      cases hc

theorem stV_len (p : PlanV) (x : List UInt8) (hx : x.length ≤ p.k) (j : Nat) : (stV p x j).length ≤ p.k := by
  have hf : (fillV p x).length ≤ p.k := by rw [fillV_len p x hx]; split <;> omega
  match j with
  | 0 => exact hx
  | 1 => exact hf
  | 2 => show (turnV p (fillV p x)).length ≤ _; rw [turnV_len]; exact hf
  | 3 => show (raiseV p (turnV p (fillV p x))).length ≤ _; rw [raiseV_len, turnV_len]; exact hf
  | _ + 4 => show (lowerV p (raiseV p (turnV p (fillV p x)))).length ≤ _; rw [lowerV_len, raiseV_len, turnV_len]; exact hf
theorem run_bounds (p : PlanV) (hp : p.ok) (s x : List UInt8) (bs r : List (List UInt8)) (h : restV p 0 (s.drop (p.skip.toNat * p.k)) = bs ++ x :: r) :
    wholes p.k bs ≤ s.length ∧ parts p.k bs ≤ 1 ∧ (goesL p bs).length + (blkV p x).length ≤ s.length + 65535 := by
  obtain ⟨hk1, hk2, _⟩ := ok_k p hp
  have h2 : chunks p.k (takenV p s) = bs ++ x :: r := h
  have hl := takenV_len p s
  obtain ⟨c1, c2, _⟩ := chunks_count p.k hk1 (takenV p s)
  rw [h2, wholes_append] at c1
  rw [h2, parts_append] at c2
  have hd := Nat.div_le_self (takenV p s).length p.k
  have hg := goesV_len p hp s
  unfold goesV at hg
  rw [h2, goesL_append, goesL_cons, List.length_append, List.length_append] at hg
  refine ⟨by omega, by omega, by omega⟩
theorem cells_row {w : World} {base n : Nat} {e : TypeId} {size : Nat} {v : Value} {xs : List Value} (h : w.ownsRow base e size v n xs) : ∀ j o, v.ownBlock = some j → w.heap[j]? = some o → o.isCells = true := by
  intro j o hj ho
  rcases h.2 with ⟨e, _⟩ | ⟨g, cap, cur, e, _, hh, _⟩
  · rw [e] at hj; cases hj
  · have hgg : g = j := by rw [e] at hj; simpa [Value.ownBlock] using hj
    rw [hgg, ho] at hh
    injection hh with hh
    rw [hh]
    rfl
theorem round_end {p : PlanV} {w : World} {nb gb pb b' β g m n : Nat} {bs : List (List UInt8)} {x : List UInt8} {W2 W3 wr w5 : World} {v : Value} {A5 : Option Addr} {c5 : Nat} {xs : List Value} {cs2 : Array Value} {N0 N1 : Int}
    (hnb : nb < β) (hgb : gb < β) (hpb : pb < β) (hb' : b' < β) (h1 : nb ≠ gb) (h2 : b' ≠ nb) (h3 : b' ≠ gb) (h4 : pb ≠ gb) (h5 : w.heap.size ≤ nb) (h6 : w.heap.size ≤ gb) (hg : β ≤ g)
    (kn2 : Blk W2 nb 27 cs2) (g23 : W2.grownBy W3 (some nb)) (hgr : W3.grownBy wr (some g)) (hcg : ∀ o, W3.heap[g]? = some o → o.isCells = true)
    (hown : wr.ownsRow β 5 1 v n xs) (hg5 : wr.grownBy w5 v.ownBlock) (hown5 : w5.ownsRow β 5 1 (.slice A5 m c5) m (bv (goesL p (bs ++ [x])))) (hm : m = (goesL p (bs ++ [x])).length)
    (kn3 : Blk W3 nb 27 #[.int .i64 N0, .int .i64 N1, .int .i64 0, .int .i64 0]) (kg3 : Blk W3 gb 42 #[v]) (kp3 : Blk W3 pb 26 (pcells p))
    (hBW : Below w.heap.size w W2) (hβ : β ≤ W2.heap.size) (e0 : N0 = (wholes p.k (bs ++ [x]) : Int)) (e1 : N1 = (parts p.k (bs ++ [x]) : Int)) :
    KeepsFrom β W2 (w5.setCell ⟨gb, 0, none⟩ (.slice A5 m c5)) ∧ RunJ p w nb gb pb β (bs ++ [x]) (w5.setCell ⟨gb, 0, none⟩ (.slice A5 m c5)) ∧ KeepB b' W2 (w5.setCell ⟨gb, 0, none⟩ (.slice A5 m c5)) := by
  have s3 := g23.size
  have s4 := hgr.size
  have s5 := hg5.size
  have s6 : (w5.setCell ⟨gb, 0, none⟩ (.slice A5 m c5)).heap.size = w5.heap.size := by simp [World.setCell]
  have nev : ∀ q, q < β → some q ≠ v.ownBlock := fun q hq => own_ne hown hq
  have ne5 : ∀ q, q < β → some q ≠ (Value.slice A5 m c5).ownBlock := fun q hq => own_ne hown5 hq
  have hgs : W2.grownBy wr (some nb) → True := fun _ => trivial
  refine ⟨?_, ⟨.slice A5 m c5, ?_, ?_, ?_, ?_, ?_, by omega⟩, by omega, ?_⟩
  · have k1 : KeepsOthers W2 W3 := KeepsOthers.of_grownBy g23 fun j o e ho => by
      injection e with e
      subst e
      unfold Blk at kn2
      rw [kn2] at ho
      injection ho with ho
      rw [← ho]; rfl
    have k2 : KeepsOthers W3 wr := KeepsOthers.of_grownBy hgr fun j o e ho => by
      injection e with e
      subst e
      exact hcg o ho
    have k3 : KeepsOthers wr w5 := KeepsOthers.of_grownBy hg5 fun j o e ho => cells_row hown j o e ho
    exact (((k1.trans k2).trans k3).trans (KeepsOthers.setCell _ _ _)).from β
  · rw [← e0, ← e1]
    exact ((kn3.grown hgr (by intro e; injection e with e; omega)).grown hg5 (nev nb hnb)).far (p := ⟨gb, 0, none⟩) h1 _
  · exact ((kg3.grown hgr (by intro e; injection e with e; omega)).grown hg5 (nev gb hgb)).set_ 0 _
  · rw [← hm]
    refine hown5.kept (row := some gb) (only_setCell (World.grownBy.refl w5 _) (.inl rfl) _) ?_
    cases hv : (Value.slice A5 m c5).ownBlock with
    | none => exact .inl rfl
    | some q => exact .inr fun e => ne5 gb hgb (by rw [hv, e])
  · exact ((kp3.grown hgr (by intro e; injection e with e; omega)).grown hg5 (nev pb hpb)).far (p := ⟨gb, 0, none⟩) h4 _
  · have b3 := hBW.grown g23 (by omega) (fun q e => by injection e with e; omega)
    have b4 := b3.grown hgr (by omega) (fun q e => by injection e with e; omega)
    have b5 := b4.grown hg5 (by omega) (fun q e => by have := own_ge hown q e; omega)
    exact b5.setCell (p := ⟨gb, 0, none⟩) h6 _
  · have t1 := g23.block b' (by omega) (by intro e; injection e with e; omega)
    have t2 := hgr.block b' (by omega) (by intro e; injection e with e; omega)
    have t3 := hg5.block b' (by omega) (nev b' hb')
    exact (Below.heap_setCell w5 _ _ b' h3).trans (t3.trans (t2.trans t1))
theorem below_putD {B D : Nat} {w W : World} (h : Below B w W) (hD : B ≤ D) (o : Obj) : Below B w (W.putObj D o) :=
  ⟨h.os, h.tape, h.output, by simpa using h.size, fun k hk => (World.putObj_heap_other (by omega)).trans (h.block k hk)⟩
theorem repeat_zero (n : Nat) : Lib.repeatL [0] n = List.replicate n (0 : UInt8) := by
  induction n with
  | zero => rfl
  | succ n ih =>
    rw [List.replicate_succ, ← ih]
    rfl
theorem builder_kept {β b : Nat} {l : List UInt8} {w w' : World} (h : IsBd β b l w) (hb : Below w.heap.size w w') : IsBd β b l w' := h.below hb rfl
set_option maxRecDepth 100000 in
set_option maxHeartbeats 80000000 in
theorem run_good (p : PlanV) (hp : p.ok) (s o : List UInt8) (w : World) (hs : s.length ≤ 1048576) (ho : o.length ≤ 1048576) :
    Calls Tryd.prog 10 #[p.val, .string (str s), .string (str o)] w fun e w' => e = .returned (runRes (runV p s o)) ∧ Below w.heap.size w w' := by
  obtain ⟨i0, hi0, hz0, hz1, hz2⟩ := info_parts infoFour
  obtain ⟨i1, hi1, hy0, hy1, hy2⟩ := info_parts infoU8
  have hss := str_size s
  have hos := str_size o
  obtain ⟨ns, hns⟩ : ∃ n, n = s.length := ⟨_, rfl⟩
  obtain ⟨no, hno⟩ : ∃ n, n = o.length := ⟨_, rfl⟩
  rw [← hns] at hss hs
  rw [← hno] at hos ho
  obtain ⟨X, hX⟩ : ∃ X, X = runRes (runV p s o) := ⟨_, rfl⟩
  rw [← hX]
  have hck := check_any p
  have hpv : p.val = .agg (pcells p) := rfl
  have hbf := blocksf_any p (str s)
  rw [hpv] at hck hbf ⊢
  have hpc : pcells p = #[.int .i64 p.inn, .int .i64 p.out, .int .i64 p.skip, .int .i64 p.count, .int .i64 p.seek, .bool p.keep, .bool p.swab, .bool p.upper, .bool p.lower, .bool p.sync] := rfl
  have HPC := Lib.hid hpc
  rw [hpc] at hck hbf ⊢
  have b1 : Below w.heap.size w (w.alloc (.cells (pcells p) 26)) := (Below.refl _ _).alloc (Nat.le_refl _) _
  have hX2 := Lib.hid hX
  have HNS := Lib.hid hns
  have HNO := Lib.hid hno
  have HP := Lib.hid hp
  clear hpv hX hns hno hpc hp
  refine callsIn_wide.1 (callsIn_of_wp_marks (F := Fence.wide) (n := 3) Tryd.func10 rfl trivial (wpIn_wide.2 ?_))
  simp only [Tryd.ntmps10, List.size_toArray, List.length_cons, List.length_nil, Nat.reduceAdd, Nat.reduceSub, Array.replicate_succ, Array.replicate_zero, List.push_toArray, List.append_toArray, List.nil_append, List.cons_append]
  go_wp2_with (refine wpList_alloc_any _ rfl 27 rfl i0 _ hi0 hz0 ?_)
  refine (hck _).mono ?_
  rintro e w1 ⟨rfl, hB1⟩
  have hsz2 : ∀ o1 o2 : Obj, ((w.alloc o1).alloc o2).heap.size = w.heap.size + 2 := fun _ _ => by simp
  rw [hsz2] at hB1
  have kn : Blk w1 (w.heap.size + 1) 27 #[.int .i64 0, .int .i64 0, .int .i64 0, .int .i64 0] := by
    refine Blk.below ?_ hB1 (by omega)
    have := Blk.new (w.alloc (.cells #[.int .i64 p.inn, .int .i64 p.out, .int .i64 p.skip, .int .i64 p.count, .int .i64 p.seek, .bool p.keep, .bool p.swab, .bool p.upper, .bool p.lower, .bool p.sync] 26)) 27 #[.int .i64 0, .int .i64 0, .int .i64 0, .int .i64 0]
    rw [World.size_alloc] at this
    exact this
  have kp : Blk w1 w.heap.size 26 (pcells p) := by
    refine Blk.below ?_ hB1 (by omega)
    exact Blk.alloc (Blk.new w _ _) _
  have b2 : Below w.heap.size w w1 := (b1.alloc (by simp) _).trans (hB1.mono (by omega))
  have hs1 : w.heap.size + 2 ≤ w1.heap.size := by have := hB1.size; simp at this; omega
  have q0 := fun o => (kp.alloc o).cell 0
  have q1 := fun o => (kp.alloc o).cell 1
  have q2 := fun o => (kp.alloc o).cell 2
  have q3 := fun o => (kp.alloc o).cell 3
  have q4 := fun o => (kp.alloc o).cell 4
  have q5 := fun o => (kp.alloc o).cell 5
  have q6 := fun o => (kp.alloc o).cell 6
  have q7 := fun o => (kp.alloc o).cell 7
  have q8 := fun o => (kp.alloc o).cell 8
  have q9 := fun o => (kp.alloc o).cell 9
  rw [HPC.out] at q0 q1 q2 q3 q4 q5 q6 q7 q8 q9
  simp at q0 q1 q2 q3 q4 q5 q6 q7 q8 q9
  rw [decide_eq_true HP.out]
  have HKN := Lib.hid kn
  have HKP := Lib.hid kp
  clear hck hB1 hsz2 b1 kn kp
  obtain ⟨mx, hmx⟩ : ∃ mx : Nat, max (ns : Int) (no : Int) = (mx : Int) := ⟨max ns no, by omega⟩
  have hI : ¬ (1048576 : Int) < (mx : Int) := by omega
  go_wp2_with fail
  have hbf2 := hbf (w1.alloc (.cells #[.slice none 0 0] 42))
  rw [World.size_alloc] at hbf2
  refine hbf2.mono ?_
  rintro e w2 ⟨rfl, hw2⟩
  rw [← HPC.out]
  have hs2 : w2.heap.size = w1.heap.size + 3 := by rw [hw2]; simp
  have kn2 : Blk w2 (w.heap.size + 1) 27 #[.int .i64 0, .int .i64 0, .int .i64 0, .int .i64 0] := by rw [hw2]; exact ((HKN.out.alloc _).alloc _).alloc _
  have kp2 : Blk w2 w.heap.size 26 (pcells p) := by rw [hw2]; exact ((HKP.out.alloc _).alloc _).alloc _
  have kg2 : Blk w2 w1.heap.size 42 #[.slice none 0 0] := by rw [hw2]; exact ((Blk.new w1 _ _).alloc _).alloc _
  have kb2 : Blk w2 (w1.heap.size + 1) 26 (pcells p) := by
    rw [hw2]
    refine Blk.alloc ?_ _
    have := Blk.new (w1.alloc (.cells #[.slice none 0 0] 42)) 26 (pcells p)
    rw [World.size_alloc] at this
    exact this
  have ks2 : Blk w2 (w1.heap.size + 2) 9 #[.string (str s)] := by
    rw [hw2]
    have := Blk.new ((w1.alloc (.cells #[.slice none 0 0] 42)).alloc (.cells (pcells p) 26)) 9 #[.string (str s)]
    rw [World.size_alloc, World.size_alloc] at this
    exact this
  have b3 : Below w.heap.size w w2 := by rw [hw2]; exact ((b2.alloc (by omega) _).alloc (by simp; omega) _).alloc (by simp; omega) _
  have hgv := iter_any p HP.out s (by have := HNS.out; omega) 3 w2.heap.size (w1.heap.size + 2) (w1.heap.size + 1) w2 ks2 kb2 (by omega) (by omega) (Nat.le_refl _)
  have HG := Lib.hid hgv
  have HR := Lib.hid (show RunJ p w (w.heap.size + 1) w1.heap.size w.heap.size w2.heap.size [] w2 from ⟨_, kn2, kg2, World.ownsRow_nil _ _ _ _, kp2, b3, Nat.le_refl _⟩)
  clear hw2 hbf hbf2 q0 q1 q2 q3 q4 q5 q6 q7 q8 q9 kn2 kp2 kg2 kb2 ks2 hgv
  go_wp2_with fail
  refine rangeFunc_gives (n := 3) (base := w2.heap.size) (k := p.k) (b := w1.heap.size + 1) rfl (enters_of Tryd.func24 (by kernel_rfl) rfl) (by omega) HG.out rfl (RunJ p w (w.heap.size + 1) w1.heap.size w.heap.size w2.heap.size) (RunJ.own (by omega)) HR.out ?round ?done
  case round =>
    intro l bs bs' args W hj hh
    obtain ⟨x, r, g, cap, e1, e2, e3, hbx, hx1, hx2, hx3, hx4, hx5, hx6⟩ := hh
    subst e3
    apply Exists.intro
    apply And.intro
    · intro K hK
      gi_wp2
      exact hK
    · intro W2 hj2 hh2
      obtain ⟨v, kn, kg, hown, kp, hBW, hβ⟩ := hj2
      obtain ⟨hb2, hbase2, hmk2⟩ : Bs W2 g cap x ∧ w2.heap.size ≤ g ∧ ∀ c t, W2.heap[g]? ≠ some (.cells c t (0, 0)) := by
        obtain ⟨x', r', g', cap', e1', _, e3', hb', _, _, _, _, hg', hmk'⟩ := hh2
        have hx : x' = x := by
          rw [e1] at e1'
          have := List.append_cancel_left e1'
          injection this with this
          exact this.symm
        subst hx
        injection e3' with e3'
        injection e3' with e3' _
        injection e3' with e3' _ e4'
        injection e3' with e3'
        injection e3' with e3' _
        subst e3' e4'
        exact ⟨hb', hg', hmk'⟩
      have hkk : p.inn = (p.k : Int) ∧ 1 ≤ p.k ∧ p.k ≤ 65536 := by
        obtain ⟨h1, h2, h3⟩ := ok_k p HP.out
        exact ⟨h3.symm, h1, h2⟩
      obtain ⟨k, hk⟩ : ∃ k, k = p.k := ⟨_, rfl⟩
      have P0 := kp.cell 0
      rw [HPC.out, hkk.1] at P0
      rw [← hk] at P0 hkk hx4
      simp at P0
      have C0 := kn.cell 0
      have C1 := kn.cell 1
      have F0 := kn.frozen 0
      have F1 := kn.frozen 1
      simp at C0 C1
      have HBS := Lib.hid hb2
      have HKN2 := Lib.hid kn
      have HKP2 := Lib.hid kp
      have HKG2 := Lib.hid kg
      have HE1 := Lib.hid e1
      have HE2 := Lib.hid e2
      have HOWN := Lib.hid hown
      have HKK := Lib.hid hkk
      have HK := Lib.hid hk
      clear hbx hh2 hj kn kp kg hown hkk hk e1 e2 hb2
      obtain ⟨N0, hN0⟩ : ∃ N0, N0 = wholes p.k bs := ⟨_, rfl⟩
      obtain ⟨N1, hN1⟩ : ∃ N1, N1 = parts p.k bs := ⟨_, rfl⟩
      rw [← hN0] at C0
      rw [← hN1] at C1
      have HN0 := Lib.hid hN0
      have HN1 := Lib.hid hN1
      have hrb := run_bounds p HP.out s x bs r HE2.out
      rw [← HNS.out, ← hN0, ← hN1] at hrb
      obtain ⟨hr1, hr2, hr3⟩ := hrb
      clear hN0 hN1
      have hvg : v.ownBlock = none ∨ v.ownBlock ≠ some g := by
        rcases HOWN.out.2 with ⟨e, _⟩ | ⟨g', cap', cur, e, _, hh, _⟩
        · exact .inl (by rw [e]; rfl)
        · refine .inr fun e2 => ?_
          have hgg : g' = g := by rw [e] at e2; simpa [Value.ownBlock] using e2
          rw [hgg] at hh
          exact hmk2 _ _ hh
      have HVG := Lib.hid hvg
      obtain ⟨jf, hjf, hjs⟩ := Option.map_eq_some_iff.1 infoFn
      have x0 : ∀ w : World, (Instr.index 46 (.agg stepVals) (.int .i64 0)).run Tryd.prog w = .ok (.func (.func 25) #[] #[]) w := run_index_one 46 45 4 _ .i64 0 jf Tryd.underlying46 Tryd.underlying45 rfl hjf hjs (by decide) _ rfl
      have x1 : ∀ w : World, (Instr.index 46 (.agg stepVals) (.int .i64 1)).run Tryd.prog w = .ok (.func (.func 26) #[] #[]) w := run_index_one 46 45 4 _ .i64 1 jf Tryd.underlying46 Tryd.underlying45 rfl hjf hjs (by decide) _ rfl
      have x2 : ∀ w : World, (Instr.index 46 (.agg stepVals) (.int .i64 2)).run Tryd.prog w = .ok (.func (.func 27) #[] #[]) w := run_index_one 46 45 4 _ .i64 2 jf Tryd.underlying46 Tryd.underlying45 rfl hjf hjs (by decide) _ rfl
      have x3 : ∀ w : World, (Instr.index 46 (.agg stepVals) (.int .i64 3)).run Tryd.prog w = .ok (.func (.func 28) #[] #[]) w := run_index_one 46 45 4 _ .i64 3 jf Tryd.underlying46 Tryd.underlying45 rfl hjf hjs (by decide) _ rfl
      have hglt := HBS.out.lt
      have hlen : ∀ j, (stV p x j).length ≤ 1073741824 := fun j => by have := stV_len p x (by rw [← HK.out]; exact hx4) j; have := HKK.out.2.2; have := HK.out; omega
      clear hvg hmk2 hjf hjs
      by_cases hxk : x.length = k
      · have hI2 : (x.length : Int) = (k : Int) := by omega
        gi_wp2
        refine ⟨trivial, (CallsIn.inRound l (callsIn_wide.2 (steps_any _))).mono ?_⟩
        rintro e W3 ⟨rfl, hB3⟩
        have hsc : ∀ (a : Addr) (u : Value), (W2.setCell a u).heap.size = W2.heap.size := fun _ _ => by simp [World.setCell]
        rw [hsc] at hB3
        have kn3 : Blk W3 (w.heap.size + 1) 27 #[.int .i64 ((N0 : Int) + 1), .int .i64 (N1 : Int), .int .i64 0, .int .i64 0] := by
          have h := HKN2.out.set_ 0 (.int .i64 ((N0 : Int) + 1))
          rw [← HN0.out, ← HN1.out] at h
          exact h.below hB3 (by omega)
        have kg3 : Blk W3 w1.heap.size 42 #[v] := (HKG2.out.far (p := ⟨w.heap.size + 1, 0, none⟩) (by show w1.heap.size ≠ w.heap.size + 1; omega) _).below hB3 (by omega)
        have kp3 : Blk W3 w.heap.size 26 (pcells p) := (HKP2.out.far (p := ⟨w.heap.size + 1, 0, none⟩) (by show w.heap.size ≠ w.heap.size + 1; omega) _).below hB3 (by omega)
        have g23 : W2.grownBy W3 (some (w.heap.size + 1)) := (only_setCell (World.grownBy.refl W2 _) (.inl rfl) _).trans (only_of_below (hB3.mono (by rw [hsc]; exact Nat.le_refl _)) _)
        have hb3 : Bs W3 g cap x := Buf.below (Buf.far HBS.out (a := ⟨w.heap.size + 1, 0, none⟩) (by show g ≠ w.heap.size + 1; omega) _) hB3 (by omega)
        have hs3 : W2.heap.size ≤ W3.heap.size := g23.size
        have HKN3 := Lib.hid kn3
        have HKG3 := Lib.hid kg3
        have HKP3 := Lib.hid kp3
        have HG23 := Lib.hid g23
        have HB3 := Lib.hid hb3
        have HXK := Lib.hid hxk
        clear kn3 kg3 kp3 g23 hb3 hsc hB3 C0 C1 F0 F1 P0 hxk hI2
        gi_wp2
        rw [← HXK.out]
        gi_loopw [10, 46] (fun b i wr => ∃ (j g1 c1 : Nat), j ≤ 4 ∧ i = .int .i64 (j : Int) ∧ b = .slice (some ⟨g1, 0, none⟩) (stV p x j).length c1 ∧ Bs wr g1 (if j = 0 then cap else (stV p x j).length) (stV p x j) ∧ (j = 0 → c1 = cap) ∧ W3.grownBy wr (some g) ∧ (g1 = g ∨ W3.heap.size ≤ g1)) (fun _ i _ => 4 - (intOf i).toNat)
        case atStart => exact ⟨0, g, cap, by omega, rfl, rfl, HB3.out, fun _ => rfl, World.grownBy.refl _ _, .inl rfl⟩
        case round =>
          obtain ⟨j, g1, c1, hj4, rfl, rfl, hbj, hcj, hgr, hg1⟩ := hrel
          have kpr := HKP3.out.grown hgr (by intro e; injection e with e; omega)
          have P0 := kpr.cell 0
          have P1 := kpr.cell 1
          have P2 := kpr.cell 2
          have P3 := kpr.cell 3
          have P4 := kpr.cell 4
          have P5 := kpr.cell 5
          have P6 := kpr.cell 6
          have P7 := kpr.cell 7
          have P8 := kpr.cell 8
          have P9 := kpr.cell 9
          rw [HPC.out] at P0 P1 P2 P3 P4 P5 P6 P7 P8 P9
          simp at P0 P1 P2 P3 P4 P5 P6 P7 P8 P9
          rcases (show j = 0 ∨ j = 1 ∨ j = 2 ∨ j = 3 ∨ j = 4 by omega) with rfl | rfl | rfl | rfl | rfl
          · obtain rfl := hcj rfl
            have hcl := fill_any p g1 x.length c1 x wr hbj rfl hx1 hx2 HP.out (by rw [← HK.out]; exact hx4)
            have HB := Lib.hid hbj
            clear hbj
            rw [show p.val = .agg (pcells p) from rfl, HPC.out] at hcl
            gi_wp2
            refine ⟨trivial, (CallsIn.inRound l (callsIn_wide.2 hcl)).mono ?_⟩
            rintro e W4 ⟨g2, c2, rfl, hb4, hg4, hor4⟩
            have hgr4 := grown_step hgr hg4 hg1
            have hor : g2 = g ∨ W3.heap.size ≤ g2 := by
              have := hgr.size
              rcases hor4 with e | e
              · rw [e]; exact hg1
              · exact .inr (by omega)
            have HB4 := Lib.hid hb4
            clear hcl hb4 hg4 hor4 P0 P1 P2 P3 P4 P5 P6 P7 P8 P9
            gi_wp2
            exact ⟨⟨1, g2, c2, by decide, rfl, rfl, HB4.out, fun h => (by cases h), hgr4, hor⟩, by simp [intOf]⟩
          · clear hcj
            have hcl := turn_any p g1 _ c1 (stV p x 1) wr hbj rfl (hlen 1)
            have HB := Lib.hid hbj
            clear hbj
            rw [show p.val = .agg (pcells p) from rfl, HPC.out] at hcl
            gi_wp2
            refine ⟨trivial, (CallsIn.inRound l (callsIn_wide.2 hcl)).mono ?_⟩
            rintro e W4 ⟨g2, c2, rfl, hb4, hg4, hor4⟩
            have hgr4 := grown_step hgr hg4 hg1
            have hor : g2 = g ∨ W3.heap.size ≤ g2 := by
              have := hgr.size
              rcases hor4 with e | e
              · rw [e]; exact hg1
              · exact .inr (by omega)
            have HB4 := Lib.hid hb4
            clear hcl hb4 hg4 hor4 P0 P1 P2 P3 P4 P5 P6 P7 P8 P9
            gi_wp2
            exact ⟨⟨2, g2, c2, by decide, rfl, rfl, HB4.out, fun h => (by cases h), hgr4, hor⟩, by simp [intOf]⟩
          · clear hcj
            have hcl := raise_any p g1 _ c1 (stV p x 2) wr hbj rfl (hlen 2)
            have HB := Lib.hid hbj
            clear hbj
            rw [show p.val = .agg (pcells p) from rfl, HPC.out] at hcl
            gi_wp2
            refine ⟨trivial, (CallsIn.inRound l (callsIn_wide.2 hcl)).mono ?_⟩
            rintro e W4 ⟨g2, c2, rfl, hb4, hg4, hor4⟩
            have hgr4 := grown_step hgr hg4 hg1
            have hor : g2 = g ∨ W3.heap.size ≤ g2 := by
              have := hgr.size
              rcases hor4 with e | e
              · rw [e]; exact hg1
              · exact .inr (by omega)
            have HB4 := Lib.hid hb4
            clear hcl hb4 hg4 hor4 P0 P1 P2 P3 P4 P5 P6 P7 P8 P9
            gi_wp2
            exact ⟨⟨3, g2, c2, by decide, rfl, rfl, HB4.out, fun h => (by cases h), hgr4, hor⟩, by simp [intOf]⟩
          · clear hcj
            have hcl := lower_any p g1 _ c1 (stV p x 3) wr hbj rfl (hlen 3)
            have HB := Lib.hid hbj
            clear hbj
            rw [show p.val = .agg (pcells p) from rfl, HPC.out] at hcl
            gi_wp2
            refine ⟨trivial, (CallsIn.inRound l (callsIn_wide.2 hcl)).mono ?_⟩
            rintro e W4 ⟨g2, c2, rfl, hb4, hg4, hor4⟩
            have hgr4 := grown_step hgr hg4 hg1
            have hor : g2 = g ∨ W3.heap.size ≤ g2 := by
              have := hgr.size
              rcases hor4 with e | e
              · rw [e]; exact hg1
              · exact .inr (by omega)
            have HB4 := Lib.hid hb4
            clear hcl hb4 hg4 hor4 P0 P1 P2 P3 P4 P5 P6 P7 P8 P9
            gi_wp2
            exact ⟨⟨4, g2, c2, by decide, rfl, rfl, HB4.out, fun h => (by cases h), hgr4, hor⟩, by simp [intOf]⟩
          · have hkg := HKG3.out.grown hgr (by intro e; injection e with e; omega)
            have cg := hkg.cell 0
            have fg := hkg.frozen 0
            simp at cg
            have hownr : wr.ownsRow w2.heap.size 5 1 v (goesL p bs).length (bv (goesL p bs)) := (HOWN.out.kept HG23.out (by
              cases hv : v.ownBlock with
              | none => exact .inl rfl
              | some q => exact .inr fun e => by have := own_ge HOWN.out q hv; injection e with e; omega)).kept hgr HVG.out
            have hcells : ∀ j u, (bv (stV p x 4))[j]? = some u → wr.cell? ((⟨g1, 0, none⟩ : Addr).add j) = some u := by
              intro j u hu
              have hj : j < (stV p x 4).length := by have := (List.getElem?_eq_some_iff.1 hu).1; rw [bv_length] at this; exact this
              rw [bv_get _ _ hj] at hu
              rw [Addr.add_lit, Nat.zero_add, Buf.cell hbj (i := j) hj]
              unfold byF
              rw [List.getD_eq_getElem?_getD, List.getElem?_eq_getElem hj]
              exact hu
            have hbl : (stV p x 4).length = (blkV p x).length := rfl
            have hsr := hgr.size
            clear P0 P1 P2 P3 P4 P5 P6 P7 P8 P9 hcj hkg
            gi_wp2_with (gi_at_builtin; refine wpListIn_append_own _ rfl (.tmp 54) (.tmp 55) 42 rfl w2.heap.size 5 i1 (.int .u8 0) 1 1 Tryd.underlying42 hi1 hy0 hy1 hy2 rfl (by decide) v _ _ rfl hownr ⟨g1, 0, none⟩ (stV p x 4).length c1 (bv (stV p x 4)) rfl (by rw [bv_length, Nat.mul_one]) hcells (bv_one _) (by unfold maxLen; omega) (by omega) (by omega) ?_; intro v5 w5 hown5 hg5 _; obtain ⟨A5, c5, rfl⟩ := own_slice hown5; have cg5 := (World.cell?_of_block (a := ⟨w1.heap.size, 0, none⟩) (hg5.block w1.heap.size (by omega) (own_ne hownr (by omega)))).trans cg; have fg5 : w5.frozen? ⟨w1.heap.size, 0, none⟩ = false := (HKG3.out.grown hgr (by intro e; injection e with e; omega)).grown hg5 (own_ne hownr (by omega)) |>.frozen 0)
            have hm : (goesL p bs).length + (stV p x 4).length = (goesL p (bs ++ [x])).length := by
              rw [goesL_append, List.length_append, goesL_cons, List.length_append]
              rfl
            have hys : bv (goesL p bs) ++ bv (stV p x 4) = bv (goesL p (bs ++ [x])) := by
              rw [goesL_append, goesL_cons, show goesL p [] = [] from rfl, List.append_nil]
              simp [bv]
              rfl
            rw [hys] at hown5
            have hE := round_end (p := p) (w := w) (nb := w.heap.size + 1) (gb := w1.heap.size) (pb := w.heap.size) (b' := w1.heap.size + 1) (β := w2.heap.size) (x := x) (N0 := (N0 : Int) + 1) (N1 := (N1 : Int)) (by omega) (by omega) (by omega) (by omega) (by omega) (by omega) (by omega) (by omega) (by omega) (by omega) hbase2 HKN2.out HG23.out hgr (fun o ho => by
              obtain ⟨c, t, lo, hh, hc, _⟩ := HB3.out
              rw [ho] at hc
              injection hc with hc
              rw [hc]; rfl) hownr hg5 hown5 hm HKN3.out HKG3.out HKP3.out hBW hβ (by rw [wholes_append, wholes_cons, if_pos (by rw [← HK.out]; exact HXK.out), ← HN0.out]; show ((N0 : Int) + 1) = ((N0 + (1 + 0) : Nat) : Int); omega) (by rw [parts_append, parts_cons, if_pos (by rw [← HK.out]; exact HXK.out), ← HN1.out]; show (N1 : Int) = ((N1 + (0 + 0) : Nat) : Int); omega)
            rw [hbl, hs2] at hE
            exact ⟨hE.1, by rw [HE1.out]; exact hE.2.1, hE.2.2⟩
      · have hI2 : ¬ (x.length : Int) = (k : Int) := by omega
        gi_wp2
        refine ⟨trivial, (CallsIn.inRound l (callsIn_wide.2 (steps_any _))).mono ?_⟩
        rintro e W3 ⟨rfl, hB3⟩
        have hsc : ∀ (a : Addr) (u : Value), (W2.setCell a u).heap.size = W2.heap.size := fun _ _ => by simp [World.setCell]
        rw [hsc] at hB3
        have kn3 : Blk W3 (w.heap.size + 1) 27 #[.int .i64 (N0 : Int), .int .i64 ((N1 : Int) + 1), .int .i64 0, .int .i64 0] := by
          have h := HKN2.out.set_ 1 (.int .i64 ((N1 : Int) + 1))
          rw [← HN0.out, ← HN1.out] at h
          exact h.below hB3 (by omega)
        have kg3 : Blk W3 w1.heap.size 42 #[v] := (HKG2.out.far (p := ⟨w.heap.size + 1, 1, none⟩) (by show w1.heap.size ≠ w.heap.size + 1; omega) _).below hB3 (by omega)
        have kp3 : Blk W3 w.heap.size 26 (pcells p) := (HKP2.out.far (p := ⟨w.heap.size + 1, 1, none⟩) (by show w.heap.size ≠ w.heap.size + 1; omega) _).below hB3 (by omega)
        have g23 : W2.grownBy W3 (some (w.heap.size + 1)) := (only_setCell (World.grownBy.refl W2 _) (.inl rfl) _).trans (only_of_below (hB3.mono (by rw [hsc]; exact Nat.le_refl _)) _)
        have hb3 : Bs W3 g cap x := Buf.below (Buf.far HBS.out (a := ⟨w.heap.size + 1, 1, none⟩) (by show g ≠ w.heap.size + 1; omega) _) hB3 (by omega)
        have hs3 : W2.heap.size ≤ W3.heap.size := g23.size
        have HKN3 := Lib.hid kn3
        have HKG3 := Lib.hid kg3
        have HKP3 := Lib.hid kp3
        have HG23 := Lib.hid g23
        have HB3 := Lib.hid hb3
        have HXK := Lib.hid hxk
        clear kn3 kg3 kp3 g23 hb3 hsc hB3 C0 C1 F0 F1 P0 hxk hI2
        gi_wp2
        skip
        gi_loopw [10, 46] (fun b i wr => ∃ (j g1 c1 : Nat), j ≤ 4 ∧ i = .int .i64 (j : Int) ∧ b = .slice (some ⟨g1, 0, none⟩) (stV p x j).length c1 ∧ Bs wr g1 (if j = 0 then cap else (stV p x j).length) (stV p x j) ∧ (j = 0 → c1 = cap) ∧ W3.grownBy wr (some g) ∧ (g1 = g ∨ W3.heap.size ≤ g1)) (fun _ i _ => 4 - (intOf i).toNat)
        case atStart => exact ⟨0, g, cap, by omega, rfl, rfl, HB3.out, fun _ => rfl, World.grownBy.refl _ _, .inl rfl⟩
        case round =>
          obtain ⟨j, g1, c1, hj4, rfl, rfl, hbj, hcj, hgr, hg1⟩ := hrel
          have kpr := HKP3.out.grown hgr (by intro e; injection e with e; omega)
          have P0 := kpr.cell 0
          have P1 := kpr.cell 1
          have P2 := kpr.cell 2
          have P3 := kpr.cell 3
          have P4 := kpr.cell 4
          have P5 := kpr.cell 5
          have P6 := kpr.cell 6
          have P7 := kpr.cell 7
          have P8 := kpr.cell 8
          have P9 := kpr.cell 9
          rw [HPC.out] at P0 P1 P2 P3 P4 P5 P6 P7 P8 P9
          simp at P0 P1 P2 P3 P4 P5 P6 P7 P8 P9
          rcases (show j = 0 ∨ j = 1 ∨ j = 2 ∨ j = 3 ∨ j = 4 by omega) with rfl | rfl | rfl | rfl | rfl
          · obtain rfl := hcj rfl
            have hcl := fill_any p g1 x.length c1 x wr hbj rfl hx1 hx2 HP.out (by rw [← HK.out]; exact hx4)
            have HB := Lib.hid hbj
            clear hbj
            rw [show p.val = .agg (pcells p) from rfl, HPC.out] at hcl
            gi_wp2
            refine ⟨trivial, (CallsIn.inRound l (callsIn_wide.2 hcl)).mono ?_⟩
            rintro e W4 ⟨g2, c2, rfl, hb4, hg4, hor4⟩
            have hgr4 := grown_step hgr hg4 hg1
            have hor : g2 = g ∨ W3.heap.size ≤ g2 := by
              have := hgr.size
              rcases hor4 with e | e
              · rw [e]; exact hg1
              · exact .inr (by omega)
            have HB4 := Lib.hid hb4
            clear hcl hb4 hg4 hor4 P0 P1 P2 P3 P4 P5 P6 P7 P8 P9
            gi_wp2
            exact ⟨⟨1, g2, c2, by decide, rfl, rfl, HB4.out, fun h => (by cases h), hgr4, hor⟩, by simp [intOf]⟩
          · clear hcj
            have hcl := turn_any p g1 _ c1 (stV p x 1) wr hbj rfl (hlen 1)
            have HB := Lib.hid hbj
            clear hbj
            rw [show p.val = .agg (pcells p) from rfl, HPC.out] at hcl
            gi_wp2
            refine ⟨trivial, (CallsIn.inRound l (callsIn_wide.2 hcl)).mono ?_⟩
            rintro e W4 ⟨g2, c2, rfl, hb4, hg4, hor4⟩
            have hgr4 := grown_step hgr hg4 hg1
            have hor : g2 = g ∨ W3.heap.size ≤ g2 := by
              have := hgr.size
              rcases hor4 with e | e
              · rw [e]; exact hg1
              · exact .inr (by omega)
            have HB4 := Lib.hid hb4
            clear hcl hb4 hg4 hor4 P0 P1 P2 P3 P4 P5 P6 P7 P8 P9
            gi_wp2
            exact ⟨⟨2, g2, c2, by decide, rfl, rfl, HB4.out, fun h => (by cases h), hgr4, hor⟩, by simp [intOf]⟩
          · clear hcj
            have hcl := raise_any p g1 _ c1 (stV p x 2) wr hbj rfl (hlen 2)
            have HB := Lib.hid hbj
            clear hbj
            rw [show p.val = .agg (pcells p) from rfl, HPC.out] at hcl
            gi_wp2
            refine ⟨trivial, (CallsIn.inRound l (callsIn_wide.2 hcl)).mono ?_⟩
            rintro e W4 ⟨g2, c2, rfl, hb4, hg4, hor4⟩
            have hgr4 := grown_step hgr hg4 hg1
            have hor : g2 = g ∨ W3.heap.size ≤ g2 := by
              have := hgr.size
              rcases hor4 with e | e
              · rw [e]; exact hg1
              · exact .inr (by omega)
            have HB4 := Lib.hid hb4
            clear hcl hb4 hg4 hor4 P0 P1 P2 P3 P4 P5 P6 P7 P8 P9
            gi_wp2
            exact ⟨⟨3, g2, c2, by decide, rfl, rfl, HB4.out, fun h => (by cases h), hgr4, hor⟩, by simp [intOf]⟩
          · clear hcj
            have hcl := lower_any p g1 _ c1 (stV p x 3) wr hbj rfl (hlen 3)
            have HB := Lib.hid hbj
            clear hbj
            rw [show p.val = .agg (pcells p) from rfl, HPC.out] at hcl
            gi_wp2
            refine ⟨trivial, (CallsIn.inRound l (callsIn_wide.2 hcl)).mono ?_⟩
            rintro e W4 ⟨g2, c2, rfl, hb4, hg4, hor4⟩
            have hgr4 := grown_step hgr hg4 hg1
            have hor : g2 = g ∨ W3.heap.size ≤ g2 := by
              have := hgr.size
              rcases hor4 with e | e
              · rw [e]; exact hg1
              · exact .inr (by omega)
            have HB4 := Lib.hid hb4
            clear hcl hb4 hg4 hor4 P0 P1 P2 P3 P4 P5 P6 P7 P8 P9
            gi_wp2
            exact ⟨⟨4, g2, c2, by decide, rfl, rfl, HB4.out, fun h => (by cases h), hgr4, hor⟩, by simp [intOf]⟩
          · have hkg := HKG3.out.grown hgr (by intro e; injection e with e; omega)
            have cg := hkg.cell 0
            have fg := hkg.frozen 0
            simp at cg
            have hownr : wr.ownsRow w2.heap.size 5 1 v (goesL p bs).length (bv (goesL p bs)) := (HOWN.out.kept HG23.out (by
              cases hv : v.ownBlock with
              | none => exact .inl rfl
              | some q => exact .inr fun e => by have := own_ge HOWN.out q hv; injection e with e; omega)).kept hgr HVG.out
            have hcells : ∀ j u, (bv (stV p x 4))[j]? = some u → wr.cell? ((⟨g1, 0, none⟩ : Addr).add j) = some u := by
              intro j u hu
              have hj : j < (stV p x 4).length := by have := (List.getElem?_eq_some_iff.1 hu).1; rw [bv_length] at this; exact this
              rw [bv_get _ _ hj] at hu
              rw [Addr.add_lit, Nat.zero_add, Buf.cell hbj (i := j) hj]
              unfold byF
              rw [List.getD_eq_getElem?_getD, List.getElem?_eq_getElem hj]
              exact hu
            have hbl : (stV p x 4).length = (blkV p x).length := rfl
            have hsr := hgr.size
            clear P0 P1 P2 P3 P4 P5 P6 P7 P8 P9 hcj hkg
            gi_wp2_with (gi_at_builtin; refine wpListIn_append_own _ rfl (.tmp 54) (.tmp 55) 42 rfl w2.heap.size 5 i1 (.int .u8 0) 1 1 Tryd.underlying42 hi1 hy0 hy1 hy2 rfl (by decide) v _ _ rfl hownr ⟨g1, 0, none⟩ (stV p x 4).length c1 (bv (stV p x 4)) rfl (by rw [bv_length, Nat.mul_one]) hcells (bv_one _) (by unfold maxLen; omega) (by omega) (by omega) ?_; intro v5 w5 hown5 hg5 _; obtain ⟨A5, c5, rfl⟩ := own_slice hown5; have cg5 := (World.cell?_of_block (a := ⟨w1.heap.size, 0, none⟩) (hg5.block w1.heap.size (by omega) (own_ne hownr (by omega)))).trans cg; have fg5 : w5.frozen? ⟨w1.heap.size, 0, none⟩ = false := (HKG3.out.grown hgr (by intro e; injection e with e; omega)).grown hg5 (own_ne hownr (by omega)) |>.frozen 0)
            have hm : (goesL p bs).length + (stV p x 4).length = (goesL p (bs ++ [x])).length := by
              rw [goesL_append, List.length_append, goesL_cons, List.length_append]
              rfl
            have hys : bv (goesL p bs) ++ bv (stV p x 4) = bv (goesL p (bs ++ [x])) := by
              rw [goesL_append, goesL_cons, show goesL p [] = [] from rfl, List.append_nil]
              simp [bv]
              rfl
            rw [hys] at hown5
            have hE := round_end (p := p) (w := w) (nb := w.heap.size + 1) (gb := w1.heap.size) (pb := w.heap.size) (b' := w1.heap.size + 1) (β := w2.heap.size) (x := x) (N0 := (N0 : Int)) (N1 := (N1 : Int) + 1) (by omega) (by omega) (by omega) (by omega) (by omega) (by omega) (by omega) (by omega) (by omega) (by omega) hbase2 HKN2.out HG23.out hgr (fun o ho => by
              obtain ⟨c, t, lo, hh, hc, _⟩ := HB3.out
              rw [ho] at hc
              injection hc with hc
              rw [hc]; rfl) hownr hg5 hown5 hm HKN3.out HKG3.out HKP3.out hBW hβ (by rw [wholes_append, wholes_cons, if_neg (by rw [← HK.out]; exact HXK.out), ← HN0.out]; show (N0 : Int) = ((N0 + (0 + 0) : Nat) : Int); omega) (by rw [parts_append, parts_cons, if_neg (by rw [← HK.out]; exact HXK.out), ← HN1.out]; show ((N1 : Int) + 1) = ((N1 + (1 + 0) : Nat) : Int); omega)
            rw [hbl, hs2] at hE
            exact ⟨hE.1, by rw [HE1.out]; exact hE.2.1, hE.2.2⟩
  case done =>
    intro D W hD hj hdef
    obtain ⟨v, kn, kg, hown, kp, hBW, hβ⟩ := hj
    have htot : restV p 0 (s.drop (p.skip.toNat * p.k)) = chunks p.k (takenV p s) := rfl
    rw [htot] at kn hown
    obtain ⟨gl, hgl⟩ : ∃ gl, gl = goesV p s := ⟨_, rfl⟩
    rw [show goesL p (chunks p.k (takenV p s)) = gl from hgl.symm] at hown
    have hgb : gl.length ≤ 1114112 := by
      have := goesV_len p HP.out s
      have := HNS.out
      rw [hgl]; omega
    obtain ⟨N0, hN0⟩ : ∃ N0, N0 = wholes p.k (chunks p.k (takenV p s)) := ⟨_, rfl⟩
    obtain ⟨N1, hN1⟩ : ∃ N1, N1 = parts p.k (chunks p.k (takenV p s)) := ⟨_, rfl⟩
    rw [← hN0, ← hN1] at kn
    obtain ⟨q, hq1, hq2, hq3⟩ : ∃ q : Nat, p.out = (q : Int) ∧ 1 ≤ q ∧ q ≤ 65536 := ⟨p.out.toNat, by have := HP.out.2.1; omega, by have := HP.out.2.1; omega, by have := HP.out.2.1; omega⟩
    obtain ⟨sk, hk1, hk2⟩ : ∃ q : Nat, p.seek = (q : Int) ∧ q ≤ 2147483647 := ⟨p.seek.toNat, by have := HP.out.2.2.2.1; omega, by have := HP.out.2.2.2.1; omega⟩
    obtain ⟨A, c, rfl⟩ := own_slice hown
    obtain ⟨G, hG⟩ : ∃ G, G = gl.length := ⟨_, rfl⟩
    rw [← hG] at hown hgb
    have P1 := kp.cell 1
    have P4 := kp.cell 4
    have P5 := kp.cell 5
    rw [HPC.out, hq1] at P1
    rw [HPC.out, hk1] at P4
    rw [HPC.out] at P5
    simp at P1 P4 P5
    have C2 := kn.cell 2
    have C3 := kn.cell 3
    have F2 := kn.frozen 2
    have F3 := kn.frozen 3
    have CG := kg.cell 0
    simp at C2 C3 CG
    rw [← hG] at CG
    have HKN4 := Lib.hid kn
    have HKP4 := Lib.hid kp
    have HKG4 := Lib.hid kg
    have HOWN4 := Lib.hid hown
    have HGL := Lib.hid hgl
    have HGG := Lib.hid hG
    have HN0 := Lib.hid hN0
    have HN1 := Lib.hid hN1
    have HQ1 := Lib.hid hq1
    have HK1 := Lib.hid hk1
    have HDEF := Lib.hid hdef
    clear kn kp kg hown hgl hG hN0 hN1 hq1 hk1 htot hdef
    have hq0 : ¬ (q : Int) = 0 := by omega
    obtain ⟨Qn, hQn⟩ : ∃ Qn, Qn = G / q := ⟨_, rfl⟩
    obtain ⟨Rn, hRn⟩ : ∃ Rn, Rn = G % q := ⟨_, rfl⟩
    have e7 : (G : Int) / (q : Int) = (Qn : Int) := by rw [hQn, Int.natCast_ediv]
    have e8 : (G : Int) % (q : Int) = (Rn : Int) := by rw [hRn, Int.natCast_emod]
    have HQN := Lib.hid hQn
    have HRN := Lib.hid hRn
    have hQb : Qn ≤ 1114112 := by rw [hQn]; exact Nat.le_trans (Nat.div_le_self _ _) hgb
    have hRb : Rn ≤ 65536 := by rw [hRn]; have := Nat.mod_lt G (show 0 < q by omega); omega
    have t7 : (G : Int).tdiv (q : Int) = (Qn : Int) := by rw [Int.tdiv_eq_ediv_of_nonneg (by omega)]; exact e7
    have t8 : (G : Int).tmod (q : Int) = (Rn : Int) := by rw [Int.tmod_eq_emod_of_nonneg (by omega)]; exact e8
    have w7 : IntKind.i64.wrap (Qn : Int) = (Qn : Int) := by rw [IntKind.wrap_i64]; omega
    have w8 : IntKind.i64.wrap (Rn : Int) = (Rn : Int) := by rw [IntKind.wrap_i64]; omega
    have b0 : ((q : Int) == 0) = false := by simpa using hq0
    obtain ⟨mn, hmn⟩ : ∃ mn : Nat, min (Rn : Int) 1 = (mn : Int) := ⟨min Rn 1, by omega⟩
    have hqn : ¬ q = 0 := by omega
    clear hQn hRn
    simp only [Exit.inBlock, Exit.then]
    go_wp2_with fail
    have g1 : ∀ (j : Nat) (u : Value), (W.setCell ⟨w.heap.size + 1, j, none⟩ u).drew.cell? ⟨w1.heap.size, 0, none⟩ = some (.slice A G c) := fun j u => (World.cell?_setCell_other W _ _ u (by intro e; have := congrArg Addr.block e; simp at this; omega)).trans CG
    have g2 : ∀ (i j : Nat) (u u' : Value), ((W.setCell ⟨w.heap.size + 1, i, none⟩ u).setCell ⟨w.heap.size + 1, j, none⟩ u').drew.cell? ⟨w1.heap.size, 0, none⟩ = some (.slice A G c) := fun i j u u' => (World.cell?_setCell_other _ _ _ u' (by intro e; have := congrArg Addr.block e; simp at this; omega)).trans (g1 i u)
    have p1 : ∀ (j : Nat) (u : Value), (W.setCell ⟨w.heap.size + 1, j, none⟩ u).drew.cell? ⟨w.heap.size, 1, none⟩ = some (.int .i64 (q : Int)) := fun j u => (World.cell?_setCell_other W _ _ u (by intro e; have := congrArg Addr.block e; simp at this)).trans P1
    have p2 : ∀ (i j : Nat) (u u' : Value), ((W.setCell ⟨w.heap.size + 1, i, none⟩ u).setCell ⟨w.heap.size + 1, j, none⟩ u').drew.cell? ⟨w.heap.size, 1, none⟩ = some (.int .i64 (q : Int)) := fun i j u u' => (World.cell?_setCell_other _ _ _ u' (by intro e; have := congrArg Addr.block e; simp at this)).trans (p1 i u)
    go_region_held3 (fun w' => w'.cell? ⟨w1.heap.size, 0, none⟩ = some (.slice A G c) ∧ w'.cell? ⟨w.heap.size, 1, none⟩ = some (.int .i64 (q : Int))) (first | exact ⟨g1 _ _, p1 _ _⟩ | exact ⟨g2 _ _ _ _, p2 _ _ _ _⟩ | go_keep) (fail)
    all_goals (
      obtain ⟨W6, hW6⟩ : ∃ W6, W6 = ((W.setCell ⟨w.heap.size + 1, 2, none⟩ (.int .i64 (Qn : Int))).setCell ⟨w.heap.size + 1, 3, none⟩ (.int .i64 (mn : Int))).drew := ⟨_, rfl⟩
      rw [← hW6]
      have kn6 : Blk W6 (w.heap.size + 1) 27 #[.int .i64 (N0 : Int), .int .i64 (N1 : Int), .int .i64 (Qn : Int), .int .i64 (mn : Int)] := by rw [hW6]; exact ((HKN4.out.set_ 2 _).set_ 3 _).drew
      have kg6 : Blk W6 w1.heap.size 42 #[.slice A G c] := by
        rw [hW6]
        have h := (HKG4.out.far (p := ⟨w.heap.size + 1, 2, none⟩) (by show w1.heap.size ≠ w.heap.size + 1; omega) (.int .i64 (Qn : Int))).far (p := ⟨w.heap.size + 1, 3, none⟩) (by show w1.heap.size ≠ w.heap.size + 1; omega) (.int .i64 (mn : Int))
        rw [← HGG.out] at h
        exact h.drew
      have kp6 : Blk W6 w.heap.size 26 (pcells p) := by
        rw [hW6]
        exact ((HKP4.out.far (p := ⟨w.heap.size + 1, 2, none⟩) (by show w.heap.size ≠ w.heap.size + 1; omega) _).far (p := ⟨w.heap.size + 1, 3, none⟩) (by show w.heap.size ≠ w.heap.size + 1; omega) _).drew
      have own6 : W6.ownsRow w2.heap.size 5 1 (.slice A G c) G (bv gl) := by
        rw [hW6]
        refine HOWN4.out.kept (row := some (w.heap.size + 1)) (only_drew (only_setCell (p := ⟨w.heap.size + 1, 3, none⟩) (only_setCell (p := ⟨w.heap.size + 1, 2, none⟩) (World.grownBy.refl _ _) (.inl rfl) _) (.inl rfl) _)) ?_
        cases hv : (Value.slice A G c).ownBlock with
        | none => exact .inl rfl
        | some g => exact .inr fun e => by have := own_ge HOWN4.out g hv; injection e with e; omega
      have b6 : Below w.heap.size w W6 := by rw [hW6]; exact Below.drew (Below.setCell (Below.setCell hBW (p := ⟨w.heap.size + 1, 2, none⟩) (by show w.heap.size ≤ w.heap.size + 1; omega) _) (p := ⟨w.heap.size + 1, 3, none⟩) (by show w.heap.size ≤ w.heap.size + 1; omega) _)
      have s6 : W6.heap.size = W.heap.size := by rw [hW6]; simp [World.setCell, World.drew]
      have def6 : W6.heap[D]? = some (.deferred (some [])) := by
        rw [hW6]
        exact (Below.heap_setCell _ _ _ D (by show D ≠ w.heap.size + 1; omega)).trans ((Below.heap_setCell W _ _ D (by show D ≠ w.heap.size + 1; omega)).trans HDEF.out)
      clear hW6 g1 g2 p1 p2 P1 P4 P5 C2 C3 F2 F3 CG
      have P1 := kp6.cell 1
      have P4 := kp6.cell 4
      have P5 := kp6.cell 5
      rw [HPC.out, HQ1.out] at P1
      rw [HPC.out, HK1.out] at P4
      rw [HPC.out] at P5
      simp at P1 P4 P5
      have CG := kg6.cell 0
      simp at CG
      have HK6 := Lib.hid kn6
      have HG6 := Lib.hid kg6
      have HP6 := Lib.hid kp6
      have HO6 := Lib.hid own6
      have HD6 := Lib.hid def6
      clear kn6 kg6 kp6 own6 def6
      obtain ⟨AT, hAT⟩ : ∃ AT, AT = sk * q := ⟨_, rfl⟩
      have hATb : AT ≤ 140737488355328 := by rw [hAT]; exact Nat.le_trans (Nat.mul_le_mul hk2 hq3) (by decide)
      have hmul : (sk : Int) * (q : Int) = (AT : Int) := by rw [hAT, Int.natCast_mul]
      have HAT := Lib.hid hAT
      clear hAT
      simp only [Exit.then]
      by_cases hbig : 1048576 < AT + G
      · have hI3 : (1048576 : Int) < (AT : Int) + (G : Int) := by omega
        have F0 := HK6.out.frozen 0
        have F1 := HK6.out.frozen 1
        have F2 := HK6.out.frozen 2
        have F3 := HK6.out.frozen 3
        have C0 := HK6.out.cell 0
        have C1 := HK6.out.cell 1
        have C2 := HK6.out.cell 2
        have C3 := HK6.out.cell 3
        simp at C0 C1 C2 C3
        have hX3 : X = .tuple #[.string (str []), .agg #[.int .i64 0, .int .i64 0, .int .i64 0, .int .i64 0], .int .i64 3] := by
          have hnm : ¬ 1048576 < max s.length o.length := by have := HNS.out; have := HNO.out; omega
          have hbg : 1048576 < p.seek.toNat * p.out.toNat + (goesL p (chunks p.k (takenV p s))).length := by
            rw [HK1.out, HQ1.out]
            show 1048576 < sk * q + (goesV p s).length
            rw [← HGL.out, ← HGG.out, ← HAT.out]
            exact hbig
          rw [hX2.out]
          unfold runV
          rw [if_neg (fun h => h HP.out), if_neg hnm]
          show runRes (if 1048576 < p.seek.toNat * p.out.toNat + (goesL p (chunks p.k (takenV p s))).length then _ else _) = _
          rw [if_pos hbg]
          rfl
        have HX3 := Lib.hid hX3
        clear hX3
        go_wp2_with fail
        obtain ⟨W7, hW7⟩ : ∃ W7, W7 = ((((W6.setCell ⟨w.heap.size + 1, 0, none⟩ (.int .i64 0)).setCell ⟨w.heap.size + 1, 1, none⟩ (.int .i64 0)).setCell ⟨w.heap.size + 1, 2, none⟩ (.int .i64 0)).setCell ⟨w.heap.size + 1, 3, none⟩ (.int .i64 0)) := ⟨_, rfl⟩
        rw [← hW7]
        have k7 : Blk W7 (w.heap.size + 1) 27 #[.int .i64 0, .int .i64 0, .int .i64 0, .int .i64 0] := by rw [hW7]; exact (((HK6.out.set_ 0 _).set_ 1 _).set_ 2 _).set_ 3 _
        have hne7 : ∀ (j : Nat), D ≠ (⟨w.heap.size + 1, j, none⟩ : Addr).block := fun j => by show D ≠ w.heap.size + 1; omega
        have d7 : W7.heap[D]? = some (.deferred (some [])) := by
          rw [hW7]
          exact (Below.heap_setCell _ _ _ D (hne7 3)).trans ((Below.heap_setCell _ _ _ D (hne7 2)).trans ((Below.heap_setCell _ _ _ D (hne7 1)).trans ((Below.heap_setCell _ _ _ D (hne7 0)).trans HD6.out)))
        have hle7 : ∀ (j : Nat), w.heap.size ≤ (⟨w.heap.size + 1, j, none⟩ : Addr).block := fun j => by show w.heap.size ≤ w.heap.size + 1; omega
        have b7 : Below w.heap.size w W7 := by rw [hW7]; exact (((b6.setCell (hle7 0) _).setCell (hle7 1) _).setCell (hle7 2) _).setCell (hle7 3) _
        refine ⟨by simp, .inl ⟨_, _, rfl, run_takeDeferred d7, ?_⟩⟩
        refine ⟨_, results_run _ _ (w.heap.size + 1) _ _ _ rfl rfl rfl ((World.putObj_heap_other (by omega)).trans k7) rfl, by rw [HX3.out]; rfl, below_putD b7 (by omega) _⟩
      · have hI3 : ¬ (1048576 : Int) < (AT : Int) + (G : Int) := by omega
        have hs6 : (W6.alloc (.cells #[.pointer none, .slice none 0 0] 50)).heap.size = W.heap.size + 1 := by rw [World.size_alloc, s6]
        have hbd0 : IsBd (W.heap.size + 1) W.heap.size [] (W6.alloc (.cells #[.pointer none, .slice none 0 0] 50)) := by
          have h := IsBd.new W6 (W.heap.size + 1) (by omega)
          rw [s6] at h
          exact h
        have ho1 : (str o).extract 0 (min (AT : Int) (no : Int)).toNat = str (o.take AT) := by
          rw [str_upto]
          have := HNO.out
          by_cases h : AT ≤ no
          · rw [show (min (AT : Int) (no : Int)).toNat = AT from by omega]
          · rw [show (min (AT : Int) (no : Int)).toNat = no from by omega, List.take_of_length_le (by omega), List.take_of_length_le (by omega)]
        have HO1 := Lib.hid ho1
        clear ho1
        go_wp2_with fail
        rw [HO1.out]
        refine (writeString_any (W.heap.size + 1) W.heap.size [] (o.take AT) _ hbd0 (by have := HNO.out; simp; omega) (by rw [hs6]; exact Nat.le_refl _)).mono ?_
        rintro e w7 ⟨⟨v7, rfl⟩, hbd7, hk7⟩
        rw [List.nil_append] at hbd7
        have hs7 := hk7.size
        rw [hs6] at hs7
        have bw7 : Below W.heap.size W6 w7 := ((Below.refl _ W6).alloc (by omega) _).trans (hk7.below (Nat.le_refl _) (by omega))
        have hLib7 := hbd7.lib
        obtain ⟨T, hT⟩ : ∃ T, T = min AT no := ⟨_, rfl⟩
        have hT7 : (bv (o.take AT)).length = T := by rw [bv_length, List.length_take, hT, HNO.out]
        obtain ⟨Z, hZ⟩ : ∃ Z, Z = AT - no := ⟨_, rfl⟩
        have hZT : (AT : Int) - (T : Int) = (Z : Int) := by omega
        have hZb : Z ≤ 1048576 := by omega
        have HT7 := Lib.hid hT7
        have HT := Lib.hid hT
        have HZ := Lib.hid hZ
        clear hT7 hT hZ hk7 hbd0 hs6
        go_wp2_with fail
        refine (Tryd.Builder_Len W.heap.size W.heap.size _ w7 hLib7).mono ?_
        rintro e w8 ⟨rfl, hw8⟩
        rw [hw8, HT7.out]
        clear hw8 hLib7 w8
        go_wp2_with fail
        refine (Tryd.strings_Repeat { data := #[0] } Z _ (by omega) (by show 1 * Z ≤ _; omega)).mono ?_
        rintro e w9 ⟨rfl, hB9⟩
        rw [show (⟨(Lib.repeatL ({ data := #[0] } : ByteArray).data.toList Z).toArray⟩ : ByteArray) = str (List.replicate Z 0) from by rw [← repeat_zero]; rfl]
        have hbd9 := builder_kept hbd7 hB9
        have hs9 := hB9.size
        have bw9 : Below W.heap.size W6 w9 := bw7.trans (hB9.mono (by omega))
        clear hbd7 hB9 bw7
        go_wp2_with fail
        refine (writeString_any (W.heap.size + 1) W.heap.size _ (List.replicate Z 0) _ hbd9 (by have := HNO.out; simp; omega) (by omega)).mono ?_
        rintro e w10 ⟨⟨v10, rfl⟩, hbd10, hk10⟩
        have hs10 := hk10.size
        have bw10 : Below W.heap.size W6 w10 := bw9.trans (hk10.below (Nat.le_refl _) (by omega))
        have cg10 := (bw10.cell (p := ⟨w1.heap.size, 0, none⟩) (by show w1.heap.size < W.heap.size; omega)).trans CG
        have hr10 : Reads w10 W.heap.size 1 A G (bv gl) := by
          have h := Reads.of_own HO6.out
          rw [s6] at h
          exact h.below bw10
        have hA10 : ∀ ad, A = some ad → ad.block ≠ W.heap.size := by
          intro ad e
          rcases HO6.out.2 with ⟨e1, _⟩ | ⟨g, cap, cur, e1, _, hh, _⟩
          · injection e1 with e1
            rw [e] at e1; cases e1
          · injection e1 with e1
            rw [e] at e1
            injection e1 with e1
            have := (Array.getElem?_eq_some_iff.1 hh).1
            rw [e1]
            show g ≠ _
            omega
        have hl10 : (o.take AT ++ List.replicate Z 0).length = AT := by
          have := HNO.out
          have := HZ.out
          rw [List.length_append, List.length_take, List.length_replicate]
          omega
        have HL10 := Lib.hid hl10
        clear hbd9 hk10 bw9 hl10
        go_wp2_with fail
        refine (write_any (W.heap.size + 1) W.heap.size W.heap.size _ gl A G c w10 hbd10 hr10 (by omega) hA10 (by rw [HL10.out]; omega) (by omega)).mono ?_
        rintro e w11 ⟨⟨v11, rfl⟩, hbd11, hk11⟩
        obtain ⟨TT, hTT⟩ : ∃ TT, TT = o.take AT ++ List.replicate Z 0 ++ gl := ⟨_, rfl⟩
        rw [← hTT] at hbd11
        have hTl : TT.length = AT + G := by rw [hTT, List.length_append, HL10.out, HGG.out]
        have hs11 := hk11.size
        have bw11 : Below W.heap.size W6 w11 := bw10.trans (hk11.below (Nat.le_refl _) (by omega))
        have P5 := (bw11.cell (p := ⟨w.heap.size, 5, none⟩) (by show w.heap.size < W.heap.size; omega)).trans P5
        have HTT := Lib.hid hTT
        have HTL := Lib.hid hTl
        have HB11 := Lib.hid bw11
        clear hbd10 hr10 hA10 bw10 hk11 cg10 hTT hTl bw11
        have hTX0 : o.take (p.seek.toNat * p.out.toNat) ++ List.replicate (p.seek.toNat * p.out.toNat - o.length) 0 ++ gl = TT := by
          rw [HK1.out, HQ1.out]
          show o.take (sk * q) ++ List.replicate (sk * q - o.length) 0 ++ gl = TT
          rw [← HAT.out, HTT.out, HZ.out, HNO.out]
        have HTX0 := Lib.hid hTX0
        have hX4 : X = .tuple #[.string (str (textV p gl o)), .agg #[.int .i64 (N0 : Int), .int .i64 (N1 : Int), .int .i64 (Qn : Int), .int .i64 (mn : Int)], .int .i64 0] := by
          have hqq : p.out.toNat = q := by rw [HQ1.out]; rfl
          have hkk : p.seek.toNat = sk := by rw [HK1.out]; rfl
          have hgg : (goesV p s).length = G := by rw [← HGL.out, HGG.out]
          have e1 := HNS.out
          have e2 := HNO.out
          rw [hX2.out, runV_yes p s o HP.out (by omega) (by omega) (by rw [hqq, hkk, hgg, ← HAT.out]; omega), hqq, hgg, ← HGL.out, ← HN0.out, ← HN1.out, ← HQN.out, ← HRN.out]
          have hmm : mn = min Rn 1 := by omega
          rw [hmm]
          rfl
        have HX4 := Lib.hid hX4
        clear hTX0 hX4
        by_cases hkf : p.keep = true
        · rw [hkf] at P5
          have HKF := Lib.hid hkf
          clear hkf
          have hLib11 := hbd11.lib
          obtain ⟨E, hE⟩ : ∃ E, E = AT + G := ⟨_, rfl⟩
          have hbl : (bv TT).length = E := by rw [bv_length, HTL.out, hE]
          have HBL := Lib.hid hbl
          have HE := Lib.hid hE
          have hEb : E ≤ 1048576 := by omega
          clear hbl hE
          go_wp2_with fail
          refine (Tryd.Builder_Len W.heap.size W.heap.size _ w11 hLib11).mono ?_
          rintro e w8 ⟨rfl, hw8⟩
          rw [hw8, HBL.out]
          clear hw8 w8
          by_cases hlt : E < no
          · have hI4 : (E : Int) < (no : Int) := by omega
            have hex : (str o).extract E no = str (o.drop E) := by rw [← hos, str_from]
            have HEX := Lib.hid hex
            clear hex
            go_wp2_with fail
            refine (Tryd.Builder_Len W.heap.size W.heap.size _ w11 hLib11).mono ?_
            rintro e w8 ⟨rfl, hw8⟩
            rw [hw8, HBL.out]
            clear hw8 w8
            go_wp2_with fail
            rw [HEX.out]
            refine (writeString_any (W.heap.size + 1) W.heap.size TT (o.drop E) w11 hbd11 (by rw [HTL.out, List.length_drop, ← HNO.out]; omega) (by omega)).mono ?_
            rintro e w13 ⟨⟨v13, rfl⟩, hbd13, hk13⟩
            have hs13 := hk13.size
            have bw13 : Below W.heap.size W6 w13 := HB11.out.trans (hk13.below (Nat.le_refl _) (by omega))
            clear hk13 hbd11 hLib11
            go_wp2_with fail
            have HL : Lib.IsBuilder 50 5 W.heap.size W.heap.size (Lib.byteCells (TT ++ o.drop E)) w13 := hbd13.lib
            have HLd : Lib.IsBuilder 50 5 W.heap.size W.heap.size (Lib.byteCells (TT ++ o.drop E)) w13.drew := HL
            have k11 := HK6.out.below bw13 (by omega)
            have c0 := k11.cell 0
            have c1 := k11.cell 1
            have c2 := k11.cell 2
            have c3 := k11.cell 3
            simp at c0 c1 c2 c3
            have HK11 := Lib.hid k11
            have HWL := Lib.hid (show W.heap.size ≤ w13.heap.size by omega)
            have HTX := Lib.hid (show textV p gl o = TT ++ o.drop E from by unfold textV; rw [if_pos HKF.out, HTX0.out, HTL.out, HE.out])
            clear k11 P1 P4 CG
            go_region_held3 (fun w' => w'.cell? ⟨w.heap.size + 1, 0, none⟩ = some (.int .i64 (N0 : Int)) ∧ w'.cell? ⟨w.heap.size + 1, 1, none⟩ = some (.int .i64 (N1 : Int)) ∧ w'.cell? ⟨w.heap.size + 1, 2, none⟩ = some (.int .i64 (Qn : Int)) ∧ w'.cell? ⟨w.heap.size + 1, 3, none⟩ = some (.int .i64 (mn : Int)))
              (first | exact ⟨c0, c1, c2, c3⟩ | exact ⟨d0, d1, d2, d3⟩ | exact ⟨z0, z1, z2, z3⟩ | go_keep)
              (first | (go_at_call 20; (first | refine (Tryd.Builder_String_any W.heap.size W.heap.size (TT ++ o.drop E) _ HL HWL.out).mono ?_ | refine (Tryd.Builder_String_any W.heap.size W.heap.size (TT ++ o.drop E) _ HLd HWL.out).mono ?_); rintro e w12 ⟨rfl, hB12⟩; have k12 : Blk w12 (w.heap.size + 1) 27 #[.int .i64 (N0 : Int), .int .i64 (N1 : Int), .int .i64 (Qn : Int), .int .i64 (mn : Int)] := (by first | exact Blk.below HK11.out hB12 (by omega) | exact Blk.below (Blk.drew HK11.out) hB12 (by omega)); have d0 : w12.cell? ⟨w.heap.size + 1, 0, none⟩ = some (.int .i64 (N0 : Int)) := k12.cell 0; have d1 : w12.cell? ⟨w.heap.size + 1, 1, none⟩ = some (.int .i64 (N1 : Int)) := k12.cell 1; have d2 : w12.cell? ⟨w.heap.size + 1, 2, none⟩ = some (.int .i64 (Qn : Int)) := k12.cell 2; have d3 : w12.cell? ⟨w.heap.size + 1, 3, none⟩ = some (.int .i64 (mn : Int)) := k12.cell 3; have f0 := k12.frozen 0; have f1 := k12.frozen 1; have f2 := k12.frozen 2; have f3 := k12.frozen 3; have k13 : Blk ((((w12.setCell ⟨w.heap.size + 1, 0, none⟩ (.int .i64 (N0 : Int))).setCell ⟨w.heap.size + 1, 1, none⟩ (.int .i64 (N1 : Int))).setCell ⟨w.heap.size + 1, 2, none⟩ (.int .i64 (Qn : Int))).setCell ⟨w.heap.size + 1, 3, none⟩ (.int .i64 (mn : Int))) (w.heap.size + 1) 27 #[.int .i64 (N0 : Int), .int .i64 (N1 : Int), .int .i64 (Qn : Int), .int .i64 (mn : Int)] := (((k12.set_ 0 _).set_ 1 _).set_ 2 _).set_ 3 _; have z0 := k13.cell 0; have z1 := k13.cell 1; have z2 := k13.cell 2; have z3 := k13.cell 3))
            have hDlt : D < W.heap.size := (Array.getElem?_eq_some_iff.1 HDEF.out).1
            obtain ⟨W14, hW14⟩ : ∃ W14, W14 = (((w12.setCell ⟨w.heap.size + 1, 0, none⟩ (.int .i64 (N0 : Int))).setCell ⟨w.heap.size + 1, 1, none⟩ (.int .i64 (N1 : Int))).setCell ⟨w.heap.size + 1, 2, none⟩ (.int .i64 (Qn : Int))).setCell ⟨w.heap.size + 1, 3, none⟩ (.int .i64 (mn : Int)) := ⟨_, rfl⟩
            rw [← hW14]
            have k14 : Blk W14 (w.heap.size + 1) 27 #[.int .i64 (N0 : Int), .int .i64 (N1 : Int), .int .i64 (Qn : Int), .int .i64 (mn : Int)] := by rw [hW14]; exact (((k12.set_ 0 _).set_ 1 _).set_ 2 _).set_ 3 _
            have hne7 : ∀ (j : Nat), D ≠ (⟨w.heap.size + 1, j, none⟩ : Addr).block := fun j => by show D ≠ w.heap.size + 1; omega
            have hd12 : w12.heap[D]? = some (.deferred (some [])) := ((hB12.block D hDlt).trans (show _ = W6.heap[D]? from bw13.block D hDlt)).trans HD6.out
            have d14 : W14.heap[D]? = some (.deferred (some [])) := by
              rw [hW14]
              exact (Below.heap_setCell _ _ _ D (hne7 3)).trans ((Below.heap_setCell _ _ _ D (hne7 2)).trans ((Below.heap_setCell _ _ _ D (hne7 1)).trans ((Below.heap_setCell _ _ _ D (hne7 0)).trans hd12)))
            have hle7 : ∀ (j : Nat), w.heap.size ≤ (⟨w.heap.size + 1, j, none⟩ : Addr).block := fun j => by show w.heap.size ≤ w.heap.size + 1; omega
            have b12 : Below w.heap.size w w12 := by
              have hz : Below w.heap.size w w13 := b6.trans (bw13.mono (by omega))
              first | exact hz.trans (hB12.mono (by omega)) | exact (Below.drew hz).trans (hB12.mono (by omega))
            have b14 : Below w.heap.size w W14 := by rw [hW14]; exact (((b12.setCell (hle7 0) _).setCell (hle7 1) _).setCell (hle7 2) _).setCell (hle7 3) _
            clear hW14
            simp only [Exit.then]
            go_wp2_with fail
            refine ⟨by simp, .inl ⟨_, _, rfl, run_takeDeferred d14, ?_⟩⟩
            refine ⟨_, results_run _ _ (w.heap.size + 1) _ _ _ rfl rfl rfl ((World.putObj_heap_other (by omega)).trans k14) rfl, by rw [HX4.out, HTX.out]; rfl, below_putD b14 (by omega) _⟩
          · have hI4 : ¬ (E : Int) < (no : Int) := by omega
            clear hLib11
            go_wp2_with fail
            have HL : Lib.IsBuilder 50 5 W.heap.size W.heap.size (Lib.byteCells TT) w11 := hbd11.lib
            have HLd : Lib.IsBuilder 50 5 W.heap.size W.heap.size (Lib.byteCells TT) w11.drew := HL
            have k11 := HK6.out.below HB11.out (by omega)
            have c0 := k11.cell 0
            have c1 := k11.cell 1
            have c2 := k11.cell 2
            have c3 := k11.cell 3
            simp at c0 c1 c2 c3
            have HK11 := Lib.hid k11
            have HWL := Lib.hid (show W.heap.size ≤ w11.heap.size by omega)
            have HTX := Lib.hid (show textV p gl o = TT from by unfold textV; rw [if_pos HKF.out, HTX0.out, HTL.out, List.drop_eq_nil_of_le (by rw [← HNO.out]; have := HE.out; omega), List.append_nil])
            clear k11 P1 P4 CG
            go_region_held3 (fun w' => w'.cell? ⟨w.heap.size + 1, 0, none⟩ = some (.int .i64 (N0 : Int)) ∧ w'.cell? ⟨w.heap.size + 1, 1, none⟩ = some (.int .i64 (N1 : Int)) ∧ w'.cell? ⟨w.heap.size + 1, 2, none⟩ = some (.int .i64 (Qn : Int)) ∧ w'.cell? ⟨w.heap.size + 1, 3, none⟩ = some (.int .i64 (mn : Int)))
              (first | exact ⟨c0, c1, c2, c3⟩ | exact ⟨d0, d1, d2, d3⟩ | exact ⟨z0, z1, z2, z3⟩ | go_keep)
              (first | (go_at_call 20; (first | refine (Tryd.Builder_String_any W.heap.size W.heap.size TT _ HL HWL.out).mono ?_ | refine (Tryd.Builder_String_any W.heap.size W.heap.size TT _ HLd HWL.out).mono ?_); rintro e w12 ⟨rfl, hB12⟩; have k12 : Blk w12 (w.heap.size + 1) 27 #[.int .i64 (N0 : Int), .int .i64 (N1 : Int), .int .i64 (Qn : Int), .int .i64 (mn : Int)] := (by first | exact Blk.below HK11.out hB12 (by omega) | exact Blk.below (Blk.drew HK11.out) hB12 (by omega)); have d0 : w12.cell? ⟨w.heap.size + 1, 0, none⟩ = some (.int .i64 (N0 : Int)) := k12.cell 0; have d1 : w12.cell? ⟨w.heap.size + 1, 1, none⟩ = some (.int .i64 (N1 : Int)) := k12.cell 1; have d2 : w12.cell? ⟨w.heap.size + 1, 2, none⟩ = some (.int .i64 (Qn : Int)) := k12.cell 2; have d3 : w12.cell? ⟨w.heap.size + 1, 3, none⟩ = some (.int .i64 (mn : Int)) := k12.cell 3; have f0 := k12.frozen 0; have f1 := k12.frozen 1; have f2 := k12.frozen 2; have f3 := k12.frozen 3; have k13 : Blk ((((w12.setCell ⟨w.heap.size + 1, 0, none⟩ (.int .i64 (N0 : Int))).setCell ⟨w.heap.size + 1, 1, none⟩ (.int .i64 (N1 : Int))).setCell ⟨w.heap.size + 1, 2, none⟩ (.int .i64 (Qn : Int))).setCell ⟨w.heap.size + 1, 3, none⟩ (.int .i64 (mn : Int))) (w.heap.size + 1) 27 #[.int .i64 (N0 : Int), .int .i64 (N1 : Int), .int .i64 (Qn : Int), .int .i64 (mn : Int)] := (((k12.set_ 0 _).set_ 1 _).set_ 2 _).set_ 3 _; have z0 := k13.cell 0; have z1 := k13.cell 1; have z2 := k13.cell 2; have z3 := k13.cell 3))
            have hDlt : D < W.heap.size := (Array.getElem?_eq_some_iff.1 HDEF.out).1
            obtain ⟨W14, hW14⟩ : ∃ W14, W14 = (((w12.setCell ⟨w.heap.size + 1, 0, none⟩ (.int .i64 (N0 : Int))).setCell ⟨w.heap.size + 1, 1, none⟩ (.int .i64 (N1 : Int))).setCell ⟨w.heap.size + 1, 2, none⟩ (.int .i64 (Qn : Int))).setCell ⟨w.heap.size + 1, 3, none⟩ (.int .i64 (mn : Int)) := ⟨_, rfl⟩
            rw [← hW14]
            have k14 : Blk W14 (w.heap.size + 1) 27 #[.int .i64 (N0 : Int), .int .i64 (N1 : Int), .int .i64 (Qn : Int), .int .i64 (mn : Int)] := by rw [hW14]; exact (((k12.set_ 0 _).set_ 1 _).set_ 2 _).set_ 3 _
            have hne7 : ∀ (j : Nat), D ≠ (⟨w.heap.size + 1, j, none⟩ : Addr).block := fun j => by show D ≠ w.heap.size + 1; omega
            have hd12 : w12.heap[D]? = some (.deferred (some [])) := ((hB12.block D hDlt).trans (show _ = W6.heap[D]? from HB11.out.block D hDlt)).trans HD6.out
            have d14 : W14.heap[D]? = some (.deferred (some [])) := by
              rw [hW14]
              exact (Below.heap_setCell _ _ _ D (hne7 3)).trans ((Below.heap_setCell _ _ _ D (hne7 2)).trans ((Below.heap_setCell _ _ _ D (hne7 1)).trans ((Below.heap_setCell _ _ _ D (hne7 0)).trans hd12)))
            have hle7 : ∀ (j : Nat), w.heap.size ≤ (⟨w.heap.size + 1, j, none⟩ : Addr).block := fun j => by show w.heap.size ≤ w.heap.size + 1; omega
            have b12 : Below w.heap.size w w12 := by
              have hz : Below w.heap.size w w11 := b6.trans (HB11.out.mono (by omega))
              first | exact hz.trans (hB12.mono (by omega)) | exact (Below.drew hz).trans (hB12.mono (by omega))
            have b14 : Below w.heap.size w W14 := by rw [hW14]; exact (((b12.setCell (hle7 0) _).setCell (hle7 1) _).setCell (hle7 2) _).setCell (hle7 3) _
            clear hW14
            simp only [Exit.then]
            go_wp2_with fail
            refine ⟨by simp, .inl ⟨_, _, rfl, run_takeDeferred d14, ?_⟩⟩
            refine ⟨_, results_run _ _ (w.heap.size + 1) _ _ _ rfl rfl rfl ((World.putObj_heap_other (by omega)).trans k14) rfl, by rw [HX4.out, HTX.out]; rfl, below_putD b14 (by omega) _⟩
        · have hkf2 : p.keep = false := by simpa using hkf
          rw [hkf2] at P5
          have HKF := Lib.hid hkf
          clear hkf hkf2
          go_wp2_with fail
          have HL : Lib.IsBuilder 50 5 W.heap.size W.heap.size (Lib.byteCells TT) w11 := hbd11.lib
          have HLd : Lib.IsBuilder 50 5 W.heap.size W.heap.size (Lib.byteCells TT) w11.drew := HL
          have k11 := HK6.out.below HB11.out (by omega)
          have c0 := k11.cell 0
          have c1 := k11.cell 1
          have c2 := k11.cell 2
          have c3 := k11.cell 3
          simp at c0 c1 c2 c3
          have HK11 := Lib.hid k11
          have HWL := Lib.hid (show W.heap.size ≤ w11.heap.size by omega)
          have HTX := Lib.hid (show textV p gl o = TT from by unfold textV; rw [if_neg HKF.out, HTX0.out])
          clear k11 P1 P4 CG
          go_region_held3 (fun w' => w'.cell? ⟨w.heap.size + 1, 0, none⟩ = some (.int .i64 (N0 : Int)) ∧ w'.cell? ⟨w.heap.size + 1, 1, none⟩ = some (.int .i64 (N1 : Int)) ∧ w'.cell? ⟨w.heap.size + 1, 2, none⟩ = some (.int .i64 (Qn : Int)) ∧ w'.cell? ⟨w.heap.size + 1, 3, none⟩ = some (.int .i64 (mn : Int)))
            (first | exact ⟨c0, c1, c2, c3⟩ | exact ⟨d0, d1, d2, d3⟩ | exact ⟨z0, z1, z2, z3⟩ | go_keep)
            (first | (go_at_call 20; (first | refine (Tryd.Builder_String_any W.heap.size W.heap.size TT _ HL HWL.out).mono ?_ | refine (Tryd.Builder_String_any W.heap.size W.heap.size TT _ HLd HWL.out).mono ?_); rintro e w12 ⟨rfl, hB12⟩; have k12 : Blk w12 (w.heap.size + 1) 27 #[.int .i64 (N0 : Int), .int .i64 (N1 : Int), .int .i64 (Qn : Int), .int .i64 (mn : Int)] := (by first | exact Blk.below HK11.out hB12 (by omega) | exact Blk.below (Blk.drew HK11.out) hB12 (by omega)); have d0 : w12.cell? ⟨w.heap.size + 1, 0, none⟩ = some (.int .i64 (N0 : Int)) := k12.cell 0; have d1 : w12.cell? ⟨w.heap.size + 1, 1, none⟩ = some (.int .i64 (N1 : Int)) := k12.cell 1; have d2 : w12.cell? ⟨w.heap.size + 1, 2, none⟩ = some (.int .i64 (Qn : Int)) := k12.cell 2; have d3 : w12.cell? ⟨w.heap.size + 1, 3, none⟩ = some (.int .i64 (mn : Int)) := k12.cell 3; have f0 := k12.frozen 0; have f1 := k12.frozen 1; have f2 := k12.frozen 2; have f3 := k12.frozen 3; have k13 : Blk ((((w12.setCell ⟨w.heap.size + 1, 0, none⟩ (.int .i64 (N0 : Int))).setCell ⟨w.heap.size + 1, 1, none⟩ (.int .i64 (N1 : Int))).setCell ⟨w.heap.size + 1, 2, none⟩ (.int .i64 (Qn : Int))).setCell ⟨w.heap.size + 1, 3, none⟩ (.int .i64 (mn : Int))) (w.heap.size + 1) 27 #[.int .i64 (N0 : Int), .int .i64 (N1 : Int), .int .i64 (Qn : Int), .int .i64 (mn : Int)] := (((k12.set_ 0 _).set_ 1 _).set_ 2 _).set_ 3 _; have z0 := k13.cell 0; have z1 := k13.cell 1; have z2 := k13.cell 2; have z3 := k13.cell 3))
          have hDlt : D < W.heap.size := (Array.getElem?_eq_some_iff.1 HDEF.out).1
          obtain ⟨W14, hW14⟩ : ∃ W14, W14 = (((w12.setCell ⟨w.heap.size + 1, 0, none⟩ (.int .i64 (N0 : Int))).setCell ⟨w.heap.size + 1, 1, none⟩ (.int .i64 (N1 : Int))).setCell ⟨w.heap.size + 1, 2, none⟩ (.int .i64 (Qn : Int))).setCell ⟨w.heap.size + 1, 3, none⟩ (.int .i64 (mn : Int)) := ⟨_, rfl⟩
          rw [← hW14]
          have k14 : Blk W14 (w.heap.size + 1) 27 #[.int .i64 (N0 : Int), .int .i64 (N1 : Int), .int .i64 (Qn : Int), .int .i64 (mn : Int)] := by rw [hW14]; exact (((k12.set_ 0 _).set_ 1 _).set_ 2 _).set_ 3 _
          have hne7 : ∀ (j : Nat), D ≠ (⟨w.heap.size + 1, j, none⟩ : Addr).block := fun j => by show D ≠ w.heap.size + 1; omega
          have hd12 : w12.heap[D]? = some (.deferred (some [])) := ((hB12.block D hDlt).trans (show _ = W6.heap[D]? from HB11.out.block D hDlt)).trans HD6.out
          have d14 : W14.heap[D]? = some (.deferred (some [])) := by
            rw [hW14]
            exact (Below.heap_setCell _ _ _ D (hne7 3)).trans ((Below.heap_setCell _ _ _ D (hne7 2)).trans ((Below.heap_setCell _ _ _ D (hne7 1)).trans ((Below.heap_setCell _ _ _ D (hne7 0)).trans hd12)))
          have hle7 : ∀ (j : Nat), w.heap.size ≤ (⟨w.heap.size + 1, j, none⟩ : Addr).block := fun j => by show w.heap.size ≤ w.heap.size + 1; omega
          have b12 : Below w.heap.size w w12 := by
            have hz : Below w.heap.size w w11 := b6.trans (HB11.out.mono (by omega))
            first | exact hz.trans (hB12.mono (by omega)) | exact (Below.drew hz).trans (hB12.mono (by omega))
          have b14 : Below w.heap.size w W14 := by rw [hW14]; exact (((b12.setCell (hle7 0) _).setCell (hle7 1) _).setCell (hle7 2) _).setCell (hle7 3) _
          clear hW14
          simp only [Exit.then]
          go_wp2_with fail
          refine ⟨by simp, .inl ⟨_, _, rfl, run_takeDeferred d14, ?_⟩⟩
          refine ⟨_, results_run _ _ (w.heap.size + 1) _ _ _ rfl rfl rfl ((World.putObj_heap_other (by omega)).trans k14) rfl, by rw [HX4.out, HTX.out]; rfl, below_putD b14 (by omega) _⟩)
theorem run_any (p : PlanV) (s o : List UInt8) (w : World) (hs : s.length ≤ 1073741824) (ho : o.length ≤ 1073741824) :
    Calls Tryd.prog 10 #[p.val, .string (str s), .string (str o)] w fun e w' => e = .returned (runRes (runV p s o)) ∧ Below w.heap.size w w' := by
  by_cases hp : p.ok
  · by_cases hl : 1048576 < max s.length o.length
    · exact run_bad p s o w (.inr hl) hs ho
    · exact run_good p hp s o w (by omega) (by omega)
  · exact run_bad p s o w (.inl hp) hs ho
end Go.Proofs.YtiffmdfchibpaaaDoor
