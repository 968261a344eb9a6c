/-
  The document's own things of a pattern: its contract; Check.
-/
import Derived.Test.YtafiadlkfjacnaaGlobRefBrk
import Derived.Test.YtafiadlkfjacnaaGlobThings
import Derived.Test.YtafiadlkfjacnaaGlobLaws
import Derived.Deep.DeepCutAuto
namespace Go.Proofs.Ytafiadlkfjacnaa
open Go.RowKit

def tcT : Thing → Array Value
  | none => tc true (fun _ => false)
  | some f => tc false f
def tcV (t : Thing) : List Value := (tcT t).toList
theorem tcT_size (t : Thing) : (tcT t).size = 257 := by cases t <;> exact tc_size _ _
theorem tcV_len (t : Thing) : (tcV t).length = 257 := by unfold tcV; rw [Array.length_toList, tcT_size]
theorem tcV_one (t : Thing) : ∀ u ∈ tcV t, u.oneCell' = true := by
  intro u hu
  have h : (tcT t).all (·.oneCell') = true := by cases t <;> exact tc_one _ _
  exact Array.all_eq_true_iff_forall_mem.1 h u (by simpa [tcV] using hu)
theorem fill_one (n : Nat) (hn : n = 257) (cs : Array Value) (h : cs.size = 257) : Instr.fill (fun i => some (i * n, n)) ((Array.range (1 * n)).map ((Value.agg f257).cells[· % (Value.agg f257).cells.size]!)) [(0, .agg cs)] = some cs := by
  subst hn
  have e1 : Instr.fill (fun i => some (i * 257, 257)) ((Array.range (1 * 257)).map ((Value.agg f257).cells[· % (Value.agg f257).cells.size]!)) [(0, .agg cs)] = some (cs.zipIdx.foldl (fun cs (x : Value × Nat) => cs.setIfInBounds (0 * 257 + x.2) x.1) ((Array.range (1 * 257)).map (f257[· % f257.size]!))) := by
    have hc : (Value.agg cs).cells = cs := rfl
    simp only [Instr.fill, hc, h]
    simp
    rfl
  rw [e1]
  congr 1
  obtain ⟨h1, h2⟩ := Go.Great.foldl_set (0 * 257) cs.toList 0 ((Array.range (1 * 257)).map (f257[· % f257.size]!))
  rw [← Array.foldl_toList, Array.toList_zipIdx]
  apply Array.ext_getElem?
  intro k
  rw [h2 k]
  by_cases hk : k < 257
  · rw [if_pos ⟨by omega, by rw [Array.length_toList]; omega, by rw [Array.size_map, Array.size_range]; omega⟩]
    simp
  · rw [if_neg (by rw [Array.length_toList]; omega), Array.getElem?_eq_none (by rw [Array.size_map, Array.size_range]; omega), Array.getElem?_eq_none (by omega)]
theorem built_star : Try.prog.built 53 [(0, .bool true)] = some (tcT none) := by kernel_rfl
theorem cells_any {w : World} {n : Nat} (hn : w.heap.size = n) (cs : Array Value) (t : TypeId) : ∀ j u, cs.toList[j]? = some u → (w.alloc (.cells cs t)).cell? ((⟨n, 0, none⟩ : Addr).add j) = some u := by
  subst hn
  exact cells_new w cs t
theorem step_buildOne {P : Program} {ops : Array Oper} {o : Oper} {a : Act} {w : World} {K : Act → World → Prop} {Q : Exit → Act → World → Prop} {E : Prop} (hgd : o.guard = none) (t e : TypeId) (x : Operand) (ho : o.op = .buildSlice t 1 #[(0, x)])
    (X : Array Value) (hx : a.eval x = .agg X) (ie : TypeInfo) (z : Value)
    (hu : P.underlying t = some (.slice e)) (hie : P.info? e = some ie) (hz : ie.zero = some z) (hsmall : ¬ 1 * ie.size > 2 ^ 24) (hpos : ¬ 1 * ie.size = 0)
    (hf : Instr.fill (fun i => some (i * ie.size, ie.size)) ((Array.range (1 * ie.size)).map (z.cells[· % z.cells.size]!)) [(0, .agg X)] = some X)
    (h : K (a.put o.dst (.slice (some ⟨w.heap.size, 0, none⟩) 1 1)) (w.alloc (.cells X e))) :
    if Region.wanted o (yielded ops a.tmps) = true then Oper.wp P o a w K Q else E := by
  have hw : Region.wanted o (yielded ops a.tmps) = true := by simp [Region.wanted, hgd]
  rw [if_pos hw]
  exact wp_buildSlice t e 1 _ ho X ie z hu hie hz hsmall hpos (by simp only [List.map_toArray, List.map_cons, List.map_nil, hx]; exact hf) h
theorem reads_new (w : World) (X : Array Value) (h : X.toList.length = 1 * 257) : Reads (w.alloc (.cells X 53)) (w.heap.size + 1) 257 (some ⟨w.heap.size, 0, none⟩) 1 X.toList :=
  ⟨h, fun _ => ⟨_, rfl, Nat.lt_succ_self _, cells_any rfl _ _⟩⟩
theorem Two_size {w wr : World} (h : Below w.heap.size w wr) : w.heap.size ≤ wr.heap.size := h.size

/-- How far Things is. -/
def RThSt (L : List UInt8) (B : Nat) (w : World) (l i : Value) (wr : World) : Prop :=
  ∃ (q : Nat) (ts : List Thing), i = .int .i64 q ∧ q ≤ L.length ∧ ts.length ≤ q ∧ wr.ownsRow B 53 257 l ts.length (sv tcV ts) ∧ Below B w wr ∧ Hid (parse L = (parse (L.drop q)).map (ts ++ ·))
theorem RThSt.next {L : List UInt8} {B : Nat} {w w' : World} {q q' : Nat} {c : UInt8} {R : List UInt8} {ts : List Thing} {t : Thing} {v : Value} {x : Int} (hp : parse L = (parse (L.drop q)).map (ts ++ ·)) (hd : L.drop q = c :: R)
    (hn : nextP (c :: R) = some (t, L.drop q')) (hx : x = (q' : Int)) (hq : q' ≤ L.length) (hqq : q < q') (hts : ts.length ≤ q) (hown : w'.ownsRow B 53 257 v (ts.length + 1) (sv tcV ts ++ tcV t)) (hB : Below B w w') : RThSt L B w v (.int .i64 x) w' := by
  refine ⟨q', ts ++ [t], by rw [hx], hq, by simp; omega, by rw [sv_append]; simpa [sv] using hown, hB, hide ?_⟩
  rw [hp, hd, parse_cons, hn]
  cases hr : parse (L.drop q') <;> simp [hr]
/-- What the document takes a pattern for. -/
def RPatIs (L : List UInt8) (base : Nat) (w' : World) (e : Ending) : Prop :=
  if 4096 < L.length then e = .returned (.tuple #[.slice none 0 0, .bool false])
  else match parse L with
    | none => e = .returned (.tuple #[.slice none 0 0, .bool false])
    | some ts => ∃ v, e = .returned (.tuple #[v, .bool true]) ∧ w'.ownsRow base 53 257 v ts.length (sv tcV ts) ∧ ts.length ≤ 4096
/-- What stands at a bracket. -/
theorem brack_close {L : List UInt8} {q n : Nat} (h : closeAt (L.drop (fromOf L q + 1)) = some n) (R : List UInt8) (hR : L.drop (q + 1) = R) :
    fromOf L q + 1 + n < L.length ∧ nextP (91 :: R) = some (some (fun c => brk ((L.drop (fromOf L q)).take (n + 1)) c != notOf R), L.drop (fromOf L q + 1 + n + 1)) := by
  have hn := closeAt_lt h
  rw [List.length_drop] at hn
  have hin : L.drop (fromOf L q) = insideOf R := by
    unfold fromOf
    rw [hR]
    cases R with
    | nil => exact hR
    | cons c r =>
      by_cases hc : c = 33
      · subst hc
        have := (drop_at L (q + 1) 33 r hR).2.1
        exact this
      · rw [(insideOf_ne c r hc).2, (insideOf_ne c r hc).1]
        exact hR
  refine ⟨by omega, ?_⟩
  rw [nextP_brack]
  unfold brackOf
  rw [← hin]
  cases hd : L.drop (fromOf L q) with
  | nil => rw [List.drop_eq_nil_iff] at hd; omega
  | cons a tl =>
    obtain ⟨_, h2, _⟩ := drop_at _ _ _ _ hd
    rw [h2] at h
    simp only [h]
    rw [List.take_succ_cons, ← h2, List.drop_drop, show fromOf L q + 1 + (n + 1) = fromOf L q + 1 + n + 1 from by omega]
theorem brack_none {L : List UInt8} {q : Nat} (h : closeAt (L.drop (fromOf L q + 1)) = none) (R : List UInt8) (hR : L.drop (q + 1) = R) :
    nextP (91 :: R) = some (some (· == 91), R) := by
  have hin : L.drop (fromOf L q) = insideOf R := by
    unfold fromOf
    rw [hR]
    cases R with
    | nil => exact hR
    | cons c r =>
      by_cases hc : c = 33
      · subst hc
        have := (drop_at L (q + 1) 33 r hR).2.1
        exact this
      · rw [(insideOf_ne c r hc).2, (insideOf_ne c r hc).1]
        exact hR
  rw [nextP_brack]
  unfold brackOf
  rw [← hin]
  cases hd : L.drop (fromOf L q) with
  | nil => rfl
  | cons a tl =>
    obtain ⟨_, h2, _⟩ := drop_at _ _ _ _ hd
    rw [h2] at h
    simp only [h]
theorem nextP_plain (c : UInt8) (R : List UInt8) (h1 : c ≠ 42) (h2 : c ≠ 63) (h3 : c ≠ 92) (h4 : c ≠ 91) : nextP (c :: R) = some (some (· == c), R) := by
  unfold nextP
  simp only [if_neg h1, if_neg h2, if_neg h3, if_neg h4]


set_option maxRecDepth 100000 in
set_option maxHeartbeats 4000000 in
theorem rthings_any (L : List UInt8) (w : World) (_hL : L.length ≤ 2097152) :
    Calls Try.prog 23 #[.string (str L)] w fun e w' => RPatIs L w.heap.size w' e ∧ Below w.heap.size w w' := by
  obtain ⟨i0, hi0, hz0, hz1, hz2⟩ := info_parts infoTh
  have hs0 : (str L).size = L.length := str_size L
  by_cases hbig : 4096 < L.length
  · go_enter Try.func23, Try.ntmps23
    go_wp2_with fail
    go_ret2
    refine ⟨?_, Below.refl _ _⟩
    unfold RPatIs
    rw [if_pos hbig]
    rfl
  · have hL : L.length ≤ 4096 := by omega
    clear hbig
    go_enter Try.func23, Try.ntmps23
    go_wp2_with fail
    go_loopw [4, 5] (fun l i wr => RThSt L w.heap.size w l i wr) (fun _ i _ => L.length - (intOf i).toNat)
    case atStart => exact ⟨0, [], rfl, Nat.zero_le _, Nat.le_refl _, World.ownsRow_nil _ _ _ _, Below.refl _ _, hide (by rw [List.drop_zero]; cases parse L <;> simp)⟩
    case round =>
      obtain ⟨q, ts, rfl, hq, hts, hown, hB, HP⟩ := hrel
      have hBsz := hB.size
      by_cases hlt : q < L.length
      · obtain ⟨c, R, hd⟩ : ∃ c R, L.drop q = c :: R := by
          cases hd : L.drop q with
          | nil => rw [List.drop_eq_nil_iff] at hd; omega
          | cons c R => exact ⟨c, R, rfl⟩
        obtain ⟨hc, hd1, _⟩ := drop_at L q c R hd
        have hgc := str_at L q c hc
        have HD := Lib.hid hd
        have HD1 := Lib.hid hd1
        clear hd hc hd1

        by_cases h42 : c = 42
        · subst h42
          obtain ⟨X, hX⟩ : ∃ X, X = tcT (none) := ⟨_, rfl⟩
          have hXs : X.size = 257 := by rw [hX]; exact tcT_size _
          have hXl : X.toList.length = 1 * 257 := by rw [hX]; exact tcV_len _
          have hX1 : ∀ u ∈ X.toList, u.oneCell' = true := by rw [hX]; exact tcV_one _
          have hXV : X.toList = tcV (none) := by rw [hX]; rfl
          have hbs : Try.prog.built 53 [(0, .bool true)] = some X := by rw [hX]; exact built_star
          have HXV := Lib.hid hXV
          clear hX hXV
          go_wp2_with (first | (refine wpList_buildTo rfl 53 _ rfl (some 29) rfl X (by simp only [List.map_toArray, List.map_cons, List.map_nil]; exact hbs) ?_) | (refine wpList_buildSlice rfl 43 53 1 _ rfl X i0 _ Try.underlying43 hi0 hz0 (by rw [hz1]; decide) (by rw [hz1]; decide) (by simp only [List.map_toArray, List.map_cons, List.map_nil]; exact fill_one _ hz1 X hXs) ?_) | (at_builtin; refine wpList_append_own _ rfl (.tmp 28) (.tmp 30) 43 rfl w.heap.size 53 i0 (.agg f257) 257 257 Try.underlying43 hi0 hz0 hz1 hz2 rfl (by decide) _ _ _ rfl ((hown).alloc _) ⟨wr.heap.size, 0, none⟩ 1 1 X.toList rfl hXl (cells_any rfl _ _) hX1 (by unfold maxLen; omega) (by omega) (by simp; omega) ?_; intro v4 w4 hown4 hg4 _))
          have hB4 : Below w.heap.size w w4 := ((hB).alloc (by first | omega | (have := hB; have := this.size; omega)) _).grown hg4 (by simp; omega) (own_ge hown)
          go_roundw
          case rel => exact RThSt.next (q' := q + 1) HP HD.out (by rw [HD1.out]; rfl) (by go_num) (by omega) (by omega) hts (by rw [← HXV.out]; exact hown4) hB4
          case measure => simp [intOf]; omega
        have q42 : ((c.toNat : Int) == 42) = false := u8_beq_lit (n := 42) (by omega) h42
        by_cases h63 : c = 63
        · subst h63
          go_wp2_with fail
          obtain ⟨X, hX⟩ : ∃ X, X = tcT (some fun _ => true) := ⟨_, rfl⟩
          have hXs : X.size = 257 := by rw [hX]; exact tcT_size _
          have hXl : X.toList.length = 1 * 257 := by rw [hX]; exact tcV_len _
          have hX1 : ∀ u ∈ X.toList, u.oneCell' = true := by rw [hX]; exact tcV_one _
          have hXV : X.toList = tcV (some fun _ => true) := by rw [hX]; rfl
          refine (revery_any _).mono ?_
          rintro e w2 ⟨he, hB2⟩
          replace he : e = .returned (.agg X) := by rw [he, hX]; rfl
          have HXV := Lib.hid hXV
          clear hX hXV
          subst he
          have hown2 := own_below hown hB2
          have hs2 := hB2.size
          go_wp2_with (first | (refine wpList_buildSlice rfl 43 53 1 _ rfl X i0 _ Try.underlying43 hi0 hz0 (by rw [hz1]; decide) (by rw [hz1]; decide) (by simp only [List.map_toArray, List.map_cons, List.map_nil]; exact fill_one _ hz1 X hXs) ?_) | (at_builtin; refine wpList_append_own _ rfl (.tmp 34) (.tmp 36) 43 rfl w.heap.size 53 i0 (.agg f257) 257 257 Try.underlying43 hi0 hz0 hz1 hz2 rfl (by decide) _ _ _ rfl ((hown2).alloc _) ⟨w2.heap.size, 0, none⟩ 1 1 X.toList rfl hXl (cells_any rfl _ _) hX1 (by unfold maxLen; omega) (by omega) (by simp; omega) ?_; intro v4 w4 hown4 hg4 _))
          have hB4 : Below w.heap.size w w4 := ((below_then hB hBsz hB2).alloc (by first | omega | (have := below_then hB hBsz hB2; have := this.size; omega)) _).grown hg4 (by simp; omega) (own_ge hown)
          go_roundw
          case rel => exact RThSt.next (q' := q + 1) HP HD.out (by rw [HD1.out]; rfl) (by go_num) (by omega) (by omega) hts (by rw [← HXV.out]; exact hown4) hB4
          case measure => simp [intOf]; omega
        have q63 : ((c.toNat : Int) == 63) = false := u8_beq_lit (n := 63) (by omega) h63
        by_cases h92 : c = 92
        · subst h92
          by_cases hlt2 : q + 1 < L.length
          · obtain ⟨x, R2, rfl⟩ : ∃ x R2, R = x :: R2 := by
              cases R with
              | nil => have := HD1.out; rw [List.drop_eq_nil_iff] at this; omega
              | cons x R2 => exact ⟨x, R2, rfl⟩
            obtain ⟨hx, hd2, _⟩ := drop_at L (q + 1) x R2 HD1.out
            have hgx := str_at L (q + 1) x hx
            have HD2 := Lib.hid hd2
            clear hx hd2
            go_wp2_with fail
            obtain ⟨X, hX⟩ : ∃ X, X = tcT (some fun d => d == x) := ⟨_, rfl⟩
            have hXs : X.size = 257 := by rw [hX]; exact tcT_size _
            have hXl : X.toList.length = 1 * 257 := by rw [hX]; exact tcV_len _
            have hX1 : ∀ u ∈ X.toList, u.oneCell' = true := by rw [hX]; exact tcV_one _
            have hXV : X.toList = tcV (some fun d => d == x) := by rw [hX]; rfl
            refine (rone_any x _).mono ?_
            rintro e w2 ⟨he, hB2⟩
            replace he : e = .returned (.agg X) := by rw [he, hX]; rfl
            have HXV := Lib.hid hXV
            clear hX hXV
            subst he
            have hown2 := own_below hown hB2
            have hs2 := hB2.size
            go_wp2_with (first | (refine wpList_buildSlice rfl 43 53 1 _ rfl X i0 _ Try.underlying43 hi0 hz0 (by rw [hz1]; decide) (by rw [hz1]; decide) (by simp only [List.map_toArray, List.map_cons, List.map_nil]; exact fill_one _ hz1 X hXs) ?_) | (at_builtin; refine wpList_append_own _ rfl (.tmp 46) (.tmp 51) 43 rfl w.heap.size 53 i0 (.agg f257) 257 257 Try.underlying43 hi0 hz0 hz1 hz2 rfl (by decide) _ _ _ rfl ((hown2).alloc _) ⟨w2.heap.size, 0, none⟩ 1 1 X.toList rfl hXl (cells_any rfl _ _) hX1 (by unfold maxLen; omega) (by omega) (by simp; omega) ?_; intro v4 w4 hown4 hg4 _))
            have hB4 : Below w.heap.size w w4 := ((below_then hB hBsz hB2).alloc (by first | omega | (have := below_then hB hBsz hB2; have := this.size; omega)) _).grown hg4 (by simp; omega) (own_ge hown)
            go_roundw
            case rel => exact RThSt.next (q' := q + 2) HP HD.out (by rw [HD2.out]; rfl) (by go_num) (by omega) (by omega) hts (by rw [← HXV.out]; exact hown4) hB4
            case measure => simp [intOf]; omega
          · have hRnil : R = [] := by
              have := HD1.out
              rw [List.drop_eq_nil_of_le (by omega)] at this
              exact this.symm
            have HRN := Lib.hid hRnil
            clear hRnil
            go_wp2_with fail
            go_ret2
            refine ⟨?_, hB⟩
            unfold RPatIs
            rw [if_neg (by omega), HP, HD.out, HRN.out, parse_back_end]
            rfl
        have q92 : ((c.toNat : Int) == 92) = false := u8_beq_lit (n := 92) (by omega) h92
        by_cases h91 : c = 91
        · subst h91
          go_wp2_with fail
          refine (rclosing_any L q _ hlt hL).mono ?_
          rintro e w2 ⟨hC, hB2⟩
          have hown2 := own_below hown hB2
          have hs2 := hB2.size
          have hBf := below_then hB hBsz hB2
          unfold CloseIs at hC
          cases hcl : closeAt (L.drop (fromOf L q + 1)) with
          | none =>
            rw [hcl] at hC
            have HCL := Lib.hid hcl
            clear hcl
            subst hC
            go_wp2_with fail
            obtain ⟨X, hX⟩ : ∃ X, X = tcT (some fun d => d == 91) := ⟨_, rfl⟩
            have hXs : X.size = 257 := by rw [hX]; exact tcT_size _
            have hXl : X.toList.length = 1 * 257 := by rw [hX]; exact tcV_len _
            have hX1 : ∀ u ∈ X.toList, u.oneCell' = true := by rw [hX]; exact tcV_one _
            have hXV : X.toList = tcV (some fun d => d == 91) := by rw [hX]; rfl
            refine (rone_any 91 _).mono ?_
            rintro e w3 ⟨he, hB3⟩
            replace he : e = .returned (.agg X) := by rw [he, hX]; rfl
            have HXV := Lib.hid hXV
            clear hX hXV
            subst he
            have hown3 := own_below hown2 hB3
            have hs3 := hB3.size
            go_wp2_with (first | (refine wpList_buildSlice rfl 43 53 1 _ rfl X i0 _ Try.underlying43 hi0 hz0 (by rw [hz1]; decide) (by rw [hz1]; decide) (by simp only [List.map_toArray, List.map_cons, List.map_nil]; exact fill_one _ hz1 X hXs) ?_) | (at_builtin; refine wpList_append_own _ rfl (.tmp 77) (.tmp 79) 43 rfl w.heap.size 53 i0 (.agg f257) 257 257 Try.underlying43 hi0 hz0 hz1 hz2 rfl (by decide) _ _ _ rfl ((hown3).alloc _) ⟨w3.heap.size, 0, none⟩ 1 1 X.toList rfl hXl (cells_any rfl _ _) hX1 (by unfold maxLen; omega) (by omega) (by simp; omega) ?_; intro v4 w4 hown4 hg4 _))
            have hB4 : Below w.heap.size w w4 := ((below_then hBf (by omega) hB3).alloc (by first | omega | (have := below_then hBf (by omega) hB3; have := this.size; omega)) _).grown hg4 (by simp; omega) (own_ge hown)
            go_roundw
            case rel => exact RThSt.next (q' := q + 1) HP HD.out (by rw [brack_none HCL.out _ HD1.out, HD1.out]) (by go_num) (by omega) (by omega) hts (by rw [← HXV.out]; exact hown4) hB4
            case measure => simp [intOf]; omega
          | some n =>
            rw [hcl] at hC
            obtain ⟨hto, hnx⟩ := brack_close hcl R HD1.out
            have hfrom : q + 1 ≤ fromOf L q := by unfold fromOf; split <;> omega
            obtain ⟨F, hF⟩ : ∃ F, F = fromOf L q := ⟨_, rfl⟩
            rw [← hF] at hto hnx hC hfrom
            have HCL := Lib.hid hcl
            have HNX := Lib.hid hnx
            have HF := Lib.hid hF
            clear hcl hnx hF
            subst hC
            obtain ⟨x, R2, rfl⟩ : ∃ x R2, R = x :: R2 := by
              cases R with
              | nil => have := HD1.out; rw [List.drop_eq_nil_iff] at this; omega
              | cons x R2 => exact ⟨x, R2, rfl⟩
            obtain ⟨hx, _, hlt1⟩ := drop_at L (q + 1) x R2 HD1.out
            have hgx := str_at L (q + 1) x hx
            have hnot : ((x.toNat : Int) == 33) = notOf (x :: R2) := by
              by_cases h : x = 33
              · subst h; rfl
              · rw [(insideOf_ne x R2 h).2]; exact u8_beq_lit (n := 33) (by omega) h
            have hsl : (str L).extract F (F + 1 + n) = str ((L.drop F).take (n + 1)) := by
              have e : L.toArray.extract F (F + 1 + n) = ((L.drop F).take (n + 1)).toArray := by
                rw [List.extract_toArray, List.extract_eq_take_drop, show F + 1 + n - F = n + 1 from by omega]
              show (⟨L.toArray⟩ : ByteArray).extract F (F + 1 + n) = _
              apply ByteArray.ext
              rw [ByteArray.data_extract]
              exact e
            have hlen : ((L.drop F).take (n + 1)).length ≤ 4096 := by rw [List.length_take]; omega
            obtain ⟨X, hX⟩ : ∃ X, X = tcT (some fun c => brk ((L.drop F).take (n + 1)) c != notOf (x :: R2)) := ⟨_, rfl⟩
            have hXs : X.size = 257 := by rw [hX]; exact tcT_size _
            have hXl : X.toList.length = 1 * 257 := by rw [hX]; exact tcV_len _
            have hX1 : ∀ u ∈ X.toList, u.oneCell' = true := by rw [hX]; exact tcV_one _
            have hXV : X.toList = tcV (some fun c => brk ((L.drop F).take (n + 1)) c != notOf (x :: R2)) := by rw [hX]; rfl
            obtain ⟨I, hI⟩ : ∃ I, I = (L.drop F).take (n + 1) := ⟨_, rfl⟩
            obtain ⟨b, hb⟩ : ∃ b, b = notOf (x :: R2) := ⟨_, rfl⟩
            rw [← hI] at hsl hlen hX hXV
            rw [← hb] at hnot hX hXV
            have HNX2 := Lib.hid (show nextP (91 :: x :: R2) = some (some fun c => brk I c != b, L.drop (F + 1 + n + 1)) from by rw [hI, hb]; exact HNX.out)
            have HXV := Lib.hid hXV
            have HX := Lib.hid hX
            clear hx hI hb hX hXV
            have hrun : ∀ w' : World, (Instr.slice 9 (.string (str L)) (some (.int .i64 (F : Int))) (some (.int .i64 ((F : Int) + 1 + (n : Int)))) none).run Try.prog w' = .ok (.string (str I)) w' := by
              intro w'
              have h := run_slice_string (P := Try.prog) w' 9 (str L) .i64 .i64 (F : Int) ((F : Int) + 1 + (n : Int)) Try.underlying9 (by omega) (by omega) (by rw [hs0]; omega)
              rw [h, show (F : Int).toNat = F from by omega, show ((F : Int) + 1 + (n : Int)).toNat = F + 1 + n from by omega, hsl]
            have ew : IntKind.i64.wrap ((q : Int) + 1) = (q : Int) + 1 := by rw [IntKind.wrap_i64]; omega
            have e0 : 0 ≤ (q : Int) + 1 := by omega
            have e1 : (q : Int) + 1 < (L.length : Int) := by omega
            have e2 : ((q : Int) + 1).toNat = q + 1 := by omega
            clear hsl
            go_upto_region 20 with fail
            go_region_law ((first
              | (refine step_append_any _ rfl (.tmp 63) (.tmp 74) 43 rfl w.heap.size 53 i0 (.agg f257) 257 257 Try.underlying43 hi0 hz0 hz1 hz2 rfl (by decide) _ _ _ (by simp [Act.eval]) (hown3.alloc _) (w3.heap.size + 1) (some ⟨w3.heap.size, 0, none⟩) 1 1 X.toList (by simp [Act.eval]) (reads_new w3 X hXl) hX1 (by unfold maxLen; omega) (by omega) (by simp; omega) ?_; intro v4 w4 hown4 hg4 _)
              | (go_simp; refine (rbracket_any I b _ hlen).mono ?_; rintro e w3 ⟨he, hB3⟩; replace he : e = .returned (.agg X) := (by rw [he, HX.out]; rfl); subst he; have hown3 := own_below (show w2.drew.ownsRow w.heap.size 53 257 u4 ts.length (sv tcV ts) from hown2) hB3; have hs3 : w2.heap.size ≤ w3.heap.size := hB3.size; rename_i K hK; refine hK _ _ ?_; clear hK K; refine wpAny_ready (rs := [11]) (by kernel_rfl) (by simp) ?_; refine AllReady.cons rfl (fun K hK => ?_) AllReady.nil; refine step_buildOne rfl 43 53 (.tmp 73) rfl X (by simp [Act.eval]) i0 _ Try.underlying43 hi0 hz0 (by rw [hz1]; decide) (by rw [hz1]; decide) (fill_one _ hz1 X hXs) ?_; refine hK _ _ ?_; clear hK K)))
            have hB4 : Below w.heap.size w w4 := ((below_then (below_drewN hBf 1) (by show w.heap.size ≤ w2.heap.size; omega) hB3).alloc (by omega) _).grown hg4 (by simp; omega) (own_ge hown)
            go_wp2_with fail
            go_roundw
            case rel => exact RThSt.next (q' := F + 1 + n + 1) HP HD.out HNX2.out (by go_num) (by omega) (by omega) hts (by rw [← HXV.out]; exact hown4) hB4
            case measure => simp [intOf]; omega
        have q91 : ((c.toNat : Int) == 91) = false := u8_beq_lit (n := 91) (by omega) h91
        have HNP := Lib.hid (nextP_plain c R h42 h63 h92 h91)
        clear h42 h63 h92 h91
        go_wp2_with fail
        obtain ⟨X, hX⟩ : ∃ X, X = tcT (some fun d => d == c) := ⟨_, rfl⟩
        have hXs : X.size = 257 := by rw [hX]; exact tcT_size _
        have hXl : X.toList.length = 1 * 257 := by rw [hX]; exact tcV_len _
        have hX1 : ∀ u ∈ X.toList, u.oneCell' = true := by rw [hX]; exact tcV_one _
        have hXV : X.toList = tcV (some fun d => d == c) := by rw [hX]; rfl
        refine (rone_any c _).mono ?_
        rintro e w2 ⟨he, hB2⟩
        replace he : e = .returned (.agg X) := by rw [he, hX]; rfl
        have HXV := Lib.hid hXV
        clear hX hXV
        subst he
        have hown2 := own_below hown hB2
        have hs2 := hB2.size
        go_wp2_with (first | (refine wpList_buildSlice rfl 43 53 1 _ rfl X i0 _ Try.underlying43 hi0 hz0 (by rw [hz1]; decide) (by rw [hz1]; decide) (by simp only [List.map_toArray, List.map_cons, List.map_nil]; exact fill_one _ hz1 X hXs) ?_) | (at_builtin; refine wpList_append_own _ rfl (.tmp 19) (.tmp 24) 43 rfl w.heap.size 53 i0 (.agg f257) 257 257 Try.underlying43 hi0 hz0 hz1 hz2 rfl (by decide) _ _ _ rfl ((hown2).alloc _) ⟨w2.heap.size, 0, none⟩ 1 1 X.toList rfl hXl (cells_any rfl _ _) hX1 (by unfold maxLen; omega) (by omega) (by simp; omega) ?_; intro v4 w4 hown4 hg4 _))
        have hB4 : Below w.heap.size w w4 := ((below_then hB hBsz hB2).alloc (by first | omega | (have := below_then hB hBsz hB2; have := this.size; omega)) _).grown hg4 (by simp; omega) (own_ge hown)
        go_roundw
        case rel => exact RThSt.next (q' := q + 1) HP HD.out (by rw [HNP.out, HD1.out]) (by go_num) (by omega) (by omega) hts (by rw [← HXV.out]; exact hown4) hB4
        case measure => simp [intOf]; omega
      · have hdn : L.drop q = [] := List.drop_eq_nil_of_le (by omega)
        have HDN := Lib.hid hdn
        clear hdn
        go_wp2_with fail
        go_ret2
        refine ⟨?_, hB⟩
        unfold RPatIs
        rw [if_neg (by omega), HP, HDN.out, parse_nil]
        exact ⟨u4, rfl, by simpa using hown, by simp; omega⟩
end Go.Proofs.Ytafiadlkfjacnaa
