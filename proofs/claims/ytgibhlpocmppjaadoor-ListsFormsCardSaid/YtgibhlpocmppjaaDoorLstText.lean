/-
  lists.Text: its contract.
-/
import Derived.Test.YtgibhlpocmppjaaDoorLstHas
import Derived.Test.YtgibhlpocmppjaaDoorLstPlace
import Derived.Test.YtgibhlpocmppjaaDoorKept
import Derived.Deep.RegionWith
import Derived.Deep.DeepCutAuto
namespace Go.Proofs.YtgibhlpocmppjaaDoor
open Go.RowKit

theorem Reads.take {w : World} {B n m : Nat} {A : Option Addr} {L : List UInt8} (h : Reads w B 1 A n (bv L)) (hm : m ≤ n) : Reads w B 1 A m (bv (L.take m)) := by
  have hl : L.length = n := by have := h.1; simp [bv] at this; exact this
  refine ⟨by rw [bv_length, List.length_take]; omega, fun h0 => ?_⟩
  obtain ⟨ad, e, hlt, hc⟩ := h.2 (by omega)
  refine ⟨ad, e, hlt, fun j u hu => hc j u ?_⟩
  have hj : j < m := by have := (List.getElem?_eq_some_iff.1 hu).1; rw [bv_length, List.length_take] at this; omega
  simp only [bv, List.getElem?_map, List.getElem?_take, if_pos hj] at hu ⊢
  exact hu
theorem own_cap1 {w : World} {base n c : Nat} {e : TypeId} {A : Option Addr} {xs : List Value} (h : w.ownsRow base e 1 (.slice A n c) n xs) : n ≤ c ∧ c ≤ 9223372036854775807 := by
  rcases h.2 with ⟨e1, h0⟩ | ⟨g, cap, cur, hv, _, _, hnc, hcm, _⟩
  · injection e1 with _ h1 h2; omega
  · injection hv with _ _ h2; subst h2; exact ⟨hnc, hcm⟩
def one1 (r : Rng) : List UInt8 := rngT r ++ [44]
def catT (l : List Rng) : List UInt8 := l.flatMap one1
theorem catT_snoc (l : List Rng) (k : Nat) (h : k < l.length) : catT (l.take (k + 1)) = catT (l.take k) ++ rngT l[k] ++ [44] := by
  unfold catT
  rw [List.take_succ_eq_append_getElem h, List.flatMap_append, List.flatMap_cons, List.flatMap_nil, List.append_nil, one1, List.append_assoc]
theorem catT_le (l : List Rng) (k : Nat) : (catT (l.take k)).length ≤ (catT l).length := by
  have h : catT l = catT (l.take k) ++ catT (l.drop k) := by
    unfold catT
    rw [← List.flatMap_append, List.take_append_drop]
  rw [h, List.length_append]
  omega
def joinT (l : List Rng) : List UInt8 := (catT l).dropLast
def TextIs (l : List Rng) (e : Ending) : Prop :=
  if l = [] ∨ l.any badV = true then e = .returned (.tuple #[.string (str []), .int .i64 1])
  else if 4097 < (catT l).length then e = .returned (.tuple #[.string (str []), .int .i64 3])
  else e = .returned (.tuple #[.string (str (joinT l)), .int .i64 0])
theorem itoa_len (v : Int) (h1 : 0 ≤ v) (h2 : v ≤ 2147483647) : (Lib.itoa v).length ≤ 10 := by
  unfold Lib.itoa
  rw [if_neg (by omega)]
  exact digits_len 9 _ (by omega)
theorem byteCells_bv (l : List UInt8) : Lib.byteCells l = bv l := rfl
theorem one_reads (w : World) (u : Value) (t : TypeId) : Reads (w.alloc (.cells #[u] t)) (w.heap.size + 1) 1 (some ⟨w.heap.size, 0, none⟩) 1 [u] :=
  ⟨rfl, fun _ => ⟨_, rfl, Nat.lt_succ_self _, fun j x hx => by
    match j, hx with
    | 0, hx => cases hx; simp [Addr.add]⟩⟩
theorem tab_up {B : Nat} {w w' : World} (h : Lib.TabBelow Tryd.prog B w "internal/strconv.uint64pow10" .u64 Lib.pow10Tab) (hb : Below B w w') (B' : Nat) (hB : B ≤ B') : Lib.TabBelow Tryd.prog B' w' "internal/strconv.uint64pow10" .u64 Lib.pow10Tab :=
  fun _ h' => h _ (hb.trans (h'.mono hB))

set_option maxRecDepth 100000 in
set_option maxHeartbeats 4000000 in
theorem text_any (B : Nat) (A : Option Addr) (n c : Nat) (l : List Rng) (w : World) (hr : Reads w w.heap.size 2 A n (rngv l)) (hn : n ≤ 140737488351232) (hE : Lib.TabBelow Tryd.prog B w "internal/strconv.uint64pow10" .u64 Lib.pow10Tab) (hBw : B ≤ w.heap.size) :
    Calls Tryd.prog 10 #[.slice A n c] w fun e w' => TextIs l e ∧ Below w.heap.size w w' := by
  obtain ⟨i0, hi, hz0, hz1, hz2⟩ := info_parts infoU8
  have hl : l.length = n := by have := hr.1; rw [sv_length _ 2 rng1_len] at this; omega
  have HL := Lib.hid hl
  have HE := Lib.hid hE
  clear hl hE
  by_cases hn0 : n = 0
  · subst hn0
    have hnil : l = [] := List.eq_nil_of_length_eq_zero HL.out
    have HN := Lib.hid hnil
    clear hnil
    go_enter Tryd.func10, Tryd.ntmps10
    go_wp2_with fail
    go_ret2
    refine ⟨?_, Below.refl _ _⟩
    unfold TextIs
    rw [if_pos (.inl HN.out)]
    rfl
  · have hne : l ≠ [] := fun e => hn0 (by rw [← HL.out, e]; rfl)
    have hq0 : ((n : Int) == 0) = false := by simp; omega
    have HNE := Lib.hid hne
    clear hne
    cases hbad : l.any badV with
    | true =>
      have HBAD := Lib.hid hbad
      clear hbad
      go_enter Tryd.func10, Tryd.ntmps10
      go_wp2_with fail
      refine (containsBad_any A n c l w hr hn).mono ?_
      rintro e w1 ⟨rfl, hB1⟩
      rw [HBAD.out]
      go_wp2_with fail
      go_ret2
      refine ⟨?_, hB1⟩
      unfold TextIs
      rw [if_pos (.inr HBAD.out)]
      rfl
    | false =>
      have hok : ∀ q (h : q < l.length), rngOk l[q] = true := fun q h => by
        rw [List.any_eq_false] at hbad
        have := hbad l[q] (List.getElem_mem h)
        unfold badV at this
        simpa using this
      have HOK := Lib.hid hok
      have HBAD := Lib.hid hbad
      clear hbad hok
      go_enter Tryd.func10, Tryd.ntmps10
      go_wp2_with fail
      refine (containsBad_any A n c l w hr hn).mono ?_
      rintro e w1 ⟨rfl, hB1⟩
      rw [HBAD.out]
      have hr1 := (hr.below hB1).more hB1.size
      have HE1 := Lib.hid (tab_up HE.out (hB1.mono hBw) w1.heap.size (by have := hB1.size; omega))
      go_wp2_with fail
      go_loopw [4, 16] (fun v i wr => ∃ q : Nat, q ≤ n ∧ i = .int .i64 q ∧ (catT (l.take q)).length ≤ 4097 ∧ wr.ownsRow w1.heap.size 5 1 v (catT (l.take q)).length (bv (catT (l.take q))) ∧ Below w1.heap.size w1 wr) (fun _ i _ => n - (intOf i).toNat)
      case atStart => exact ⟨0, Nat.zero_le _, rfl, by simp [catT], World.ownsRow_nil _ _ _ _, Below.refl _ _⟩
      case round =>
        obtain ⟨q, hq, rfl, hcl, hown, hBr⟩ := hrel
        have hBsz := hBr.size
        by_cases hlt : q < n
        · have hql : q < l.length := by rw [HL.out]; exact hlt
          obtain ⟨ad, rfl, had, hce0, hce1⟩ := (hr1.below hBr).elem rng1_len hlt HL.out (by omega)
          have c0 := hce0 _ rfl
          have c1 := hce1 0 _ rfl
          have hrk := HOK.out q hql
          have HSN := Lib.hid (catT_snoc l q hql)
          have HLE := Lib.hid (catT_le l (q + 1))
          obtain ⟨r, hre⟩ : ∃ r, r = l[q] := ⟨_, rfl⟩
          rw [← hre] at c0 c1 hrk HSN
          clear hce0 hce1 hre
          rw [rngOk_iff] at hrk
          obtain ⟨ok1, ok2, ok3, ok4⟩ := hrk
          have hk1 := itoa_len r.fr (by omega) ok2
          obtain ⟨m, hm⟩ : ∃ m, m = (catT (l.take q)).length := ⟨_, rfl⟩
          rw [← hm] at hown hcl
          have HM := Lib.hid hm
          clear hm
          go_wp2_with fail
          have hbx := Blk.new wr 41 #[.int .i64 r.fr, .int .i64 r.to]
          have hBx : Below w1.heap.size w1 (wr.alloc (.cells #[.int .i64 r.fr, .int .i64 r.to] 41)) := hBr.alloc hBsz _
          refine (Go.Proofs.Tryd.strconv_AppendInt_10 w1.heap.size m r.fr (by omega) (by omega) _ (bv (catT (l.take q))) _ (hown.alloc _) hBx.size (by omega) (HE1.out.on hBx)).mono ?_
          rintro e w2 ⟨v2, rfl, hown2, hB2, hkept2⟩
          rw [byteCells_bv, show bv (catT (l.take q)) ++ bv (Lib.itoa r.fr) = bv (catT (l.take q) ++ Lib.itoa r.fr) from by simp [bv]] at hown2
          have hbx2 : Blk w2 wr.heap.size 41 #[.int .i64 r.fr, .int .i64 r.to] := hkept2 _ _ hbx (by simp) (fun c fz e => by injection e with _ e _; exact absurd e (by decide))
          have hB12 := hBx.trans hB2
          have hs12 := hB12.size
          have d0 : w2.cell? ⟨wr.heap.size, 0, none⟩ = some (.int .i64 r.fr) := hbx2.cell 0
          have d1 : w2.cell? ⟨wr.heap.size, 1, none⟩ = some (.int .i64 r.to) := hbx2.cell 1
          obtain ⟨k2, hk2⟩ : ∃ k, k = m + (Lib.itoa r.fr).length := ⟨_, rfl⟩
          rw [← hk2] at hown2
          have hk2b : k2 ≤ 4107 := by omega
          have HK2 := Lib.hid hk2
          have HBX2 := Lib.hid hbx2
          have HBX := Lib.hid hBx
          clear hk2 hB2 hkept2 hbx hbx2 hBx c0 c1
          by_cases h0 : r.to = 0
          · have q0 := int_eq_true h0
            have HRT := Lib.hid (show rngT r = Lib.itoa r.fr ++ [45] by unfold rngT; rw [if_pos h0])
            clear h0
            have HTE := Lib.hid (show catT (l.take (q + 1)) = (catT (l.take q) ++ Lib.itoa r.fr) ++ [45] ++ [44] by rw [HSN.out, HRT.out]; simp)
            have hc5 : (catT (l.take (q + 1))).length = k2 + 1 + 1 := by rw [HTE.out, List.length_append]; have h1 := HM.out; have h2 := HK2.out; simp; omega
            by_cases hbg : 4097 < k2 + 1 + 1
            · have HFIN := Lib.hid (show TextIs l (.returned (.tuple #[.string (str []), .int .i64 3])) by
                unfold TextIs
                rw [if_neg (by rw [HBAD.out]; simp; exact HNE.out), if_pos (by have := HLE.out; omega)])
              clear hc5
              go_wp2_with (first | (at_builtin; refine wpList_append_any _ rfl (.tmp 28) (.tmp 29) 44 rfl w1.heap.size 5 i0 (.int .u8 0) 1 1 Tryd.underlying44 hi hz0 hz1 hz2 rfl (by decide) _ _ _ rfl (hown2.alloc _) (w2.heap.size + 1) (some ⟨w2.heap.size, 0, none⟩) 1 1 [.int .u8 45] rfl (one_reads w2 (.int .u8 45) 5) (by intro u hu; simp at hu; subst hu; rfl) (by unfold maxLen; omega) (by omega) (by simp; omega) ?_; intro v3 w3 hown3 hg3 hat3; have hB3 : Below w1.heap.size w1 w3 := (hB12.alloc (by omega) _).grown hg3 (by simp; omega) (own_ge hown2); have hs3 := hB3.size) | (at_builtin; refine wpList_append_any _ rfl (.tmp 43) (.tmp 44) 44 rfl w1.heap.size 5 i0 (.int .u8 0) 1 1 Tryd.underlying44 hi hz0 hz1 hz2 rfl (by decide) _ _ _ rfl (hown3.alloc _) (w3.heap.size + 1) (some ⟨w3.heap.size, 0, none⟩) 1 1 [.int .u8 44] rfl (one_reads w3 (.int .u8 44) 5) (by intro u hu; simp at hu; subst hu; rfl) (by unfold maxLen; omega) (by omega) (by simp; omega) ?_; intro v5 w5 hown5 hg5 hat5; obtain ⟨A5, cap5, rfl⟩ := own_slice hown5))
              go_ret2
              have hB5 : Below w1.heap.size w1 w5 := (hB3.alloc (by omega) _).grown hg5 (by simp; omega) (own_ge hown3)
              exact ⟨HFIN.out, below_then hB1 hB1.size hB5⟩
            · have HC5 := Lib.hid hc5
              clear hc5
              go_wp2_with (first | (at_builtin; refine wpList_append_any _ rfl (.tmp 28) (.tmp 29) 44 rfl w1.heap.size 5 i0 (.int .u8 0) 1 1 Tryd.underlying44 hi hz0 hz1 hz2 rfl (by decide) _ _ _ rfl (hown2.alloc _) (w2.heap.size + 1) (some ⟨w2.heap.size, 0, none⟩) 1 1 [.int .u8 45] rfl (one_reads w2 (.int .u8 45) 5) (by intro u hu; simp at hu; subst hu; rfl) (by unfold maxLen; omega) (by omega) (by simp; omega) ?_; intro v3 w3 hown3 hg3 hat3; have hB3 : Below w1.heap.size w1 w3 := (hB12.alloc (by omega) _).grown hg3 (by simp; omega) (own_ge hown2); have hs3 := hB3.size) | (at_builtin; refine wpList_append_any _ rfl (.tmp 43) (.tmp 44) 44 rfl w1.heap.size 5 i0 (.int .u8 0) 1 1 Tryd.underlying44 hi hz0 hz1 hz2 rfl (by decide) _ _ _ rfl (hown3.alloc _) (w3.heap.size + 1) (some ⟨w3.heap.size, 0, none⟩) 1 1 [.int .u8 44] rfl (one_reads w3 (.int .u8 44) 5) (by intro u hu; simp at hu; subst hu; rfl) (by unfold maxLen; omega) (by omega) (by simp; omega) ?_; intro v5 w5 hown5 hg5 hat5; obtain ⟨A5, cap5, rfl⟩ := own_slice hown5))
              have hB5 : Below w1.heap.size w1 w5 := (hB3.alloc (by omega) _).grown hg5 (by simp; omega) (own_ge hown3)
              go_roundw
              case rel => exact ⟨q + 1, by omega, by go_num, by rw [HC5.out]; omega, by rw [HC5.out, HTE.out]; simpa [bv] using hown5, hB5⟩
              case measure => simp [intOf]; omega
          · have q0 := int_eq_false h0
            by_cases h1 : r.fr < r.to
            · have HRT := Lib.hid (show rngT r = Lib.itoa r.fr ++ 45 :: Lib.itoa r.to by unfold rngT; rw [if_neg h0, if_pos h1])
              have hk3 := itoa_len r.to (by omega) ok3
              clear h0
              obtain ⟨k3, hk3e⟩ : ∃ k, k = k2 + 1 + (Lib.itoa r.to).length := ⟨_, rfl⟩
              have hk3b : k3 ≤ 4120 := by omega
              have HK3 := Lib.hid hk3e
              clear hk3e
              go_upto_region 11 with fail
              have dd : (w2.alloc (.cells #[.int .u8 45] 5)).cell? ⟨wr.heap.size, 1, none⟩ = some (.int .i64 r.to) := (Blk.alloc HBX2.out _).cell 1
              go_region_law ((first | (refine step_append_any _ rfl (.tmp 37) (.tmp 38) 44 rfl w1.heap.size 5 i0 (.int .u8 0) 1 1 Tryd.underlying44 hi hz0 hz1 hz2 rfl (by decide) _ _ _ (by simp [Act.eval]) ((hown2.drew).alloc _) (w2.heap.size + 1) (some ⟨w2.heap.size, 0, none⟩) 1 1 [.int .u8 45] (by simp [Act.eval]) (one_reads w2.drew (.int .u8 45) 5) (by intro u hu; simp at hu; subst hu; rfl) (by unfold maxLen; omega) (by omega) (by simp; omega) ?_; intro v3 w3 hown3 hg3 hat3; have hB3 : Below w1.heap.size w1 w3 := ((below_drewN hB12 1).alloc (by show w1.heap.size ≤ w2.heap.size; omega) _).grown hg3 (by simp; omega) (own_ge hown2); have hs3 := hB3.size; have hbx3 : Blk w3 wr.heap.size 41 #[.int .i64 r.fr, .int .i64 r.to] := Blk.grown (Blk.alloc (Blk.drew HBX2.out) _) hg3 (fun e => own_blk_ne hown2 HBX2.out (by decide) e.symm); have e1 : w3.cell? ⟨wr.heap.size, 1, none⟩ = some (.int .i64 r.to) := hbx3.cell 1) | (go_simp; refine (Go.Proofs.Tryd.strconv_AppendInt_10 w1.heap.size (k2 + 1) r.to (by omega) (by omega) _ _ _ hown3 hs3 (by omega) (HE1.out.on hB3)).mono ?_; rintro e w4 ⟨v4, rfl, hown4, hB4, hkept4⟩)))
              all_goals
                rw [byteCells_bv] at hown4
                have hown4' : w4.ownsRow w1.heap.size 5 1 v4 k3 (bv ((catT (l.take q) ++ Lib.itoa r.fr) ++ [45] ++ Lib.itoa r.to)) := by
                  have h := hown4
                  rw [← HK3.out] at h
                  simpa [bv] using h
                have hB34 : Below w1.heap.size w1 w4 := hB3.trans hB4
                have hs4 := hB34.size
                clear hown4 hkept4 hB4
                have HTE := Lib.hid (show catT (l.take (q + 1)) = ((catT (l.take q) ++ Lib.itoa r.fr) ++ [45] ++ Lib.itoa r.to) ++ [44] by rw [HSN.out, HRT.out]; simp)
                have hc5 : (catT (l.take (q + 1))).length = k3 + 1 := by rw [HTE.out, List.length_append]; have h1 := HM.out; have h2 := HK2.out; have h3 := HK3.out; simp; omega
                by_cases hbg : 4097 < k3 + 1
                · have HFIN := Lib.hid (show TextIs l (.returned (.tuple #[.string (str []), .int .i64 3])) by
                    unfold TextIs
                    rw [if_neg (by rw [HBAD.out]; simp; exact HNE.out), if_pos (by have := HLE.out; omega)])
                  clear hc5
                  go_wp2_with (at_builtin; refine wpList_append_any _ rfl (.tmp 43) (.tmp 44) 44 rfl w1.heap.size 5 i0 (.int .u8 0) 1 1 Tryd.underlying44 hi hz0 hz1 hz2 rfl (by decide) _ _ _ rfl (hown4'.alloc _) (w4.heap.size + 1) (some ⟨w4.heap.size, 0, none⟩) 1 1 [.int .u8 44] rfl (one_reads w4 (.int .u8 44) 5) (by intro u hu; simp at hu; subst hu; rfl) (by unfold maxLen; omega) (by omega) (by simp; omega) ?_; intro v5 w5 hown5 hg5 hat5; obtain ⟨A5, cap5, rfl⟩ := own_slice hown5)
                  go_ret2
                  have hB5 : Below w1.heap.size w1 w5 := (hB34.alloc (by omega) _).grown hg5 (by simp; omega) (own_ge hown4')
                  exact ⟨HFIN.out, below_then hB1 hB1.size hB5⟩
                · have HC5 := Lib.hid hc5
                  clear hc5
                  go_wp2_with (at_builtin; refine wpList_append_any _ rfl (.tmp 43) (.tmp 44) 44 rfl w1.heap.size 5 i0 (.int .u8 0) 1 1 Tryd.underlying44 hi hz0 hz1 hz2 rfl (by decide) _ _ _ rfl (hown4'.alloc _) (w4.heap.size + 1) (some ⟨w4.heap.size, 0, none⟩) 1 1 [.int .u8 44] rfl (one_reads w4 (.int .u8 44) 5) (by intro u hu; simp at hu; subst hu; rfl) (by unfold maxLen; omega) (by omega) (by simp; omega) ?_; intro v5 w5 hown5 hg5 hat5; obtain ⟨A5, cap5, rfl⟩ := own_slice hown5)
                  have hB5 : Below w1.heap.size w1 w5 := (hB34.alloc (by omega) _).grown hg5 (by simp; omega) (own_ge hown4')
                  go_roundw
                  case rel => exact ⟨q + 1, by omega, by go_num, by rw [HC5.out]; omega, by rw [HC5.out, HTE.out]; simpa [bv] using hown5, hB5⟩
                  case measure => simp [intOf]; omega
            · have HRT := Lib.hid (show rngT r = Lib.itoa r.fr by unfold rngT; rw [if_neg h0, if_neg h1, List.append_nil])
              clear h0
              have HTE := Lib.hid (show catT (l.take (q + 1)) = (catT (l.take q) ++ Lib.itoa r.fr) ++ [44] by rw [HSN.out, HRT.out])
              have hc5 : (catT (l.take (q + 1))).length = k2 + 1 := by rw [HTE.out, List.length_append]; have h1 := HM.out; have h2 := HK2.out; simp; omega
              by_cases hbg : 4097 < k2 + 1
              · have HFIN := Lib.hid (show TextIs l (.returned (.tuple #[.string (str []), .int .i64 3])) by
                  unfold TextIs
                  rw [if_neg (by rw [HBAD.out]; simp; exact HNE.out), if_pos (by have := HLE.out; omega)])
                clear hc5
                go_wp2_with (at_builtin; refine wpList_append_any _ rfl (.tmp 43) (.tmp 44) 44 rfl w1.heap.size 5 i0 (.int .u8 0) 1 1 Tryd.underlying44 hi hz0 hz1 hz2 rfl (by decide) _ _ _ rfl (hown2.alloc _) (w2.heap.size + 1) (some ⟨w2.heap.size, 0, none⟩) 1 1 [.int .u8 44] rfl (one_reads w2 (.int .u8 44) 5) (by intro u hu; simp at hu; subst hu; rfl) (by unfold maxLen; omega) (by omega) (by simp; omega) ?_; intro v5 w5 hown5 hg5 hat5; obtain ⟨A5, cap5, rfl⟩ := own_slice hown5)
                go_ret2
                have hB5 : Below w1.heap.size w1 w5 := (hB12.alloc (by omega) _).grown hg5 (by simp; omega) (own_ge hown2)
                exact ⟨HFIN.out, below_then hB1 hB1.size hB5⟩
              · have HC5 := Lib.hid hc5
                clear hc5
                go_wp2_with (at_builtin; refine wpList_append_any _ rfl (.tmp 43) (.tmp 44) 44 rfl w1.heap.size 5 i0 (.int .u8 0) 1 1 Tryd.underlying44 hi hz0 hz1 hz2 rfl (by decide) _ _ _ rfl (hown2.alloc _) (w2.heap.size + 1) (some ⟨w2.heap.size, 0, none⟩) 1 1 [.int .u8 44] rfl (one_reads w2 (.int .u8 44) 5) (by intro u hu; simp at hu; subst hu; rfl) (by unfold maxLen; omega) (by omega) (by simp; omega) ?_; intro v5 w5 hown5 hg5 hat5; obtain ⟨A5, cap5, rfl⟩ := own_slice hown5)
                have hB5 : Below w1.heap.size w1 w5 := (hB12.alloc (by omega) _).grown hg5 (by simp; omega) (own_ge hown2)
                go_roundw
                case rel => exact ⟨q + 1, by omega, by go_num, by rw [HC5.out]; omega, by rw [HC5.out, HTE.out]; simpa [bv] using hown5, hB5⟩
                case measure => simp [intOf]; omega
        · obtain rfl : q = n := by omega
          have htk : l.take q = l := List.take_of_length_le (by rw [HL.out]; exact Nat.le_refl _)
          rw [htk] at hown hcl
          have hcp : 1 ≤ (catT l).length := by
            cases l with
            | nil => exact absurd rfl HNE.out
            | cons a b => simp [catT, one1]; omega
          obtain ⟨A3, cap3, rfl⟩ := own_slice hown
          have hrd := (Reads.of_own hown).take (m := (catT l).length - 1) (by omega)
          have hcap := own_cap1 hown
          have HFIN := Lib.hid (show TextIs l (.returned (.tuple #[.string (str (joinT l)), .int .i64 0])) by
            unfold TextIs
            rw [if_neg (by rw [HBAD.out]; simp; exact HNE.out), if_neg (by omega)])
          have HJ := Lib.hid (show (catT l).take ((catT l).length - 1) = joinT l from (List.dropLast_eq_take).symm)
          rw [HJ.out] at hrd
          obtain ⟨M, hM⟩ : ∃ M, M = (catT l).length := ⟨_, rfl⟩
          rw [← hM] at hcl hcp hrd hcap ⊢
          have hv1 : IntKind.i64.wrap ((M : Int) - 1) = (M : Int) - 1 := by rw [IntKind.wrap_i64]; omega
          have hv2 : ((M : Int) - 1).toNat = M - 1 := by omega
          clear htk hM hown
          go_wp2_with (refine wpList_string_of_bytes _ rfl (.tmp 54) 44 9 5 rfl Tryd.underlying44 Tryd.underlying5 Tryd.underlying9 _ _ _ _ (joinT l) rfl hrd ?_)
          go_ret2
          exact ⟨HFIN.out, below_then hB1 hB1.size hBr⟩
end Go.Proofs.YtgibhlpocmppjaaDoor
