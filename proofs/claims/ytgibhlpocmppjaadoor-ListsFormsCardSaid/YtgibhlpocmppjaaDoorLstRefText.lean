/-
  The document's Text: its contract.
-/
import Derived.Test.YtgibhlpocmppjaaDoorLstDigits
namespace Go.Proofs.YtgibhlpocmppjaaDoor
open Go.RowKit

theorem joinT_snoc (l : List Rng) (k : Nat) (h : k < l.length) : joinT (l.take (k + 1)) = catT (l.take k) ++ rngT l[k] := by
  unfold joinT
  rw [catT_snoc l k h]
  simp
theorem catT_join (l : List Rng) (h : l ≠ []) : catT l = joinT l ++ [44] := by
  obtain ⟨a, b, rfl⟩ : ∃ a b, l = a ++ [b] := ⟨l.dropLast, l.getLast h, (List.dropLast_concat_getLast h).symm⟩
  simp [joinT, catT, one1]
theorem joinT_len (l : List Rng) (h : l ≠ []) : (catT l).length = (joinT l).length + 1 := by rw [catT_join l h]; simp

set_option maxRecDepth 100000 in
set_option maxHeartbeats 4000000 in
theorem refText_any (A : Option Addr) (n c B : Nat) (l : List Rng) (w : World) (hr : Reads w B 2 A n (rngv l)) (hn : n ≤ 140737488351232) (hBw : B ≤ w.heap.size) :
    Calls Tryd.prog 11 #[.slice A n c] w fun e w' => TextIs l e ∧ Below w.heap.size w w' := by
  have hl : l.length = n := by have := hr.1; rw [sv_length _ 2 rng1_len] at this; omega
  have HL := Lib.hid hl
  clear hl
  by_cases hn0 : n = 0
  · subst hn0
    have HN := Lib.hid (List.eq_nil_of_length_eq_zero HL.out)
    go_enter Tryd.func11, Tryd.ntmps11
    go_wp2_with fail
    go_ret2
    refine ⟨?_, Below.refl _ _⟩
    unfold TextIs
    rw [if_pos (.inl HN.out)]
    rfl
  · have hne : l ≠ [] := fun e => hn0 (by rw [← HL.out, e]; rfl)
    have hq0 : ((n : Int) == 0) = false := by simp; omega
    have HNE := Lib.hid hne
    clear hne
    go_enter Tryd.func11, Tryd.ntmps11
    go_wp2_with fail
    go_loopw [4] (fun i wr => ∃ q : Nat, q ≤ n ∧ i = .int .i64 q ∧ Hid (∀ j (hj : j < l.length), j < q → rngOk l[j] = true) ∧ Below w.heap.size w wr) (fun i _ => n - (intOf i).toNat)
    case atStart => exact ⟨0, Nat.zero_le _, rfl, hide fun j _ h => absurd h (by omega), Below.refl _ _⟩
    case round =>
      obtain ⟨q, hq, rfl, hno, hBr⟩ := hrel
      have hBsz := hBr.size
      by_cases hlt : q < n
      · have hql : q < l.length := by rw [HL.out]; exact hlt
        obtain ⟨ad, rfl, had, hce0, hce1⟩ := ((hr.more hBw).below hBr).elem rng1_len hlt HL.out (by omega)
        have c0 := hce0 _ rfl
        have c1 := hce1 0 _ rfl
        obtain ⟨r, hre⟩ : ∃ r, r = l[q] := ⟨_, rfl⟩
        rw [← hre] at c0 c1
        have HRE := Lib.hid hre
        clear hce0 hce1 hre
        obtain ⟨fr, tt⟩ := r
        simp only at c0 c1
        have BAD := Lib.hid (fun (hb : rngOk ⟨fr, tt⟩ = false) => show TextIs l (.returned (.tuple #[.string (str []), .int .i64 1])) by
          unfold TextIs
          rw [if_pos (.inr (by rw [List.any_eq_true]; exact ⟨l[q], List.getElem_mem hql, by rw [← HRE.out]; unfold badV; rw [hb]; rfl⟩))])
        have hBx : Below w.heap.size w (wr.alloc (.cells #[.int .i64 fr, .int .i64 tt] 41)) := hBr.alloc hBsz _
        have HBX := Lib.hid hBx
        clear hBx
        by_cases h1 : fr < 1
        · have HB := Lib.hid (BAD.out (by unfold rngOk; simp; omega))
          go_wp2_with fail
          go_ret2
          exact ⟨HB.out, HBX.out⟩
        by_cases h2 : 2147483647 < fr
        · have HB := Lib.hid (BAD.out (by unfold rngOk; simp; omega))
          go_wp2_with fail
          go_ret2
          exact ⟨HB.out, HBX.out⟩
        by_cases h3 : 2147483647 < tt
        · have HB := Lib.hid (BAD.out (by unfold rngOk; simp; omega))
          go_wp2_with fail
          go_ret2
          exact ⟨HB.out, HBX.out⟩
        have OK := Lib.hid (fun (hb : rngOk ⟨fr, tt⟩ = true) => show ∀ j (hj : j < l.length), j < q + 1 → rngOk l[j] = true from fun j hj hjq => by
          by_cases e : j = q
          · subst e
            rw [← HRE.out, hb]
          · exact hno.out j hj (by omega))
        by_cases h4 : tt = 0
        · have q4 := int_eq_true h4
          have HO := Lib.hid (OK.out (by rw [rngOk_iff]; exact ⟨by show 1 ≤ fr; omega, by show fr ≤ _; omega, by show tt ≤ _; omega, .inl h4⟩))
          clear q4
          subst h4
          go_wp2_with fail
          go_roundw
          case rel => exact ⟨q + 1, by omega, by go_num, HO, HBX.out⟩
          case measure => simp [intOf]; omega
        · have q4 := int_eq_false h4
          by_cases h5 : tt < fr
          · have HB := Lib.hid (BAD.out (by unfold rngOk; simp; omega))
            go_wp2_with fail
            go_ret2
            exact ⟨HB.out, HBX.out⟩
          · have HO := Lib.hid (OK.out (by rw [rngOk_iff]; exact ⟨by show 1 ≤ fr; omega, by show fr ≤ _; omega, by show tt ≤ _; omega, .inr (by show fr ≤ tt; omega)⟩))
            go_wp2_with fail
            go_roundw
            case rel => exact ⟨q + 1, by omega, by go_num, HO, HBX.out⟩
            case measure => simp [intOf]; omega
      · obtain rfl : q = n := by omega
        have HOK := Lib.hid (show ∀ j (hj : j < l.length), rngOk l[j] = true from fun j hj => hno.out j hj (by rw [← HL.out]; exact hj))
        have hbad : l.any badV = false := by
          rw [List.any_eq_false]
          intro r hr
          obtain ⟨j, hj, rfl⟩ := List.getElem_of_mem hr
          unfold badV
          rw [HOK.out j hj]
          decide
        have HBAD := Lib.hid hbad
        have hr1 := (hr.more hBw).below hBr
        obtain ⟨w1, hw1⟩ : ∃ w1, w1 = wr := ⟨_, rfl⟩
        rw [← hw1] at hBr hBsz hr1 ⊢
        clear hbad hno hw1
        go_wp2_with fail
        go_loopw [6, 7] (fun s i wx => ∃ p : Nat, p ≤ q ∧ i = .int .i64 p ∧ s = .string (str (joinT (l.take p))) ∧ Hid ((joinT (l.take p)).length ≤ 4096) ∧ Below w.heap.size w wx) (fun _ i _ => q - (intOf i).toNat)
        case atStart => exact ⟨0, Nat.zero_le _, rfl, rfl, hide (by simp [joinT, catT]), hBr⟩
        case round =>
          obtain ⟨p, hp, rfl, rfl, hlen, hBx⟩ := hrel
          have hBxs := hBx.size
          by_cases hlt : p < q
          · have hpl : p < l.length := by rw [HL.out]; exact hlt
            obtain ⟨ad, rfl, had, hce0, hce1⟩ := ((hr.more hBw).below hBx).elem rng1_len hlt HL.out (by omega)
            have c0 := hce0 _ rfl
            have c1 := hce1 0 _ rfl
            have hok := HOK.out p hpl
            have HSN := Lib.hid (joinT_snoc l p hpl)
            have HLE := Lib.hid (catT_le l (p + 1))
            have hjl : (catT (l.take (p + 1))).length = (joinT (l.take (p + 1))).length + 1 := joinT_len _ (fun e => by
              have h := congrArg List.length e
              rw [List.length_take, Nat.min_eq_left (by omega)] at h
              exact absurd h (by simp))
            have HJL := Lib.hid hjl
            clear hjl
            obtain ⟨r, hre⟩ : ∃ r, r = l[p] := ⟨_, rfl⟩
            rw [← hre] at c0 c1 hok HSN
            clear hce0 hce1 hre
            rw [rngOk_iff] at hok
            obtain ⟨fr, tt⟩ := r
            obtain ⟨ok1, ok2, ok3, ok4⟩ := hok
            simp only at c0 c1 ok1 ok2 ok3 ok4
            obtain ⟨f, rfl⟩ : ∃ f : Nat, fr = f := ⟨fr.toNat, by omega⟩
            obtain ⟨t, rfl⟩ : ∃ t : Nat, tt = t := ⟨tt.toNat, by omega⟩
            have hlf : (Lib.decDigits f).length ≤ 11 := digits_len 10 _ (by omega)
            have hlt2 : (Lib.decDigits t).length ≤ 11 := digits_len 10 _ (by omega)
            have HRF := Lib.hid (fun w => refDigits_any f f w (Nat.le_refl _) (by omega))
            have HRT := Lib.hid (fun w => refDigits_any t t w (Nat.le_refl _) (by omega))
            have hif : Lib.itoa (f : Int) = Lib.decDigits f := itoa_pos _ ok1
            obtain ⟨P, hP⟩ : ∃ P, P = joinT (l.take p) := ⟨_, rfl⟩
            have hsep : catT (l.take p) = P ++ (if p = 0 then [] else [44]) := by
              by_cases h0 : p = 0
              · subst h0; rw [hP]; rfl
              · rw [if_neg h0, hP]
                refine catT_join _ (fun e => ?_)
                have h := congrArg List.length e
                rw [List.length_take, Nat.min_eq_left (by omega)] at h
                exact absurd h (by simpa using h0)
            rw [← hP] at hlen ⊢
            clear hP
            obtain ⟨a, ha⟩ : ∃ a, a = Lib.decDigits f := ⟨_, rfl⟩
            obtain ⟨b, hb⟩ : ∃ b, b = Lib.decDigits t := ⟨_, rfl⟩
            have HHB := Lib.hid hb
            rw [← ha] at hlf HRF hif
            rw [← hb] at hlt2 HRT
            have HSEP := Lib.hid hsep
            have HIF := Lib.hid hif
            have hl1 := hlen.out
            have hz1 := str_size P
            have hz2 := str_size a
            have hz3 := str_size b
            have hz4 : (str P).size ≤ 4096 := by omega
            have hz5 : (str a).size ≤ 11 := by omega
            have hz6 : (str b).size ≤ 11 := by omega
            clear ha hb hsep hif
            by_cases hp0 : p = 0
            · have q0 : decide ((p : Int) > 0) = false := by simp; omega
              have q1 : 3 * p < 2 := by omega
              have HP0 := Lib.hid hp0
              clear hp0
              by_cases h0 : (t : Int) = 0
              · have HS := Lib.hid (show joinT (l.take (p + 1)) = P ++ a ++ [45] by
                  rw [HSN.out, HSEP.out, if_pos HP0.out]
                  unfold rngT
                  simp only
                  rw [if_pos h0]
                  rw [HIF.out]
                  simp)
                obtain ⟨S, hS⟩ : ∃ S, S = joinT (l.take (p + 1)) := ⟨_, rfl⟩
                rw [← hS] at HS HJL
                have HSS := Lib.hid (show str P ++ str a ++ str [45] = str S by rw [HS.out]; simp only [str_append])
                have hSl : S.length = P.length + a.length + 1 := by have h := congrArg List.length HS.out; simp at h; omega
                have HSE := Lib.hid hS
                clear hS
                obtain rfl : t = 0 := by omega
                clear h0
                by_cases hbg : 4096 < S.length
                · have HFIN := Lib.hid (show TextIs l (.returned (.tuple #[.string (str []), .int .i64 3])) by
                    unfold TextIs
                    rw [if_neg (by rw [HBAD.out]; simp; exact HNE.out), if_pos (by have := HLE.out; have := HJL.out; omega)])
                  go_wp2_with fail
                  refine (HRF.out _).mono ?_
                  rintro e w2 ⟨rfl, m2, rfl⟩
                  go_wp2_with fail
                  go_quiet (fail)
                  go_wp2_with fail
                  go_quiet (fail)
                  go_wp2_with fail
                  go_ret2
                  exact ⟨HFIN.out, below_drewN hBx _⟩
                · go_wp2_with fail
                  refine (HRF.out _).mono ?_
                  rintro e w2 ⟨rfl, m2, rfl⟩
                  go_wp2_with fail
                  go_quiet (fail)
                  go_wp2_with fail
                  go_quiet (fail)
                  go_wp2_with fail
                  go_roundw
                  case rel => exact ⟨p + 1, by omega, by go_num, by rw [← HSE.out]; exact congrArg Value.string HSS.out, hide (by rw [← HSE.out]; omega), below_drewN hBx _⟩
                  case measure => simp [intOf]; omega
              · by_cases h1 : (f : Int) < t
                · have HS := Lib.hid (show joinT (l.take (p + 1)) = P ++ a ++ [45] ++ b by
                    rw [HSN.out, HSEP.out, if_pos HP0.out]
                    unfold rngT
                    simp only
                    rw [if_neg h0, if_pos h1, itoa_pos (t : Int) (by omega), show (t : Int).toNat = t from rfl, ← HHB.out]
                    rw [HIF.out]
                    simp)
                  obtain ⟨S, hS⟩ : ∃ S, S = joinT (l.take (p + 1)) := ⟨_, rfl⟩
                  rw [← hS] at HS HJL
                  have HSS := Lib.hid (show str P ++ str a ++ str [45] ++ str b = str S by rw [HS.out]; simp only [str_append])
                  have hSl : S.length = P.length + a.length + 1 + b.length := by have h := congrArg List.length HS.out; simp at h; omega
                  have HSE := Lib.hid hS
                  clear hS
                  clear h0
                  by_cases hbg : 4096 < S.length
                  · have HFIN := Lib.hid (show TextIs l (.returned (.tuple #[.string (str []), .int .i64 3])) by
                      unfold TextIs
                      rw [if_neg (by rw [HBAD.out]; simp; exact HNE.out), if_pos (by have := HLE.out; have := HJL.out; omega)])
                    go_wp2_with fail
                    refine (HRF.out _).mono ?_
                    rintro e w2 ⟨rfl, m2, rfl⟩
                    go_wp2_with fail
                    go_quiet (fail)
                    go_wp2_with fail
                    go_quiet (fail)
                    go_wp2_with fail
                    refine (HRT.out _).mono ?_
                    rintro e w3 ⟨rfl, m3, rfl⟩
                    go_wp2_with fail
                    go_ret2
                    exact ⟨HFIN.out, below_drewN hBx _⟩
                  · go_wp2_with fail
                    refine (HRF.out _).mono ?_
                    rintro e w2 ⟨rfl, m2, rfl⟩
                    go_wp2_with fail
                    go_quiet (fail)
                    go_wp2_with fail
                    go_quiet (fail)
                    go_wp2_with fail
                    refine (HRT.out _).mono ?_
                    rintro e w3 ⟨rfl, m3, rfl⟩
                    go_wp2_with fail
                    go_roundw
                    case rel => exact ⟨p + 1, by omega, by go_num, by rw [← HSE.out]; exact congrArg Value.string HSS.out, hide (by rw [← HSE.out]; omega), below_drewN hBx _⟩
                    case measure => simp [intOf]; omega
                · have HS := Lib.hid (show joinT (l.take (p + 1)) = P ++ a by
                    rw [HSN.out, HSEP.out, if_pos HP0.out]
                    unfold rngT
                    simp only
                    rw [if_neg h0, if_neg h1, List.append_nil]
                    rw [HIF.out]
                    simp)
                  obtain ⟨S, hS⟩ : ∃ S, S = joinT (l.take (p + 1)) := ⟨_, rfl⟩
                  rw [← hS] at HS HJL
                  have HSS := Lib.hid (show str P ++ str a = str S by rw [HS.out]; simp only [str_append])
                  have hSl : S.length = P.length + a.length := by have h := congrArg List.length HS.out; simp at h; omega
                  have HSE := Lib.hid hS
                  clear hS
                  obtain rfl : t = f := by omega
                  by_cases hbg : 4096 < S.length
                  · have HFIN := Lib.hid (show TextIs l (.returned (.tuple #[.string (str []), .int .i64 3])) by
                      unfold TextIs
                      rw [if_neg (by rw [HBAD.out]; simp; exact HNE.out), if_pos (by have := HLE.out; have := HJL.out; omega)])
                    go_wp2_with fail
                    refine (HRF.out _).mono ?_
                    rintro e w2 ⟨rfl, m2, rfl⟩
                    go_wp2_with fail
                    go_quiet (fail)
                    go_wp2_with fail
                    go_quiet (fail)
                    go_wp2_with fail
                    go_ret2
                    exact ⟨HFIN.out, below_drewN hBx _⟩
                  · go_wp2_with fail
                    refine (HRF.out _).mono ?_
                    rintro e w2 ⟨rfl, m2, rfl⟩
                    go_wp2_with fail
                    go_quiet (fail)
                    go_wp2_with fail
                    go_quiet (fail)
                    go_wp2_with fail
                    go_roundw
                    case rel => exact ⟨p + 1, by omega, by go_num, by rw [← HSE.out]; exact congrArg Value.string HSS.out, hide (by rw [← HSE.out]; omega), below_drewN hBx _⟩
                    case measure => simp [intOf]; omega
            · have q0 : decide ((p : Int) > 0) = true := by simp; omega
              have q1 : 0 < p := by omega
              have HP0 := Lib.hid hp0
              clear hp0
              by_cases h0 : (t : Int) = 0
              · have HS := Lib.hid (show joinT (l.take (p + 1)) = P ++ [44] ++ a ++ [45] by
                  rw [HSN.out, HSEP.out, if_neg HP0.out]
                  unfold rngT
                  simp only
                  rw [if_pos h0]
                  rw [HIF.out]
                  simp)
                obtain ⟨S, hS⟩ : ∃ S, S = joinT (l.take (p + 1)) := ⟨_, rfl⟩
                rw [← hS] at HS HJL
                have HSS := Lib.hid (show str P ++ str [44] ++ str a ++ str [45] = str S by rw [HS.out]; simp only [str_append])
                have hSl : S.length = P.length + a.length + 1 + 1 := by have h := congrArg List.length HS.out; simp at h; omega
                have HSE := Lib.hid hS
                clear hS
                obtain rfl : t = 0 := by omega
                clear h0
                by_cases hbg : 4096 < S.length
                · have HFIN := Lib.hid (show TextIs l (.returned (.tuple #[.string (str []), .int .i64 3])) by
                    unfold TextIs
                    rw [if_neg (by rw [HBAD.out]; simp; exact HNE.out), if_pos (by have := HLE.out; have := HJL.out; omega)])
                  go_wp2_with fail
                  refine (HRF.out _).mono ?_
                  rintro e w2 ⟨rfl, m2, rfl⟩
                  go_wp2_with fail
                  go_quiet (fail)
                  go_wp2_with fail
                  go_quiet (fail)
                  go_wp2_with fail
                  go_ret2
                  exact ⟨HFIN.out, below_drewN hBx _⟩
                · go_wp2_with fail
                  refine (HRF.out _).mono ?_
                  rintro e w2 ⟨rfl, m2, rfl⟩
                  go_wp2_with fail
                  go_quiet (fail)
                  go_wp2_with fail
                  go_quiet (fail)
                  go_wp2_with fail
                  go_roundw
                  case rel => exact ⟨p + 1, by omega, by go_num, by rw [← HSE.out]; exact congrArg Value.string HSS.out, hide (by rw [← HSE.out]; omega), below_drewN hBx _⟩
                  case measure => simp [intOf]; omega
              · by_cases h1 : (f : Int) < t
                · have HS := Lib.hid (show joinT (l.take (p + 1)) = P ++ [44] ++ a ++ [45] ++ b by
                    rw [HSN.out, HSEP.out, if_neg HP0.out]
                    unfold rngT
                    simp only
                    rw [if_neg h0, if_pos h1, itoa_pos (t : Int) (by omega), show (t : Int).toNat = t from rfl, ← HHB.out]
                    rw [HIF.out]
                    simp)
                  obtain ⟨S, hS⟩ : ∃ S, S = joinT (l.take (p + 1)) := ⟨_, rfl⟩
                  rw [← hS] at HS HJL
                  have HSS := Lib.hid (show str P ++ str [44] ++ str a ++ str [45] ++ str b = str S by rw [HS.out]; simp only [str_append])
                  have hSl : S.length = P.length + a.length + 1 + 1 + b.length := by have h := congrArg List.length HS.out; simp at h; omega
                  have HSE := Lib.hid hS
                  clear hS
                  clear h0
                  by_cases hbg : 4096 < S.length
                  · have HFIN := Lib.hid (show TextIs l (.returned (.tuple #[.string (str []), .int .i64 3])) by
                      unfold TextIs
                      rw [if_neg (by rw [HBAD.out]; simp; exact HNE.out), if_pos (by have := HLE.out; have := HJL.out; omega)])
                    go_wp2_with fail
                    refine (HRF.out _).mono ?_
                    rintro e w2 ⟨rfl, m2, rfl⟩
                    go_wp2_with fail
                    go_quiet (fail)
                    go_wp2_with fail
                    go_quiet (fail)
                    go_wp2_with fail
                    refine (HRT.out _).mono ?_
                    rintro e w3 ⟨rfl, m3, rfl⟩
                    go_wp2_with fail
                    go_ret2
                    exact ⟨HFIN.out, below_drewN hBx _⟩
                  · go_wp2_with fail
                    refine (HRF.out _).mono ?_
                    rintro e w2 ⟨rfl, m2, rfl⟩
                    go_wp2_with fail
                    go_quiet (fail)
                    go_wp2_with fail
                    go_quiet (fail)
                    go_wp2_with fail
                    refine (HRT.out _).mono ?_
                    rintro e w3 ⟨rfl, m3, rfl⟩
                    go_wp2_with fail
                    go_roundw
                    case rel => exact ⟨p + 1, by omega, by go_num, by rw [← HSE.out]; exact congrArg Value.string HSS.out, hide (by rw [← HSE.out]; omega), below_drewN hBx _⟩
                    case measure => simp [intOf]; omega
                · have HS := Lib.hid (show joinT (l.take (p + 1)) = P ++ [44] ++ a by
                    rw [HSN.out, HSEP.out, if_neg HP0.out]
                    unfold rngT
                    simp only
                    rw [if_neg h0, if_neg h1, List.append_nil]
                    rw [HIF.out])
                  obtain ⟨S, hS⟩ : ∃ S, S = joinT (l.take (p + 1)) := ⟨_, rfl⟩
                  rw [← hS] at HS HJL
                  have HSS := Lib.hid (show str P ++ str [44] ++ str a = str S by rw [HS.out]; simp only [str_append])
                  have hSl : S.length = P.length + a.length + 1 := by have h := congrArg List.length HS.out; simp at h; omega
                  have HSE := Lib.hid hS
                  clear hS
                  obtain rfl : t = f := by omega
                  by_cases hbg : 4096 < S.length
                  · have HFIN := Lib.hid (show TextIs l (.returned (.tuple #[.string (str []), .int .i64 3])) by
                      unfold TextIs
                      rw [if_neg (by rw [HBAD.out]; simp; exact HNE.out), if_pos (by have := HLE.out; have := HJL.out; omega)])
                    go_wp2_with fail
                    refine (HRF.out _).mono ?_
                    rintro e w2 ⟨rfl, m2, rfl⟩
                    go_wp2_with fail
                    go_quiet (fail)
                    go_wp2_with fail
                    go_quiet (fail)
                    go_wp2_with fail
                    go_ret2
                    exact ⟨HFIN.out, below_drewN hBx _⟩
                  · go_wp2_with fail
                    refine (HRF.out _).mono ?_
                    rintro e w2 ⟨rfl, m2, rfl⟩
                    go_wp2_with fail
                    go_quiet (fail)
                    go_wp2_with fail
                    go_quiet (fail)
                    go_wp2_with fail
                    go_roundw
                    case rel => exact ⟨p + 1, by omega, by go_num, by rw [← HSE.out]; exact congrArg Value.string HSS.out, hide (by rw [← HSE.out]; omega), below_drewN hBx _⟩
                    case measure => simp [intOf]; omega
          · obtain rfl : p = q := by omega
            have htk : l.take p = l := List.take_of_length_le (by rw [HL.out]; exact Nat.le_refl _)
            rw [htk] at hlen ⊢
            have HFIN := Lib.hid (show TextIs l (.returned (.tuple #[.string (str (joinT l)), .int .i64 0])) by
              unfold TextIs
              rw [if_neg (by rw [HBAD.out]; simp; exact HNE.out), if_neg (by have := joinT_len l HNE.out; have := hlen.out; omega)])
            clear htk
            go_wp2_with fail
            go_ret2
            exact ⟨HFIN.out, hBx⟩
end Go.Proofs.YtgibhlpocmppjaaDoor
