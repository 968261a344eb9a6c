/-
  globs.Match: its contract.
-/
import Derived.Test.YtafiadlkfjacnaaGlobThings
namespace Go.Proofs.Ytafiadlkfjacnaa
open Go.RowKit

theorem own_len {w : World} {base n size : Nat} {e : TypeId} {v : Value} {xs : List Value} (h : w.ownsRow base e size v n xs) (_hs : 0 < size) : n ≤ 9223372036854775807 := by
  rcases h.2 with ⟨e1, h0⟩ | ⟨g, cap, cur, hv, _, _, hnc, hcm, _⟩
  · omega
  · exact Nat.le_trans hnc hcm
def MaSt (T : List Thing) (N : List UInt8) (w2 : World) (x back fr i : Value) (wr : World) : Prop :=
  ∃ (a k f : Nat) (b : Int), x = .int .i64 a ∧ back = .int .i64 b ∧ fr = .int .i64 f ∧ i = .int .i64 k ∧ GI T N a k b f ∧ ∃ m, wr = w2.drewN m
def MaM (T : List Thing) (N : List UInt8) (x fr : Value) : Nat := (N.length - (intOf fr).toNat) * (T.length + 1) + (T.length - (intOf x).toNat)
theorem mam_step (T : List Thing) (N : List UInt8) (a f f' : Nat) (h : a < T.length) (hf : f ≤ f') : MaM T N (.int .i64 ((a : Int) + 1)) (.int .i64 f') < MaM T N (.int .i64 a) (.int .i64 f) := by
  simp only [MaM, intOf, Int.toNat_natCast]
  have h2 : (N.length - f') * (T.length + 1) ≤ (N.length - f) * (T.length + 1) := Nat.mul_le_mul_right _ (by omega)
  omega
theorem mam_back (T : List Thing) (N : List UInt8) (a f b : Nat) (hf : f < N.length) : MaM T N (.int .i64 ((b : Int) + 1)) (.int .i64 ((f : Int) + 1)) < MaM T N (.int .i64 a) (.int .i64 f) := by
  simp only [MaM, intOf, Int.toNat_natCast]
  have h2 : (N.length - (f + 1)) * (T.length + 1) + (T.length + 1) = (N.length - f) * (T.length + 1) := by
    rw [← Nat.succ_mul]; congr 1; omega
  have e1 : ((f : Int) + 1).toNat = f + 1 := by omega
  have e2 : ((b : Int) + 1).toNat = b + 1 := by omega
  rw [e1, e2]
  omega

set_option maxRecDepth 100000 in
set_option maxHeartbeats 4000000 in
theorem match_any (L N : List UInt8) (w : World) (hL : L.length ≤ 2097152) (hN : N.length ≤ 2097152) :
    Calls Try.prog 16 #[.string (str L), .string (str N)] w fun e w' => e = .returned (.bool (matchP L N)) ∧ Below w.heap.size w w' := by
  have hsN : (str N).size = N.length := str_size N
  go_enter Try.func16, Try.ntmps16
  go_wp2_with fail
  refine (things_any L w hL).mono ?_
  rintro e w2 ⟨hP, hB⟩
  rcases hP.cases_ with ⟨_, hm, v, rfl⟩ | ⟨T, v, xs, _, _, hm, rfl, hown, hT⟩
  · have HM := Lib.hid (hm N)
    clear hm
    go_wp2_with fail
    go_ret
    exact ⟨ret_bool HM.out.symm, hB⟩
  · have HM := Lib.hid (hm N)
    clear hm hP
    obtain ⟨A, c, rfl⟩ := own_slice hown
    have hxl := own_len hown (by decide)
    have hTl := hT.1
    have hrd := Reads.of_own hown
    have HR := Lib.hid hrd
    have HT := Lib.hid hT
    have HTL := Lib.hid hTl
    have HB := Lib.hid hB
    obtain ⟨nt, hnt⟩ : ∃ nt, nt = xs.length := ⟨_, rfl⟩
    rw [← hnt] at hxl HR HTL ⊢
    have HNT := Lib.hid hnt
    clear hown hT hrd hTl hB hnt
    go_wp2_with fail
    go_loopw [7, 8, 9, 10] (fun x back fr i wr => MaSt T N w2 x back fr i wr) (fun x _ fr _ _ => MaM T N x fr)
    case atStart => exact ⟨0, 0, 0, -1, rfl, rfl, rfl, rfl, GI.start T N, 0, rfl⟩
    case round =>
      obtain ⟨a, k, f, b, rfl, rfl, rfl, rfl, hG, m, hwr⟩ := hrel
      have HG := Lib.hid hG
      have ha : a ≤ nt := by have := hG.1; have := HTL.out; omega
      have hk : k ≤ N.length := hG.2.1
      have hf : f ≤ k := hG.2.2.1
      have hb := hG.back_or
      have HBO := Lib.hid hb
      have HW := Lib.hid hwr
      have HRr : Hid (Reads wr w2.heap.size 2 A nt (sv tcells xs)) := by rw [hwr]; exact Lib.hid (HR.out.drewN m)
      clear hG hb hwr
      by_cases hend : a = nt ∧ k = N.length
      · obtain ⟨rfl, rfl⟩ := hend
        have hfin : gm T N = true := by have := HG.out; rw [HTL.out] at this; exact this.done
        have HF := Lib.hid hfin
        clear hfin
        go_wp2_with fail
        go_ret
        exact ⟨ret_bool (by rw [HM.out, HF.out]), by rw [HW.out]; exact below_drewN HB.out m⟩
      · by_cases hat : a < nt
        · have hax : a < xs.length := by rw [← HNT.out]; exact hat
          have haT : a < T.length := by have := HTL.out; omega
          obtain ⟨ad, rfl, had, hce0, hce1⟩ := HRr.out.elem tcells_len hat (by rw [HNT.out]) (by omega)
          have hth := HT.out.2 a xs[a] T[a] (List.getElem?_eq_getElem hax) (List.getElem?_eq_getElem haT)
          have hTa : T[a]? = some T[a] := List.getElem?_eq_getElem haT
          have hq0 := hce0 _ rfl
          have hq1 := hce1 0 _ rfl
          clear hce0 hce1
          obtain ⟨x, hx⟩ : ∃ x, x = xs[a] := ⟨_, rfl⟩
          obtain ⟨t, ht⟩ : ∃ t, t = T[a] := ⟨_, rfl⟩
          rw [← hx] at hth hq0 hq1
          rw [← ht] at hth hTa
          have HTA := Lib.hid hTa
          have hth2 : ThingIs wr x t := hth.keep (by rw [HW.out]; exact KeepT.below (below_drewN (Below.refl _ _) m))
          have HTH := Lib.hid hth2
          clear hx ht hth hTa hth2
          cases t with
          | none =>
            obtain rfl : x = (.int .i64 0, .nilFunc) := HTH.out
            have HG2 := Lib.hid (HG.out.star HTA.out)
            simp only at hq0 hq1
            by_cases hkn : k < N.length
            all_goals
              go_wp2_with fail
              go_roundw
              case rel => exact ⟨a + 1, k, k, a, by go_num, rfl, rfl, rfl, HG2.out, m, HW.out⟩
              case measure => exact mam_step T N a f k haT hf
          | some p =>
            obtain ⟨v, rfl, hfn⟩ := HTH.out
            simp only at hq0 hq1
            by_cases hkn : k < N.length
            · obtain ⟨ch, hch⟩ : ∃ ch, ch = N[k] := ⟨_, rfl⟩
              have hgk : ∀ h : k < (str N).size, (str N)[k]'h = ch := fun _ => hch.symm
              have hNk : N[k]? = some ch := by rw [List.getElem?_eq_getElem hkn, hch]
              have HNK := Lib.hid hNk
              clear hNk hch
              rcases hfn with ⟨rfl, hp⟩ | ⟨bo, y, rfl, hbo, hp⟩ | ⟨bo, bn, cs, neg, rfl, hbo, hbn, fc, hfc, hp⟩
              · cases hpc : p ch with
                | true =>
                  have HG2 := Lib.hid (HG.out.step HTA.out HNK.out hpc)
                  rw [hp ch] at hpc
                  have HP := Lib.hid hp
                  clear hp
                  go_wp2_with fail
                  go_quiet ((go_at_call 33; exact quiet_left (any_any ch _)))
                  go_wp2_with fail
                  go_roundw
                  case rel => exact ⟨a + 1, k + 1, f, b, by go_num, rfl, rfl, by go_num, HG2.out, ⟨_, by rw [HW.out]; exact World.drewN_drewN _ _ _⟩⟩
                  case measure => exact mam_step T N a f f haT (Nat.le_refl _)
                | false =>
                  rw [hp ch] at hpc
                  cases hpc
              · have HBX := Lib.hid hbo
                cases hpc : p ch with
                | true =>
                  have HG2 := Lib.hid (HG.out.step HTA.out HNK.out hpc)
                  rw [hp ch] at hpc
                  have HP := Lib.hid hp
                  clear hp
                  go_wp2_with fail
                  go_quiet ((go_at_call 37; exact quiet_left (one_fn bo y ch _ hbo)))
                  go_wp2_with fail
                  go_roundw
                  case rel => exact ⟨a + 1, k + 1, f, b, by go_num, rfl, rfl, by go_num, HG2.out, ⟨_, by rw [HW.out]; exact World.drewN_drewN _ _ _⟩⟩
                  case measure => exact mam_step T N a f f haT (Nat.le_refl _)
                | false =>
                  have hstuck := stuck_byte HTA.out HNK.out hpc
                  rw [hp ch] at hpc
                  have HP := Lib.hid hp
                  clear hp
                  have HS := Lib.hid hstuck
                  clear hstuck
                  rcases HBO.out with hbm | ⟨bb, hbm⟩
                  · subst hbm
                    have hno := HG.out.none_ HS.out
                    have HF := Lib.hid hno
                    clear hno
                    go_wp2_with fail
                    go_quiet ((go_at_call 37; exact quiet_left (one_fn bo y ch _ hbo)))
                    go_wp2_with fail
                    go_ret
                    exact ⟨ret_bool (by rw [HM.out, HF.out]), by rw [HW.out]; exact below_drewN (below_drewN HB.out m) _⟩
                  · subst hbm
                    have hbl := HG.out.back_lt
                    by_cases hfl : f < N.length
                    · have HG2 := Lib.hid (HG.out.back HS.out hfl)
                      go_wp2_with fail
                      go_quiet ((go_at_call 37; exact quiet_left (one_fn bo y ch _ hbo)))
                      go_wp2_with fail
                      go_roundw
                      case rel => exact ⟨bb + 1, f + 1, f + 1, bb, by go_num, rfl, by go_num, by go_num, HG2.out, ⟨_, by rw [HW.out]; exact World.drewN_drewN _ _ _⟩⟩
                      case measure => exact mam_back T N a f bb hfl
                    · exact absurd hfl (by omega)
              · have HBX := Lib.hid hbo
                cases hpc : p ch with
                | true =>
                  have HG2 := Lib.hid (HG.out.step HTA.out HNK.out hpc)
                  rw [hp ch] at hpc
                  have HP := Lib.hid hp
                  clear hp
                  go_wp2_with fail
                  go_quiet ((go_at_call 39; exact Calls.quiet_of (bracket_fn bo bn cs neg fc ch _ hbo hbn hfc)))
                  go_wp2_with fail
                  go_roundw
                  case rel => exact ⟨a + 1, k + 1, f, b, by go_num, rfl, rfl, by go_num, HG2.out, ⟨_, by rw [HW.out]; exact World.drewN_drewN _ _ _⟩⟩
                  case measure => exact mam_step T N a f f haT (Nat.le_refl _)
                | false =>
                  have hstuck := stuck_byte HTA.out HNK.out hpc
                  rw [hp ch] at hpc
                  have HP := Lib.hid hp
                  clear hp
                  have HS := Lib.hid hstuck
                  clear hstuck
                  rcases HBO.out with hbm | ⟨bb, hbm⟩
                  · subst hbm
                    have hno := HG.out.none_ HS.out
                    have HF := Lib.hid hno
                    clear hno
                    go_wp2_with fail
                    go_quiet ((go_at_call 39; exact Calls.quiet_of (bracket_fn bo bn cs neg fc ch _ hbo hbn hfc)))
                    go_wp2_with fail
                    go_ret
                    exact ⟨ret_bool (by rw [HM.out, HF.out]), by rw [HW.out]; exact below_drewN (below_drewN HB.out m) _⟩
                  · subst hbm
                    have hbl := HG.out.back_lt
                    by_cases hfl : f < N.length
                    · have HG2 := Lib.hid (HG.out.back HS.out hfl)
                      go_wp2_with fail
                      go_quiet ((go_at_call 39; exact Calls.quiet_of (bracket_fn bo bn cs neg fc ch _ hbo hbn hfc)))
                      go_wp2_with fail
                      go_roundw
                      case rel => exact ⟨bb + 1, f + 1, f + 1, bb, by go_num, rfl, by go_num, by go_num, HG2.out, ⟨_, by rw [HW.out]; exact World.drewN_drewN _ _ _⟩⟩
                      case measure => exact mam_back T N a f bb hfl
                    · exact absurd hfl (by omega)
            · have hstuck := stuck_name HTA.out (show N.length ≤ k by omega)
              obtain rfl : k = N.length := by omega
              obtain ⟨fn, fi, ca, rfl⟩ : ∃ fn fi ca, v = .func fn fi ca := by
                rcases hfn with ⟨h, _⟩ | ⟨_, _, h, _⟩ | ⟨_, _, _, _, h, _⟩ <;> exact ⟨_, _, _, h⟩
              clear hfn
              have HS := Lib.hid hstuck
              clear hstuck
              rcases HBO.out with hbm | ⟨bb, hbm⟩
              · subst hbm
                have hno := HG.out.none_ HS.out
                have HF := Lib.hid hno
                clear hno
                go_wp2_with fail
                go_quiet (fail)
                go_wp2_with fail
                go_ret
                exact ⟨ret_bool (by rw [HM.out, HF.out]), by rw [HW.out]; exact below_drewN (below_drewN HB.out m) _⟩
              · subst hbm
                have hbl := HG.out.back_lt
                by_cases hfl : f < N.length
                · have HG2 := Lib.hid (HG.out.back HS.out hfl)
                  go_wp2_with fail
                  go_quiet (fail)
                  go_wp2_with fail
                  go_roundw
                  case rel => exact ⟨bb + 1, f + 1, f + 1, bb, by go_num, rfl, by go_num, by go_num, HG2.out, ⟨_, by rw [HW.out]; exact World.drewN_drewN _ _ _⟩⟩
                  case measure => exact mam_back T N a f bb hfl
                · have hno := HG.out.over HS.out (by omega)
                  have HF := Lib.hid hno
                  clear hno
                  go_wp2_with fail
                  go_quiet (fail)
                  go_wp2_with fail
                  go_ret
                  exact ⟨ret_bool (by rw [HM.out, HF.out]), by rw [HW.out]; exact below_drewN (below_drewN HB.out m) _⟩
        · have hkn : k < N.length := by omega
          have hstuck := stuck_end (show a = T.length by have := HTL.out; omega) hkn
          obtain rfl : a = nt := by omega
          have HS := Lib.hid hstuck
          clear hstuck
          rcases HBO.out with hbm | ⟨bb, hbm⟩
          · subst hbm
            have hno := HG.out.none_ HS.out
            have HF := Lib.hid hno
            clear hno
            go_wp2_with fail
            go_quiet (fail)
            go_wp2_with fail
            go_ret
            exact ⟨ret_bool (by rw [HM.out, HF.out]), by rw [HW.out]; exact below_drewN (below_drewN HB.out m) _⟩
          · subst hbm
            have hbl := HG.out.back_lt
            by_cases hfl : f < N.length
            · have HG2 := Lib.hid (HG.out.back HS.out hfl)
              go_wp2_with fail
              go_quiet (fail)
              go_wp2_with fail
              go_roundw
              case rel => exact ⟨bb + 1, f + 1, f + 1, bb, by go_num, rfl, by go_num, by go_num, HG2.out, ⟨_, by rw [HW.out]; exact World.drewN_drewN _ _ _⟩⟩
              case measure => exact mam_back T N a f bb hfl
            · exact absurd hfl (by omega)
end Go.Proofs.Ytafiadlkfjacnaa
