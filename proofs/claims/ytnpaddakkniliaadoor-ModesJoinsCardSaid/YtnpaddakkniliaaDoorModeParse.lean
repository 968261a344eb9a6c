/-
  modes.Parse: its contract at texts that are not octal.
-/
import Derived.Test.YtnpaddakkniliaaDoorPuint8
import Derived.Test.YtnpaddakkniliaaDoorSplitPlain
import Derived.Test.YtnpaddakkniliaaDoorAppendReads
namespace Go.Proofs.YtnpaddakkniliaaDoor
open Go.RowKit

def PIs (s : List UInt8) (B : Nat) (w' : World) (e : Ending) : Prop :=
  if 4096 < s.length then e = .returned (.tuple #[.slice none 0 0, .int .i64 3])
  else match allClauses (splitC 44 s) with
    | none => e = .returned (.tuple #[.slice none 0 0, .int .i64 5])
    | some l => ∃ v, e = .returned (.tuple #[v, .int .i64 0]) ∧ w'.ownsRow B 36 5 v l.length (chgv l)
theorem allClauses_snoc (p : List (List UInt8)) (x : List UInt8) (rs : List Chg) (h : allClauses p = some rs) : allClauses (p ++ [x]) = (clauseV x).map (rs ++ ·) := by
  rw [allClauses_append, h]
  show (allClauses [x]).map (rs ++ ·) = _
  show (match clauseV x with | none => none | some l => (allClauses []).map (l ++ ·)).map (rs ++ ·) = _
  cases clauseV x with
  | none => rfl
  | some l => simp [allClauses]
theorem clauseV_len (x : List UInt8) (l : List Chg) (h : clauseV x = some l) : 1 ≤ l.length ∧ l.length ≤ x.length := by
  have go : ∀ (who n : Nat) (s : List UInt8) (l : List Chg), clauseGo who n s = some l → l.length ≤ s.length := by
    intro who n
    induction n with
    | zero =>
      intro s l h
      cases s with
      | nil => injection h with h; rw [← h]; exact Nat.le_refl _
      | cons _ _ => cases h
    | succ n ih =>
      intro s l h
      cases s with
      | nil => injection h with h; rw [← h]; exact Nat.le_refl _
      | cons op r =>
        have h2 : (if isOp op = true then (clauseGo who n (oneV who op r).2).map ((oneV who op r).1 :: ·) else none) = some l := h
        by_cases ho : isOp op = true
        · rw [if_pos ho] at h2
          cases hg : clauseGo who n (oneV who op r).2 with
          | none => rw [hg] at h2; cases h2
          | some m =>
            rw [hg] at h2
            injection h2 with h2
            have := ih _ _ hg
            have := oneV_len who op r
            rw [← h2]
            simp
            omega
        · rw [if_neg ho] at h2; cases h2
  have hl := lettersM_len whoM x 0
  unfold clauseV at h
  cases hg : clauseGo (lettersM whoM 0 x).1 x.length (lettersM whoM 0 x).2 with
  | none => rw [hg] at h; cases h
  | some m =>
    rw [hg] at h
    cases m with
    | nil => cases h
    | cons a m =>
      injection h with h
      have := go _ _ _ _ hg
      rw [← h]
      exact ⟨by simp, by omega⟩
theorem ClauseIs.cases_ {s : List UInt8} {B : Nat} {w' : World} {e : Ending} (h : ClauseIs s B w' e) : (clauseV s = none ∧ ∃ v, e = .returned (.tuple #[v, .bool false])) ∨ (∃ l v, clauseV s = some l ∧ e = .returned (.tuple #[v, .bool true]) ∧ w'.ownsRow B 36 5 v l.length (chgv l)) := by
  unfold ClauseIs at h
  cases hc : clauseV s with
  | none => rw [hc] at h; exact .inl ⟨rfl, h⟩
  | some l => rw [hc] at h; obtain ⟨v, h1, h2⟩ := h; exact .inr ⟨l, v, rfl, h1, h2⟩
theorem chgv_one (l : List Chg) : ∀ u ∈ chgv l, u.oneCell' = true := by
  intro u hu
  have hu2 : u ∈ sv chg1 l := hu
  unfold sv at hu2
  rw [List.mem_flatMap] at hu2
  obtain ⟨x, _, h⟩ := hu2
  exact chg1_one x u h

set_option maxRecDepth 100000 in
set_option maxHeartbeats 4000000 in
theorem mparse_text (B : Nat) (L : List UInt8) (w : World) (hE : EnvM B w) (hr : readV L = none) (hL : L.length ≤ 2097152) :
    Calls Tryd.prog 19 #[.string (str L)] w fun e w' => PIs L w.heap.size w' e ∧ Below w.heap.size w w' := by
  obtain ⟨i0, hi0, hz0, hz1', hz2⟩ := info_parts infoChg
  have hs0 : (str L).size = L.length := str_size L
  by_cases hbig : 4096 < L.length
  · have hbI : decide ((4096 : Int) < (L.length : Int)) = true := decide_eq_true (by omega)
    go_enter Tryd.func19, Tryd.ntmps19
    go_wp2_with fail
    go_ret2
    refine ⟨?_, Below.refl _ _⟩
    unfold PIs
    rw [if_pos hbig]
    rfl
  have hbI : decide ((4096 : Int) < (L.length : Int)) = false := decide_eq_false (by omega)
  have HE := Lib.hid hE
  have HR := Lib.hid hr
  clear hE hr
  go_enter Tryd.func19, Tryd.ntmps19
  go_wp2_with fail
  refine (read_any B L w hL HE.out).mono ?_
  rintro e w0 ⟨he, hB0⟩
  unfold ReadIs at he
  rw [HR.out] at he
  have he2 : e = .returned (.tuple #[.int .i64 0, .bool false]) := he
  subst he2
  clear he
  have E0 := HE.out.up hB0
  obtain ⟨m, hm⟩ := E0.mx
  have HM := Lib.hid hm
  have HE0 := Lib.hid E0
  clear hm E0 HE
  go_wp2_with fail
  refine (Go.Proofs.Tryd.strings_Split (str L) { data := #[44] } m w0 (by rw [hs0]; omega) HM.out (by decide)).mono ?_
  rintro e w1 ⟨rfl, hw1⟩
  rw [split_str] at hw1
  rw [← splitC_count]
  obtain ⟨P, hP⟩ : ∃ P, P = splitC 44 L := ⟨_, rfl⟩
  rw [← hP] at hw1 ⊢
  have hPm : P.length ≤ L.length + 1 := by
    rw [hP, splitC_count]
    have := Lib.countB_le { data := #[44] } (by decide) _ (str L) (Nat.le_refl _)
    rw [hs0] at this
    omega
  have hPp : ∀ q (h : q < P.length), P[q].length ≤ L.length := fun q h => by subst hP; exact splitC_piece L q h
  have hg : Blk w1 w0.heap.size 9 ((P.map str).map Value.string).toArray := by rw [hw1]; exact Blk.new w0 _ _
  have hB1 : Below w0.heap.size w0 w1 := by rw [hw1]; exact (Below.refl _ _).alloc (Nat.le_refl _) _
  have hb1 := below_then hB0 hB0.size hB1
  have hg1 := hg.lt
  have HP := Lib.hid hP
  have HPP := Lib.hid hPp
  have HG := Lib.hid hg
  clear hw1 hP hPp hg hs0 hB1 hB0
  go_wp2_with fail
  go_loopw [4, 41] (fun v i wr => ∃ (q : Nat) (rs : List Chg), q ≤ P.length ∧ i = .int .i64 q ∧ Hid (allClauses (P.take q) = some rs) ∧ rs.length ≤ q * 4096 ∧ wr.ownsRow w1.heap.size 36 5 v rs.length (chgv rs) ∧ Below w1.heap.size w1 wr) (fun _ i _ => P.length - (intOf i).toNat)
  case atStart => exact ⟨0, [], Nat.zero_le _, rfl, Lib.hid rfl, by simp, World.ownsRow_nil _ _ _ _, Below.refl _ _⟩
  case round =>
    obtain ⟨q, rs, hq, rfl, HRS, hrl, hown, hBr⟩ := hrel
    have hBsz := hBr.size
    have hbw := below_then hb1 hb1.size hBr
    by_cases hlt : q < P.length
    · have hqI : (q : Int) < (P.length : Int) := by omega
      have hc : wr.cell? ⟨w0.heap.size, q, none⟩ = some (.string (str P[q])) := by
        rw [(HG.out.below hBr hg1).cell q]
        simp [hlt]
      obtain ⟨x, hx⟩ : ∃ x, x = P[q] := ⟨_, rfl⟩
      have hxl : x.length ≤ L.length := by rw [hx]; exact HPP.out q hlt
      rw [← hx] at hc
      have hsn := allClauses_snoc (P.take q) x rs HRS.out
      rw [show P.take q ++ [x] = P.take (q + 1) from by rw [hx, List.take_succ_eq_append_getElem hlt]] at hsn
      have HSN := Lib.hid hsn
      clear hx hsn
      go_wp2_with fail
      refine (clause_any x wr (by omega)).mono ?_
      rintro e w2 ⟨hI, hB2⟩
      have hB2s := hB2.size
      have hBf := below_then hBr hBsz hB2
      have hown2 := own_below hown hB2
      rcases hI.cases_ with ⟨hi, v, rfl⟩ | ⟨l, v, hi, rfl, ho⟩
      · have HNO := Lib.hid (show allClauses (splitC 44 L) = none by
          rw [← HP.out, ← List.take_append_drop (q + 1) P, allClauses_append, HSN.out, hi]; rfl)
        clear hi hI
        go_wp2_with fail
        go_ret2
        refine ⟨?_, below_then hbw hbw.size hB2⟩
        unfold PIs
        rw [if_neg hbig, HNO.out]
        rfl
      · obtain ⟨l1, l2⟩ := clauseV_len x l hi
        have HN := Lib.hid (show allClauses (P.take (q + 1)) = some (rs ++ l) by rw [HSN.out, hi]; rfl)
        obtain ⟨A, c, rfl⟩ := own_slice ho
        have hrd := Reads.of_own ho
        have hnil : A = none → c = 0 := fun e => by
          obtain ⟨ad, e2, _⟩ := hrd.2 (by omega)
          rw [e] at e2; cases e2
        clear hi hI ho
        go_wp2_with (at_builtin; refine wpList_append_reads rfl (.tmp 52) (.tmp 53) 34 rfl w1.heap.size 36 i0 (.agg #[.int .i64 0, .int .u8 0, .int .i64 0, .int .u8 0, .bool false]) 5 32 Tryd.underlying34 hi0 hz0 hz1' hz2 rfl (by decide) _ _ _ rfl hown2 A l.length c w2.heap.size (chgv l) rfl hrd hnil (chgv_one l) (by unfold maxLen; omega) (by omega) (by omega) ?_; intro v4 w4 hown4 hg4)
        have hB4 : Below w1.heap.size w1 w4 := hBf.grown hg4 (by omega) (own_ge hown2)
        go_roundw
        case rel => exact ⟨q + 1, rs ++ l, by omega, by go_num, HN, by rw [List.length_append]; omega, by rw [List.length_append, show chgv (rs ++ l) = chgv rs ++ chgv l from by simp [sv_append]]; exact hown4, hB4⟩
        case measure => simp [intOf]; omega
    · obtain rfl : q = P.length := by omega
      have hqI : ¬ (P.length : Int) < (P.length : Int) := by omega
      have HALL := Lib.hid (show allClauses (splitC 44 L) = some rs by
        rw [← HP.out]
        have := HRS.out
        rwa [List.take_of_length_le (Nat.le_refl _)] at this)
      go_wp2_with fail
      go_ret2
      refine ⟨?_, hbw⟩
      unfold PIs
      rw [if_neg hbig, HALL.out]
      exact ⟨_, rfl, ownsRow_mono hown hb1.size⟩
end Go.Proofs.YtnpaddakkniliaaDoor
