/-
  The document's own bracket: its contract.
-/
import Derived.Test.YtafiadlkfjacnaaGlobRef
namespace Go.Proofs.Ytafiadlkfjacnaa
open Go.RowKit

/-- The turned table, up to a place. -/
def flipF (f : UInt8 → Bool) (q : Nat) (c : UInt8) : Bool := if c.toNat < q then !f c else f c
theorem flipF_succ (f : UInt8 → Bool) (q : Nat) (h : q < 256) (c : UInt8) : (if c = UInt8.ofNat q then !flipF f q (UInt8.ofNat q) else flipF f q c) = flipF f (q + 1) c := by
  have e : (UInt8.ofNat q).toNat = q := by simp; omega
  unfold flipF
  by_cases h1 : c = UInt8.ofNat q
  · subst h1
    rw [if_pos rfl, e, if_neg (by omega), if_pos (by omega)]
  · have hne : c.toNat ≠ q := fun h => h1 (UInt8.toNat_inj.1 (by omega))
    rw [if_neg h1]
    by_cases h2 : c.toNat < q
    · rw [if_pos h2, if_pos (by omega)]
    · rw [if_neg h2, if_neg (by omega)]
theorem flipF_end (f : UInt8 → Bool) (c : UInt8) : flipF f 256 c = !f c := by
  unfold flipF
  rw [if_pos c.toNat_lt]

set_option maxRecDepth 100000 in
set_option maxHeartbeats 4000000 in
theorem rbracket_any (L : List UInt8) (neg : Bool) (w : World) (hL : L.length ≤ 4096) :
    Calls Try.prog 30 #[.string (str L), .bool neg] w fun e w' => e = .returned (.agg (tc false (fun c => brk L c != neg))) ∧ Below w.heap.size w w' := by
  obtain ⟨i0, hi0, hz0, hz1, hz2⟩ := info_parts infoTh
  have hsl : (str L).size = L.length := str_size L
  have hT := Two.start w
  obtain ⟨w0, hw0⟩ : ∃ w0, w0 = w.alloc (.cells f257 53) := ⟨_, rfl⟩
  have hs0 : w0.heap.size = w.heap.size + 1 := by rw [hw0]; simp
  rw [← hw0] at hT
  obtain ⟨w1, hw1⟩ : ∃ w1, w1 = w0.alloc (.cells f257 53) := ⟨_, rfl⟩
  rw [← hw1] at hT
  have HW0 := Lib.hid hw0
  have HW1 := Lib.hid hw1
  have HS0 := Lib.hid hs0
  have HT := Lib.hid hT
  clear hw0 hw1 hs0 hT
  go_enter Try.func30, Try.ntmps30
  go_wp2_with (refine wpList_alloc_any _ rfl 53 rfl i0 _ hi0 hz0 ?_; rw [show (Value.agg f257).cells = f257 from rfl]; first | rw [← HW0.out] | rw [← HW1.out, HS0.out])

  go_loopw [6] (fun i wr => ∃ (q : Nat) (f : UInt8 → Bool), i = .int .i64 q ∧ q ≤ L.length ∧ Hid (∀ c, brk L c = (f c || brk (L.drop q) c)) ∧ Two w wr f) (fun i _ => L.length - (intOf i).toNat)
  case atStart => exact ⟨0, fun _ => false, rfl, Nat.zero_le _, fun c => rfl, HT.out⟩
  case round =>
    obtain ⟨q, f, rfl, hql, hR, hT⟩ := hrel
    obtain ⟨D, hD⟩ : ∃ D, D = L.drop q := ⟨_, rfl⟩
    rw [← hD] at hR
    have HD := Lib.hid hD
    clear hD
    cases D with
    | nil =>
      have hge : L.length ≤ q := by have := HD.out; exact List.drop_eq_nil_iff.1 this.symm
      have hnl : ¬ (q : Int) < (L.length : Int) := by omega
      have HF := Lib.hid (show ∀ c, brk L c = f c from fun c => by rw [hR.out c]; simp [brk])
      clear hR
      cases neg with
      | false =>
        have hT2 := hT.congr (g := fun c => brk L c != false) (fun c => by rw [HF.out c]; simp)
        clear hT
        go_wp2_with fail
        go_loopw [8] (fun i wr => i = .int .i64 0 ∧ Two w wr (fun c => brk L c != false)) (fun i _ => 0)
        case atStart => exact ⟨rfl, hT2⟩
        case round =>
          obtain ⟨rfl, hT2⟩ := hrel
          go_wp2_with (first
            | (refine wpList_load_row rfl 53 (.tmp 5) rfl (w.heap.size + 1) rfl 53 _ (0, 0) _ hT2.own Try.underlying53 rfl (infoThSize _ (tc_size _ _)) ?_)
            | (refine wpList_store_row rfl 53 (.tmp 4) (.tmp 65) rfl w.heap.size _ rfl rfl 53 _ hT2.res (infoThSize _ (tc_size _ _)) (by rw [tc_size]; simp [f257]) (tc_one _ _) ?_))
          refine bodyPost_ret (v := .agg (tc false (fun c => brk L c != false))) (by refine results_cell_row (p := 4) (ty := 53) ?_ _ _ w.heap.size _ _ _ _ ?_ hT2.end_.1 Try.underlying53 rfl (infoThSize _ (tc_size _ _)) <;> rfl) rfl ⟨rfl, hT2.end_.2⟩
      | true =>
        go_wp2_with fail
        go_loopw [8] (fun i wr => ∃ k : Nat, k ≤ 256 ∧ i = .int .i64 k ∧ Two w wr (flipF f k)) (fun i _ => 256 - (intOf i).toNat)
        case atStart => exact ⟨0, Nat.zero_le _, rfl, hT.congr fun c => rfl⟩
        case round =>
          obtain ⟨k, hk, rfl, hT⟩ := hrel
          by_cases hlt : k < 256
          · have hc := hT.cell_q hlt
            have hf := hT.frozen (1 + k)
            have HT2 := Lib.hid ((hT.set_q hlt (!flipF f k (UInt8.ofNat k))).congr (flipF_succ f k hlt))
            clear hT
            go_wp2_with fail
            go_roundw
            case rel => exact ⟨k + 1, by omega, by go_num, HT2.out⟩
            case measure => simp [intOf]; omega
          · obtain rfl : k = 256 := by omega
            have hT2 := hT.congr (g := fun c => brk L c != true) (fun c => by rw [flipF_end, HF.out c]; simp)
            clear hT hk
            go_wp2_with (first
              | (refine wpList_load_row rfl 53 (.tmp 5) rfl (w.heap.size + 1) rfl 53 _ (0, 0) _ hT2.own Try.underlying53 rfl (infoThSize _ (tc_size _ _)) ?_)
              | (refine wpList_store_row rfl 53 (.tmp 4) (.tmp 65) rfl w.heap.size _ rfl rfl 53 _ hT2.res (infoThSize _ (tc_size _ _)) (by rw [tc_size]; simp [f257]) (tc_one _ _) ?_))
            refine bodyPost_ret (v := .agg (tc false (fun c => brk L c != true))) (by refine results_cell_row (p := 4) (ty := 53) ?_ _ _ w.heap.size _ _ _ _ ?_ hT2.end_.1 Try.underlying53 rfl (infoThSize _ (tc_size _ _)) <;> rfl) rfl ⟨rfl, hT2.end_.2⟩
    | cons a R =>
      obtain ⟨ha, hd1, hlt⟩ := drop_at L q a R HD.out.symm
      have hga := str_at L q a ha
      have HA := Lib.hid hd1
      have hab := a.toNat_lt
      clear ha hd1
      by_cases h45 : ∃ b r, R = 45 :: b :: r
      · obtain ⟨b, r, rfl⟩ := h45
        obtain ⟨hx, hd2, hlt1⟩ := drop_at L (q + 1) 45 (b :: r) HA.out
        obtain ⟨hb, hd3, hlt2⟩ := drop_at L (q + 2) b r hd2
        have hgx := str_at L (q + 1) 45 hx
        have hgb := str_at L (q + 2) b hb
        have hbb := b.toNat_lt
        have HB := Lib.hid hd3
        clear hx hd2 hb hd3
        go_wp2_with fail
        go_loopw [7] (fun i wr => ∃ k : Nat, a.toNat ≤ k ∧ (k ≤ b.toNat + 1 ∨ k = a.toNat) ∧ i = .int .i64 k ∧ Two w wr (rngF f a k)) (fun i _ => 256 - (intOf i).toNat)
        case atStart => exact ⟨a.toNat, Nat.le_refl _, .inr rfl, rfl, hT.congr fun c => (rngF_zero f a c).symm⟩
        case round =>
          obtain ⟨k, hk1, hk2, rfl, hT⟩ := hrel
          by_cases hle : k ≤ b.toNat
          · have hk3 : k < 256 := by omega
            have hc := hT.cell_q hk3
            have hf := hT.frozen (1 + k)
            have HT2 := Lib.hid ((hT.set_q hk3 true).congr fun c => (rngF_succ f a k hk1 hk3 c).symm)
            clear hT
            go_wp2_with fail
            go_roundw
            case rel => exact ⟨k + 1, by omega, .inl (by omega), by go_num, HT2.out⟩
            case measure => simp [intOf]; omega
          · have hend := hT.congr fun c => rngF_end f a b k (by omega) hk2 c
            clear hT hk1 hk2
            go_wp2_with fail
            go_roundw
            case rel => exact ⟨q + 3, _, by go_num, by omega, hide fun c => by rw [hR.out c, brk_range, Bool.or_assoc, HB.out], hend⟩
            case measure => simp [intOf]; omega
      · have hne : ∀ b s, R ≠ 45 :: b :: s := fun b s e => h45 ⟨b, s, e⟩
        clear h45
        have hc := hT.cell a
        have hf := hT.frozen (1 + a.toNat)
        have HT2 := Lib.hid (hT.set a true)
        have HNE := Lib.hid hne
        clear hne hT
        by_cases h2 : 2 ≤ R.length
        · obtain ⟨x, b, r, rfl⟩ : ∃ x b r, R = x :: b :: r := by
            match R, h2 with
            | x :: b :: r, _ => exact ⟨x, b, r, rfl⟩
          have hx : x ≠ 45 := fun e => HNE.out b r (by rw [e])
          have hx2 : ((x.toNat : Int) == 45) = false := u8_beq_lit (n := 45) (by omega) hx
          obtain ⟨hx3, hd2, hlt1⟩ := drop_at L (q + 1) x (b :: r) HA.out
          obtain ⟨hb, hd3, hlt2⟩ := drop_at L (q + 2) b r hd2
          have hgx := str_at L (q + 1) x hx3
          clear hx h2 hx3 hd2 hb hd3
          go_wp2_with fail
          go_roundw
          case rel => exact ⟨q + 1, _, by go_num, by omega, hide fun c => by
            rw [hR.out c, brk_one a _ c HNE.out, HA.out]
            by_cases e : c = a
            · subst e; simp
            · rw [show (a == c) = false from by simpa using fun h => e h.symm, if_neg e]; simp, HT2.out⟩
          case measure => simp [intOf]; omega
        · have hlen : L.length = q + 1 + R.length := by
            have := congrArg List.length HA.out
            simp at this
            omega
          have hnl : ¬ (q : Int) + 2 < (L.length : Int) := by omega
          clear h2
          go_wp2_with fail
          go_roundw
          case rel => exact ⟨q + 1, _, by go_num, by omega, hide fun c => by
            rw [hR.out c, brk_one a _ c HNE.out, HA.out]
            by_cases e : c = a
            · subst e; simp
            · rw [show (a == c) = false from by simpa using fun h => e h.symm, if_neg e]; simp, HT2.out⟩
          case measure => simp [intOf]; omega
end Go.Proofs.Ytafiadlkfjacnaa
