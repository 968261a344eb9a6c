/-
  globs.bracket: its contract.
-/
import Derived.Test.YtafiadlkfjacnaaGlobThing
import Derived.Test.YtafiadlkfjacnaaKept
import Derived.Outline
import Derived.Maps.RangeWalk
namespace Go.Proofs.Ytafiadlkfjacnaa
open Go.RowKit

def f256 : Array Value := Array.replicate 256 (Value.bool false)
theorem infoTabB : (Try.prog.info? 51).map (fun i => (i.zero, i.size, i.bytes)) = some (some (.agg f256), 256, 256) := by kernel_rfl
theorem KeptX.drewN {β b : Nat} {a w : World} (h : KeptX β b a w) (k : Nat) : KeptX β b a (w.drewN k) := h.trans (KeptX.of_below (below_drewN (Below.refl _ _) k))
theorem le_same (a c : UInt8) : (decide (a ≤ c) && decide (c ≤ a)) = (a == c) := by
  rw [Bool.eq_iff_iff]; simp [UInt8.le_iff_toNat_le, ← UInt8.toNat_inj]; omega
def sizeS (v : Value) : Nat := match v with
  | .string s => s.size
  | _ => 0
set_option maxRecDepth 100000 in
set_option maxHeartbeats 1000000 in
theorem gbracket_any (L : List UInt8) (neg : Bool) (w : World) (_hL : L.length ≤ 2097152) :
    Calls Try.prog 36 #[.string (str L), .bool neg] w fun e w' => (∃ b nb, e = .returned (.agg #[.int .i64 1, .func (.func 39) #[] #[.pointer (some ⟨b, 0, none⟩), .pointer (some ⟨nb, 0, none⟩)]]) ∧ FnIs w' (.func (.func 39) #[] #[.pointer (some ⟨b, 0, none⟩), .pointer (some ⟨nb, 0, none⟩)]) (fun c => brk L c != neg)) ∧ Below w.heap.size w w' := by
  have hmf := makeFunc_run
  obtain ⟨i0, hi0, hz0, hz1, hz2⟩ := info_parts infoTabB
  obtain ⟨w0, hw0⟩ : ∃ w0, w0 = ((w.alloc (.cells #[.bool neg] 4)).alloc (.cells #[.int .i64 0, .nilFunc] 49)).alloc (.cells f256 51) := ⟨_, rfl⟩
  have hsz : w0.heap.size = w.heap.size + 3 := by rw [hw0]; simp
  have hB0 : Below w.heap.size w w0 := by rw [hw0]; exact (((Below.refl _ _).alloc (Nat.le_refl _) _).alloc (by simp) _).alloc (by simp; omega) _
  have hneg : Blk w0 w.heap.size 4 #[.bool neg] := by rw [hw0]; exact ((Blk.new w _ _).alloc _).alloc _
  have hth : Blk w0 (w.heap.size + 1) 49 #[.int .i64 0, .nilFunc] := by
    rw [hw0]
    have := (Blk.new (w.alloc (.cells #[.bool neg] 4)) 49 #[.int .i64 0, .nilFunc]).alloc (.cells f256 51)
    rwa [show (w.alloc (.cells #[.bool neg] 4)).heap.size = w.heap.size + 1 from by simp] at this
  have hT : Tab w0 (w.heap.size + 2) (fun _ => false) := by
    rw [hw0]
    have := Tab.new ((w.alloc (.cells #[.bool neg] 4)).alloc (.cells #[.int .i64 0, .nilFunc] 49))
    rwa [show ((w.alloc (.cells #[.bool neg] 4)).alloc (.cells #[.int .i64 0, .nilFunc] 49)).heap.size = w.heap.size + 2 from by simp] at this
  have HSZ2 := Lib.hid (show ((w.alloc (.cells #[.bool neg] 4)).alloc (.cells #[.int .i64 0, .nilFunc] 49)).heap.size = w.heap.size + 2 from by simp)
  have HW0 := Lib.hid hw0
  clear hw0
  go_enter Try.func36, Try.ntmps36
  go_wp2_with (refine wpList_alloc_any _ rfl 51 rfl i0 _ hi0 hz0 ?_; rw [show (Value.agg f256).cells = f256 from rfl, ← HW0.out, HSZ2.out])
  go_frame
  go_loopw [0] (fun x wr => ∃ (R : List UInt8) (f : UInt8 → Bool), x = .string (str R) ∧ R.length ≤ L.length ∧ Hid (∀ c, brk L c = (f c || brk R c)) ∧ Tab wr (w.heap.size + 2) f ∧ KeptX (w.heap.size + 3) (w.heap.size + 2) w0 wr) (fun x _ => sizeS x)
  case atStart => exact ⟨L, fun _ => false, rfl, Nat.le_refl _, fun c => rfl, hT, KeptX.refl _ _ _⟩
  case round =>
    obtain ⟨R, f, rfl, hRl, hR, hT, hK⟩ := hrel
    cases R with
    | nil =>
      have he := str_empty
      have hneg' := (hK.block w.heap.size (by omega) (by omega)).trans hneg
      have hth' := (hK.block (w.heap.size + 1) (by omega) (by omega)).trans hth
      have hc0 := Blk.cell hth' 0
      have hc1 := Blk.cell hth' 1
      have hf0 := Blk.frozen hth' 0
      have hf1 := Blk.frozen hth' 1
      simp only [List.getElem?_toArray, List.getElem?_cons_zero, List.getElem?_cons_succ] at hc0 hc1
      go_wp2_with fail
      have hfin := (Blk.set_ hth' 0 (.int .i64 1)).set_ 1 (.func (.func 39) #[] #[.pointer (some ⟨w.heap.size + 2, 0, none⟩), .pointer (some ⟨w.heap.size, 0, none⟩)])
      have hneg2 := (Blk.far hneg' (p := ⟨w.heap.size + 1, 0, none⟩) (by show w.heap.size ≠ w.heap.size + 1; omega) (.int .i64 1)).far (p := ⟨w.heap.size + 1, 1, none⟩) (by show w.heap.size ≠ w.heap.size + 1; omega) (.func (.func 39) #[] #[.pointer (some ⟨w.heap.size + 2, 0, none⟩), .pointer (some ⟨w.heap.size, 0, none⟩)])
      obtain ⟨cs, hb, hcs, hc⟩ := hT
      have hb2 := (Blk.far hb (p := ⟨w.heap.size + 1, 0, none⟩) (by show w.heap.size + 2 ≠ w.heap.size + 1; omega) (.int .i64 1)).far (p := ⟨w.heap.size + 1, 1, none⟩) (by show w.heap.size + 2 ≠ w.heap.size + 1; omega) (.func (.func 39) #[] #[.pointer (some ⟨w.heap.size + 2, 0, none⟩), .pointer (some ⟨w.heap.size, 0, none⟩)])
      have hBf : Below w.heap.size w _ := ((hB0.trans (hK.below (B := w.heap.size) (by omega) (by omega))).setCell (p := ⟨w.heap.size + 1, 0, none⟩) (by show w.heap.size ≤ w.heap.size + 1; omega) (.int .i64 1)).setCell (p := ⟨w.heap.size + 1, 1, none⟩) (by show w.heap.size ≤ w.heap.size + 1; omega) (.func (.func 39) #[] #[.pointer (some ⟨w.heap.size + 2, 0, none⟩), .pointer (some ⟨w.heap.size, 0, none⟩)])
      refine bodyPost_ret (v := .agg #[.int .i64 1, .func (.func 39) #[] #[.pointer (some ⟨w.heap.size + 2, 0, none⟩), .pointer (some ⟨w.heap.size, 0, none⟩)]]) (by refine results_cell_row (p := 4) (ty := 49) ?_ _ _ (w.heap.size + 1) _ _ _ _ ?_ hfin Try.underlying49 rfl (infoThingSize _ rfl) <;> rfl) rfl ⟨⟨_, _, rfl, .inr (.inr ⟨_, _, cs, neg, rfl, hb2, hneg2, f, hc, fun c => ?_⟩)⟩, hBf⟩
      show (brk L c != neg) = (f c != neg)
      rw [hR.out c]
      simp [brk]
    | cons a R =>
      have he := str_cons a R
      by_cases h45 : ∃ b r, R = 45 :: b :: r
      · obtain ⟨b, r, rfl⟩ := h45
        have hab := a.toNat_lt
        have hbb := b.toNat_lt
        have hs0 : (str (a :: 45 :: b :: r)).size = r.length + 3 := by rw [str_size]; rfl
        have hg0 : ∀ h : 0 < (str (a :: 45 :: b :: r)).size, (str (a :: 45 :: b :: r))[0]'h = a := fun _ => rfl
        have hg1 : ∀ h : 1 < (str (a :: 45 :: b :: r)).size, (str (a :: 45 :: b :: r))[1]'h = 45 := fun _ => rfl
        have hg2 : ∀ h : 2 < (str (a :: 45 :: b :: r)).size, (str (a :: 45 :: b :: r))[2]'h = b := fun _ => rfl
        go_wp2_with fail
        go_quiet (fail)
        go_wp2_with fail
        go_quiet (fail)
        go_wp2_with fail
        go_loopw [8] (fun i wq => ∃ q : Nat, a.toNat ≤ q ∧ (q ≤ (b).toNat + 1 ∨ q = a.toNat) ∧ i = .int .i64 q ∧ Tab wq (w.heap.size + 2) (rngF f a q) ∧ KeptX (w.heap.size + 3) (w.heap.size + 2) w0 wq) (fun i _ => 256 - (intOf i).toNat)
        case atStart => exact ⟨a.toNat, Nat.le_refl _, .inr rfl, rfl, (hT.drewN _).congr fun c => (rngF_zero f a c).symm, hK.drewN _⟩
        case round =>
          obtain ⟨q, hq1, hq2, rfl, hTq, hKq⟩ := hrel
          have hq4 := (b).toNat_lt
          have hq5 := a.toNat_lt
          by_cases hlt : q ≤ (b).toNat
          · have hq3 : q < 256 := by omega
            have hc := hTq.cell_q hq3
            have hf := hTq.frozen q
            go_wp2_with fail
            go_roundw
            case rel => exact ⟨q + 1, by omega, .inl (by omega), by go_num, hTq.set_q hq1 hq3, hKq.setCell (.inl rfl) _⟩
            case measure => simp [intOf]; omega
          · have hend := hTq.congr fun c => rngF_end f a (b) q (by omega) hq2 c
            clear hTq hq1 hq2
            go_wp2_with fail
            go_roundw
            case rel => exact ⟨(a :: 45 :: b :: r).drop 3, _, by rw [← str_from, hs0], by simp at hRl ⊢; omega, hide fun c => by rw [hR.out c, brk_range, Bool.or_assoc]; rfl, hend, hKq⟩
            case measure => simp only [sizeS, hs0, ByteArray.size_extract]; omega
      · have hne : ∀ b s, R ≠ 45 :: b :: s := fun b s e => h45 ⟨b, s, e⟩
        clear h45
        by_cases h2 : 2 ≤ R.length
        · obtain ⟨x, b, r, rfl⟩ : ∃ x b r, R = x :: b :: r := by
            match R, h2 with
            | x :: b :: r, _ => exact ⟨x, b, r, rfl⟩
          have hx : x ≠ 45 := fun e => hne b r (by rw [e])
          have hx2 : ((x.toNat : Int) == 45) = false := u8_beq_lit (n := 45) (by omega) hx
          have HNE := Lib.hid hne
          clear hne hx h2
          have hab := a.toNat_lt
          have hs0 : (str (a :: x :: b :: r)).size = r.length + 3 := by rw [str_size]; rfl
          have hg0 : ∀ h : 0 < (str (a :: x :: b :: r)).size, (str (a :: x :: b :: r))[0]'h = a := fun _ => rfl
          have hg1 : ∀ h : 1 < (str (a :: x :: b :: r)).size, (str (a :: x :: b :: r))[1]'h = x := fun _ => rfl
          go_wp2_with fail
          go_quiet (fail)
          go_wp2_with fail
          go_loopw [8] (fun i wq => ∃ q : Nat, a.toNat ≤ q ∧ (q ≤ (a).toNat + 1 ∨ q = a.toNat) ∧ i = .int .i64 q ∧ Tab wq (w.heap.size + 2) (rngF f a q) ∧ KeptX (w.heap.size + 3) (w.heap.size + 2) w0 wq) (fun i _ => 256 - (intOf i).toNat)
          case atStart => exact ⟨a.toNat, Nat.le_refl _, .inr rfl, rfl, (hT.drewN _).congr fun c => (rngF_zero f a c).symm, hK.drewN _⟩
          case round =>
            obtain ⟨q, hq1, hq2, rfl, hTq, hKq⟩ := hrel
            have hq4 := (a).toNat_lt
            have hq5 := a.toNat_lt
            by_cases hlt : q ≤ (a).toNat
            · have hq3 : q < 256 := by omega
              have hc := hTq.cell_q hq3
              have hf := hTq.frozen q
              go_wp2_with fail
              go_roundw
              case rel => exact ⟨q + 1, by omega, .inl (by omega), by go_num, hTq.set_q hq1 hq3, hKq.setCell (.inl rfl) _⟩
              case measure => simp [intOf]; omega
            · have hend := hTq.congr fun c => rngF_end f a (a) q (by omega) hq2 c
              clear hTq hq1 hq2
              go_wp2_with fail
              go_roundw
              case rel => exact ⟨(a :: x :: b :: r).drop 1, _, by rw [← str_from, hs0], by simp at hRl ⊢; omega, hide fun c => by rw [hR.out c, brk_one a _ c HNE.out, ← le_same a c, Bool.or_assoc]; rfl, hend, hKq⟩
              case measure => simp only [sizeS, hs0, ByteArray.size_extract]; omega
        · have HNE := Lib.hid hne
          clear hne
          have hab := a.toNat_lt
          have hs0 : (str (a :: R)).size = R.length + 1 := by rw [str_size]; rfl
          have hg0 : ∀ h : 0 < (str (a :: R)).size, (str (a :: R))[0]'h = a := fun _ => rfl
          go_wp2_with fail
          go_quiet (fail)
          go_wp2_with fail
          go_loopw [8] (fun i wq => ∃ q : Nat, a.toNat ≤ q ∧ (q ≤ (a).toNat + 1 ∨ q = a.toNat) ∧ i = .int .i64 q ∧ Tab wq (w.heap.size + 2) (rngF f a q) ∧ KeptX (w.heap.size + 3) (w.heap.size + 2) w0 wq) (fun i _ => 256 - (intOf i).toNat)
          case atStart => exact ⟨a.toNat, Nat.le_refl _, .inr rfl, rfl, (hT.drewN _).congr fun c => (rngF_zero f a c).symm, hK.drewN _⟩
          case round =>
            obtain ⟨q, hq1, hq2, rfl, hTq, hKq⟩ := hrel
            have hq4 := (a).toNat_lt
            have hq5 := a.toNat_lt
            by_cases hlt : q ≤ (a).toNat
            · have hq3 : q < 256 := by omega
              have hc := hTq.cell_q hq3
              have hf := hTq.frozen q
              go_wp2_with fail
              go_roundw
              case rel => exact ⟨q + 1, by omega, .inl (by omega), by go_num, hTq.set_q hq1 hq3, hKq.setCell (.inl rfl) _⟩
              case measure => simp [intOf]; omega
            · have hend := hTq.congr fun c => rngF_end f a (a) q (by omega) hq2 c
              clear hTq hq1 hq2
              go_wp2_with fail
              go_roundw
              case rel => exact ⟨(a :: R).drop 1, _, by rw [← str_from, hs0], by simp at hRl ⊢; omega, hide fun c => by rw [hR.out c, brk_one a _ c HNE.out, ← le_same a c, Bool.or_assoc]; rfl, hend, hKq⟩
              case measure => simp only [sizeS, hs0, ByteArray.size_extract]; omega
end Go.Proofs.Ytafiadlkfjacnaa
