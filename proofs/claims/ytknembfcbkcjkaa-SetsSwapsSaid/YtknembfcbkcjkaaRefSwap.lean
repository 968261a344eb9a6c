/-
  toolchestref04's place and Swap: contracts.
-/
import Derived.Test.YtknembfcbkcjkaaSwap
namespace Go.Proofs.Ytknembfcbkcjkaa
open Go.RowKit

def placeI (l : List UInt8) (c : UInt8) : Int := if c ∈ l then (l.idxOf c : Int) else -1
theorem idxOf_at (l : List UInt8) (c : UInt8) (k : Nat) (hk : k < l.length) (h : l[k] = c) (hno : ∀ j (hj : j < l.length), j < k → l[j] ≠ c) : c ∈ l ∧ l.idxOf c = k := by
  have hm : c ∈ l := by rw [← h]; exact List.getElem_mem hk
  have hi : l.idxOf c < l.length := List.idxOf_lt_length_iff.2 hm
  refine ⟨hm, ?_⟩
  have h1 : l[l.idxOf c] = c := List.getElem_idxOf hi
  rcases Nat.lt_trichotomy (l.idxOf c) k with h2 | h2 | h2
  · exact absurd h1 (hno _ hi h2)
  · exact h2
  · exact absurd h (by
      have := List.not_of_lt_findIdx (p := (· == c)) (xs := l) (i := k) (by unfold List.idxOf at h2; exact h2)
      simpa using this)

set_option maxHeartbeats 400000 in
theorem place_any (A : Option Addr) (n c B : Nat) (l : List UInt8) (x : UInt8) (w : World) (hr : Reads w B 1 A n (bv l)) (hn : n ≤ 2097152) :
    Calls Try.prog 9 #[.slice A n c, .int .u8 (x.toNat : Int)] w fun e w' => e = .returned (.int .i64 (placeI l x)) ∧ w = w' := by
  have hl : l.length = n := by have := hr.1; rw [bv_length] at this; omega
  have HL := Lib.hid hl
  clear hl
  go_enter Try.func9, Try.ntmps9
  go_wp2
  go_loop [5] (fun i => ∃ k : Nat, k ≤ n ∧ i = .int .i64 k ∧ ∀ j (hj : j < l.length), j < k → l[j] ≠ x) (fun i => n - (intOf i).toNat)
  case atStart => exact ⟨0, Nat.zero_le _, rfl, fun j _ h => by omega⟩
  case round =>
    obtain ⟨k, hk, rfl, hno⟩ := hrel
    have Hno := Lib.hid hno
    clear hno
    by_cases hlt : k < n
    · obtain ⟨ad, u, rfl, had, hu, hcell⟩ := hr.at_ hlt
      have hkl : k < l.length := by rw [HL.out]; exact hlt
      rw [bv_get l k hkl] at hu
      injection hu with hu
      subst hu
      clear hr
      by_cases hx : l[k] = x
      · have hq : (((l[k]).toNat : Int) == (x.toNat : Int)) = true := by simp [hx]
        have hres := Lib.hid (idxOf_at l x k hkl hx Hno.out)
        clear hx
        go_wp2
        go_ret
        exact ⟨ret_int (by unfold placeI; rw [if_pos hres.out.1, hres.out.2]), rfl⟩
      · have hq : (((l[k]).toNat : Int) == (x.toNat : Int)) = false := by
          simp only [beq_eq_false_iff_ne]
          intro e
          exact hx (u8_inj.2 (by omega))
        have Hx := Lib.hid hx
        clear hx
        go_wp2
        go_round
        case rel => exact ⟨k + 1, by omega, by go_num, fun j hj hjk => by
          rcases Nat.lt_succ_iff_lt_or_eq.1 hjk with h | h
          · exact Hno.out j hj h
          · subst h; exact Hx.out⟩
        case measure => simp [intOf]; omega
    · go_wp2
      go_ret
      exact ⟨ret_int (by
        unfold placeI
        rw [if_neg]
        intro hm
        obtain ⟨j, hj, e⟩ := List.getElem_of_mem hm
        exact Hno.out j hj (by have := HL.out; omega) e), rfl⟩

theorem place_in (A : Option Addr) (n c B : Nat) (l : List UInt8) (q : Nat) (hq : q < 256) (w : World) (hr : Reads w B 1 A n (bv l)) (hn : n ≤ 2097152) (hin : UInt8.ofNat q ∈ l) :
    Calls Try.prog 9 #[.slice A n c, .int .u8 (q : Int)] w fun e w' => e = .returned (.int .i64 (l.idxOf (UInt8.ofNat q) : Nat)) ∧ w = w' := by
  have h := place_any A n c B l (UInt8.ofNat q) w hr hn
  rw [ofNat_toNat q hq] at h
  unfold placeI at h
  rw [if_pos hin] at h
  exact h
theorem place_out (A : Option Addr) (n c B : Nat) (l : List UInt8) (q : Nat) (hq : q < 256) (w : World) (hr : Reads w B 1 A n (bv l)) (hn : n ≤ 2097152) (hin : UInt8.ofNat q ∉ l) :
    Calls Try.prog 9 #[.slice A n c, .int .u8 (q : Int)] w fun e w' => e = .returned (.int .i64 (-1)) ∧ w = w' := by
  have h := place_any A n c B l (UInt8.ofNat q) w hr hn
  rw [ofNat_toNat q hq] at h
  unfold placeI at h
  rw [if_neg hin] at h
  exact h

set_option maxRecDepth 100000 in
set_option maxHeartbeats 1000000 in
theorem refSwap_any (s : ByteArray) (A A' : Option Addr) (n c m c' : Nat) (fr to : List UInt8) (w : World) (hr : Reads w w.heap.size 1 A n (bv fr)) (hr' : Reads w w.heap.size 1 A' m (bv to)) (hm : 0 < m ∨ (n = 0 ∧ m = 0))
    (hn2 : n ≤ 2097152) (hm2 : m ≤ 2097152) (hs : s.size ≤ 2097152) :
    Calls Try.prog 7 #[.string s, .slice A n c, .slice A' m c'] w fun e w' => e = .returned (.tuple #[.string ⟨(s.data.toList.map (swapB fr to)).toArray⟩, .int .i64 0]) ∧ Below w.heap.size w w' := by
  obtain ⟨i0, hi0, hz0, hz1, hz2⟩ := info_parts infoTab
  obtain ⟨i1, hi1, hy0, hy1, hy2⟩ := info_parts infoU8
  have hl : fr.length = n := by have := hr.1; rw [bv_length] at this; omega
  have hl' : to.length = m := by have := hr'.1; rw [bv_length] at this; omega
  have HL := Lib.hid hl
  have HL' := Lib.hid hl'
  clear hl hl'
  go_enter Try.func7, Try.ntmps7
  have hnm : 0 < n → 0 < m := by omega
  have hm0 : ((m : Int) == 0) = false ∨ (n = 0 ∧ m = 0) := by
    rcases hm with hm | hm
    · exact .inl (by simp; omega)
    · exact .inr hm
  clear hm
  rcases hm0 with hm0 | ⟨rfl, rfl⟩
  all_goals
    go_wp2_with (refine wpList_alloc_any _ rfl 31 rfl i0 _ hi0 hz0 ?_; have hb0 := Buf.new w z256 31 (fun _ => .int .u8 0) 256 (by simp [z256]) z256_at; have hB0 : Below w.heap.size w (w.alloc (.cells z256 31)) := (Below.refl _ _).alloc (Nat.le_refl _) _; change wpList _ _ _ _ _ (w.alloc (.cells z256 31)); obtain ⟨w1, hw1⟩ : ∃ w1, w1 = w.alloc (.cells z256 31) := ⟨_, rfl⟩; rw [← hw1] at hb0 hB0 ⊢; clear hw1)
    go_loopw [9] (fun i wr => ∃ q : Nat, q ≤ 256 ∧ i = .int .i64 q ∧ Buf wr w.heap.size 256 (fun j => .int .u8 ((if j < q then swapB fr to (UInt8.ofNat j) else 0).toNat : Int)) ∧ Below w.heap.size w wr) (fun i _ => 256 - (intOf i).toNat)
    case atStart => exact ⟨0, by omega, rfl, hb0.congr (fun i _ => by rw [if_neg (by omega)]; rfl), hB0⟩
    case round =>
      obtain ⟨q, hq, rfl, hb, hB⟩ := hrel
      by_cases hlt : q < 256
      · have hc := hb.cell hlt
        have hf := hb.frozen hlt
        have hB2 : Below w.heap.size w (wr.setCell ⟨w.heap.size, q, none⟩ (.int .u8 (q : Int))) := hB.setCell (Nat.le_refl _) _
        have hb2 := hb.set q (.int .u8 (q : Int))
        by_cases hin : UInt8.ofNat q ∈ fr
        · have hk : fr.idxOf (UInt8.ofNat q) < fr.length := List.idxOf_lt_length_iff.2 hin
          have hk2 := hk
          rw [HL.out] at hk2
          try (exfalso; omega)
          all_goals
            have hm := hnm (by omega)
            have Hsw := Lib.hid (show swapB fr to (UInt8.ofNat q) = to.getD (min (fr.idxOf (UInt8.ofNat q)) (to.length - 1)) 0 from if_pos hin)
            obtain ⟨k, hke⟩ : ∃ k, k = fr.idxOf (UInt8.ofNat q) := ⟨_, rfl⟩
            have hpl := fun c => place_in A _ c w.heap.size fr q hlt _ (hr.below hB2) hn2 hin
            rw [← hke] at hk hk2 Hsw hpl
            clear hke hin
            have hmk : min k (m - 1) < m := by omega
            obtain ⟨ad', u', rfl, had', hu', hcell'⟩ := (hr'.below hB2).at_ hmk
            have hml : min k (m - 1) < to.length := by rw [HL'.out]; omega
            rw [bv_get to _ hml] at hu'
            injection hu' with hu'
            subst hu'
            have hmin : (if (m : Int) - 1 < (k : Int) then (m : Int) - 1 else (k : Int)).toNat = min k (m - 1) := by split <;> omega
            have hcm : (wr.setCell ⟨w.heap.size, q, none⟩ (.int .u8 (q : Int))).cell? (ad'.add (if (m : Int) - 1 < (k : Int) then (m : Int) - 1 else (k : Int)).toNat) = some (.int .u8 ((to[min k (m - 1)]).toNat : Int)) := by rw [hmin]; exact hcell'
            clear hmin hcell'
            go_wp2_with (go_at_call 9; refine (hpl _).mono ?_; rintro e w' ⟨rfl, rfl⟩)
            go_roundw
            case rel =>
              refine ⟨q + 1, by omega, by go_num, ((hb.set q _).set q _).congr (fun i hi => ?_), (hB2.setCell (p := ⟨w.heap.size, q, none⟩) (Nat.le_refl _) _)⟩
              show (if i = q then _ else (if i = q then _ else _)) = _
              by_cases h1 : i = q
              · subst h1
                rw [if_pos rfl, if_pos (by omega), Hsw.out, HL'.out, List.getD_eq_getElem?_getD, List.getElem?_eq_getElem hml]; rfl
              · rw [if_neg h1, if_neg h1]
                by_cases h2 : i < q
                · rw [if_pos h2, if_pos (by omega)]
                · rw [if_neg h2, if_neg (by omega)]
            case measure => simp [intOf]; omega
        · have Hsw := Lib.hid (show swapB fr to (UInt8.ofNat q) = UInt8.ofNat q from if_neg hin)
          have hpl := fun c => place_out A _ c w.heap.size fr q hlt _ (hr.below hB2) hn2 hin
          clear hin
          go_wp2_with (go_at_call 9; refine (hpl _).mono ?_; rintro e w' ⟨rfl, rfl⟩)
          go_roundw
          case rel =>
            refine ⟨q + 1, by omega, by go_num, (hb.set q _).congr (fun i hi => ?_), hB2⟩
            show (if i = q then _ else _) = _
            by_cases h1 : i = q
            · subst h1
              rw [if_pos rfl, if_pos (by omega), Hsw.out, ofNat_toNat i hi]
            · rw [if_neg h1]
              by_cases h2 : i < q
              · rw [if_pos h2, if_pos (by omega)]
              · rw [if_neg h2, if_neg (by omega)]
          case measure => simp [intOf]; omega
      · have hT : Buf wr w.heap.size 256 (fun j => .int .u8 ((swapB fr to (UInt8.ofNat j)).toNat : Int)) := hb.congr (fun i hi => by rw [if_pos (by omega)])
        clear hb hb0 hB0
        obtain ⟨w2, rfl⟩ : ∃ w2 : World, w2 = wr := ⟨_, rfl⟩
        go_wp2
        have hgt := hT.lt
        obtain ⟨Ls, hLs⟩ : ∃ Ls, Ls = s.data.toList.map (swapB fr to) := ⟨_, rfl⟩
        have hLl : Ls.length = s.size := by rw [hLs]; simp
        have hLk : ∀ k (h : k < Ls.length) (h2 : k < s.size), Ls[k] = swapB fr to s[k] := fun k h h2 => by simp only [hLs, List.getElem_map]; rfl
        have HLs := Lib.hid hLs
        have HLl := Lib.hid hLl
        have HLk := Lib.hid hLk
        clear hLl hLk hLs hr hr'
        go_loopw [11, 12] (fun v i wr => ∃ k : Nat, k ≤ s.size ∧ i = .int .i64 k ∧ wr.ownsRow (w.heap.size + 1) 5 1 v k (bv (Ls.take k)) ∧ Buf wr w.heap.size 256 (fun j => .int .u8 ((swapB fr to (UInt8.ofNat j)).toNat : Int)) ∧ Below w.heap.size w wr) (fun _ i _ => s.size - (intOf i).toNat)
        case atStart => exact ⟨0, Nat.zero_le _, rfl, World.ownsRow_nil _ _ _ _, hT, hB⟩
        case round =>
          obtain ⟨k, hk, rfl, hown, hT, hB⟩ := hrel
          by_cases hlt : k < s.size
          · have hx := UInt8.toNat_lt s[k]
            have hc := hT.cell hx
            rw [u8_of] at hc
            have hbs := hT.lt
            go_wp2_with (at_builtin; refine wpList_append_own _ rfl (.tmp 51) (.tmp 57) 22 rfl (w.heap.size + 1) 5 i1 (.int .u8 0) 1 1 Try.underlying22 hi1 hy0 hy1 hy2 rfl (by decide) _ _ _ rfl (hown.alloc _) ⟨wr.heap.size, 0, none⟩ 1 1 [.int .u8 ((swapB fr to s[k]).toNat : Int)] rfl rfl (cell_one_new _ _ _) (by intro u hu; simp at hu; subst hu; rfl) (by unfold maxLen; omega) (by omega) (by simp; omega) ?_; intro v2 w3 hown2 hg2 _)
            have hB3 := (hB.alloc hB.size _).grown hg2 (by simp; omega) (fun q e => by have := own_ge hown q e; omega)
            have hT3 := (hT.alloc _).grown hg2 (own_ne hown (by omega))
            clear hown hc hg2
            go_roundw
            case rel => exact ⟨k + 1, by omega, by go_num, by rw [bv_snoc Ls k (by rw [HLl.out]; exact hlt), HLk.out k _ hlt]; exact hown2, hT3, hB3⟩
            case measure => simp [intOf]; omega
          · obtain rfl : k = s.size := by omega
            rw [List.take_of_length_le (by rw [HLl.out]; exact Nat.le_refl _)] at hown
            obtain ⟨A3, c3, rfl⟩ := own_slice hown
            have hrd := Reads.of_own hown
            go_wp2_with (refine wpList_string_of_bytes _ rfl (.tmp 59) 22 9 5 rfl Try.underlying22 Try.underlying5 Try.underlying9 _ _ _ _ Ls rfl hrd ?_)
            go_ret2
            rw [HLs.out]
            exact ⟨rfl, hB⟩
theorem refSwap_noto (s : ByteArray) (A A' : Option Addr) (n c c' : Nat) (w : World) (hn : 0 < n) :
    Calls Try.prog 7 #[.string s, .slice A n c, .slice A' 0 c'] w fun e w' => e = .returned (.tuple #[.string ⟨#[]⟩, .int .i64 1]) ∧ w = w' := by
  go_enter Try.func7, Try.ntmps7
  go_wp2
  go_ret2
  exact ⟨rfl, rfl⟩

theorem swap_all (s : ByteArray) (A A' : Option Addr) (n c m c' : Nat) (fr to : List UInt8) (w : World) (hr : Reads w w.heap.size 1 A n (bv fr)) (hr' : Reads w w.heap.size 1 A' m (bv to))
    (hn2 : n ≤ 2097152) (hm2 : m ≤ 2097152) (hs : s.size ≤ 2097152) :
    Calls Try.prog 6 #[.string s, .slice A n c, .slice A' m c'] w fun e w' => e = .returned (.tuple #[.string (swS fr to s), .int .i64 (swE fr to)]) ∧ Below w.heap.size w w' := by
  have hl : fr.length = n := by have := hr.1; rw [bv_length] at this; omega
  have hl' : to.length = m := by have := hr'.1; rw [bv_length] at this; omega
  rcases Nat.eq_zero_or_pos n with h | h
  · subst h
    have hf : fr = [] := List.eq_nil_of_length_eq_zero hl
    refine (swap_nofrom s A A' c m c' w).mono fun e w' h => ⟨?_, h.2 ▸ Below.refl _ _⟩
    rw [h.1]; unfold swS swE; rw [if_pos hf, if_pos hf]
  · have hf : fr ≠ [] := fun e => by rw [e] at hl; simp at hl; omega
    rcases Nat.eq_zero_or_pos m with h' | h'
    · subst h'
      have ht : to = [] := List.eq_nil_of_length_eq_zero hl'
      refine (swap_noto s A A' n c c' w h).mono fun e w' h => ⟨?_, h.2 ▸ Below.refl _ _⟩
      rw [h.1]; unfold swS swE; rw [if_neg hf, if_neg hf, if_pos ht, if_pos ht]
    · have ht : to ≠ [] := fun e => by rw [e] at hl'; simp at hl'; omega
      refine (swap_any s A A' n c m c' fr to w hr hr' h h' hn2 hm2 hs).mono fun e w' h => ⟨?_, h.2⟩
      rw [h.1]; unfold swS swE; rw [if_neg hf, if_neg hf, if_neg ht, if_neg ht]

theorem refSwap_all (s : ByteArray) (A A' : Option Addr) (n c m c' : Nat) (fr to : List UInt8) (w : World) (hr : Reads w w.heap.size 1 A n (bv fr)) (hr' : Reads w w.heap.size 1 A' m (bv to))
    (hn2 : n ≤ 2097152) (hm2 : m ≤ 2097152) (hs : s.size ≤ 2097152) :
    Calls Try.prog 7 #[.string s, .slice A n c, .slice A' m c'] w fun e w' => e = .returned (.tuple #[.string (swS fr to s), .int .i64 (swE fr to)]) ∧ Below w.heap.size w w' := by
  have hl : fr.length = n := by have := hr.1; rw [bv_length] at this; omega
  have hl' : to.length = m := by have := hr'.1; rw [bv_length] at this; omega
  rcases Nat.eq_zero_or_pos n with h | h
  · subst h
    have hf : fr = [] := List.eq_nil_of_length_eq_zero hl
    refine (refSwap_any s A A' 0 c m c' fr to w hr hr' (by omega) hn2 hm2 hs).mono fun e w' h => ⟨?_, h.2⟩
    rw [h.1]; unfold swS swE; rw [if_pos hf, if_pos hf, hf, swapB_nil]; simp
  · have hf : fr ≠ [] := fun e => by rw [e] at hl; simp at hl; omega
    rcases Nat.eq_zero_or_pos m with h' | h'
    · subst h'
      have ht : to = [] := List.eq_nil_of_length_eq_zero hl'
      refine (refSwap_noto s A A' n c c' w h).mono fun e w' h => ⟨?_, h.2 ▸ Below.refl _ _⟩
      rw [h.1]; unfold swS swE; rw [if_neg hf, if_neg hf, if_pos ht, if_pos ht]
    · have ht : to ≠ [] := fun e => by rw [e] at hl'; simp at hl'; omega
      refine (refSwap_any s A A' n c m c' fr to w hr hr' (.inl h') hn2 hm2 hs).mono fun e w' h => ⟨?_, h.2⟩
      rw [h.1]; unfold swS swE; rw [if_neg hf, if_neg hf, if_neg ht, if_neg ht]
end Go.Proofs.Ytknembfcbkcjkaa
