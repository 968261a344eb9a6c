/-
  sets.Swap: its contract.
-/
import Derived.Test.YtknembfcbkcjkaaTwin
import Derived.Test.YtknembfcbkcjkaaSwapPlain
namespace Go.Proofs.Ytknembfcbkcjkaa
open Go.RowKit

def z256 : Array Value := Array.replicate 256 (Value.int .u8 0)
theorem infoTab : (Try.prog.info? 31).map (fun i => (i.zero, i.size, i.bytes)) = some (some (.agg z256), 256, 256) := by kernel_rfl
theorem z256_at (i : Nat) (h : i < 256) : z256[i]? = some (Value.int .u8 0) := by simp [z256, h]

set_option maxRecDepth 100000 in
set_option maxHeartbeats 1000000 in
theorem swap_any (s : ByteArray) (A A' : Option Addr) (n c m c' : Nat) (fr to : List UInt8) (w : World) (hr : Reads w w.heap.size 1 A n (bv fr)) (hr' : Reads w w.heap.size 1 A' m (bv to)) (hn : 0 < n) (hm : 0 < m)
    (hn2 : n ≤ 2097152) (hm2 : m ≤ 2097152) (hs : s.size ≤ 2097152) :
    Calls Try.prog 6 #[.string s, .slice A n c, .slice A' m c'] w fun e w' => e = .returned (.tuple #[.string ⟨(s.data.toList.map (swapB fr to)).toArray⟩, .int .i64 0]) ∧ Below w.heap.size w w' := by
  obtain ⟨i0, hi0, hz0, hz1, hz2⟩ := info_parts infoTab
  have hl : fr.length = n := by have := hr.1; rw [bv_length] at this; omega
  have hl' : to.length = m := by have := hr'.1; rw [bv_length] at this; omega
  have HL := Lib.hid hl
  have HL' := Lib.hid hl'
  clear hl hl'
  have hn0 : ((n : Int) == 0) = false := by simp; omega
  have hm0 : ((m : Int) == 0) = false := by simp; omega
  go_enter Try.func6, Try.ntmps6
  go_wp2_with (refine wpList_alloc_any _ rfl 31 rfl i0 _ hi0 hz0 ?_; have hb0 := Buf.new w z256 31 (fun _ => .int .u8 0) 256 (by simp [z256]) z256_at; have hB0 : Below w.heap.size w (w.alloc (.cells z256 31)) := (Below.refl _ _).alloc (Nat.le_refl _) _; change wpList _ _ _ _ _ (w.alloc (.cells z256 31)); obtain ⟨w1, hw1⟩ : ∃ w1, w1 = w.alloc (.cells z256 31) := ⟨_, rfl⟩; rw [← hw1] at hb0 hB0 ⊢; clear hw1)
  have hg1 := hb0.lt
  go_loopw [21] (fun i wr => ∃ k : Nat, k ≤ 256 ∧ i = .int .i64 k ∧ Buf wr w.heap.size 256 (fun j => if j < k then .int .u8 (j : Int) else .int .u8 0) ∧ Below w.heap.size w wr) (fun i _ => 256 - (intOf i).toNat)
  case atStart => exact ⟨0, by omega, rfl, hb0.congr (fun i _ => by rw [if_neg (by omega)]), hB0⟩
  case round =>
    obtain ⟨k, hk, rfl, hb, hB⟩ := hrel
    by_cases hlt : k < 256
    · have hc := hb.cell hlt
      have hf := hb.frozen hlt
      go_wp2
      go_roundw
      case rel => 
        exact ⟨k + 1, by omega, by go_num, (hb.set k _).congr (fun i _ => by
          show (if i = k then _ else _) = _
          by_cases h1 : i = k
          · subst h1
            rw [if_pos rfl, if_pos (by omega)]
          · rw [if_neg h1]
            by_cases h2 : i < k
            · rw [if_pos h2, if_pos (by omega)]
            · rw [if_neg h2, if_neg (by omega)]), hB.setCell (Nat.le_refl _) _⟩
      case measure => simp [intOf]; omega
    · obtain rfl : k = 256 := by omega
      have hT : Buf wr w.heap.size 256 (fun j => .int .u8 ((tabK fr to n (UInt8.ofNat j)).toNat : Int)) := hb.congr (fun i hi => by
        rw [if_pos hi, ← HL.out, tabK_end, ofNat_toNat i hi])
      clear hb hb0 hB0
      obtain ⟨w2, rfl⟩ : ∃ w2 : World, w2 = wr := ⟨_, rfl⟩
      go_wp2
      go_loopw [10] (fun i wr => ∃ k : Nat, k ≤ n ∧ i = .int .i64 ((k : Int) - 1) ∧ Buf wr w.heap.size 256 (fun j => .int .u8 ((tabK fr to k (UInt8.ofNat j)).toNat : Int)) ∧ Below w.heap.size w wr) (fun i _ => (intOf i + 1).toNat)
      case atStart => exact ⟨n, Nat.le_refl _, rfl, hT, hB⟩
      case round =>
        obtain ⟨k, hk, rfl, hT, hB⟩ := hrel
        by_cases hk0 : 0 < k
        · obtain ⟨k, rfl⟩ : ∃ q, k = q + 1 := ⟨k - 1, by omega⟩
          obtain ⟨ad, u, rfl, had, hu, hcell⟩ := (hr.below hB).at_ (show k < n by omega)
          have hkl : k < fr.length := by rw [HL.out]; omega
          rw [bv_get fr k hkl] at hu
          injection hu with hu
          subst hu
          have hmk : min k (m - 1) < m := by omega
          obtain ⟨ad', u', rfl, had', hu', hcell'⟩ := (hr'.below hB).at_ hmk
          have hml : min k (m - 1) < to.length := by rw [HL'.out]; omega
          rw [bv_get to _ hml] at hu'
          injection hu' with hu'
          subst hu'
          have hx := UInt8.toNat_lt fr[k]
          have hc3 := hT.cell hx
          have hf3 := hT.frozen hx
          have hmin : (if (m : Int) - 1 < (k : Int) then (m : Int) - 1 else (k : Int)).toNat = min k (m - 1) := by split <;> omega
          have hcm : wr.cell? (ad'.add (if (m : Int) - 1 < (k : Int) then (m : Int) - 1 else (k : Int)).toNat) = some (.int .u8 ((to[min k (m - 1)]).toNat : Int)) := by rw [hmin]; exact hcell'
          clear hmin hcell'
          go_wp2
          go_region
          all_goals go_wp2
          go_roundw
          case rel =>
            refine ⟨k, by omega, by go_num, (hT.set _ _).congr (fun i hi => ?_), (hB.setCell (p := ⟨w.heap.size, _, none⟩) (Nat.le_refl _) _).drew⟩
            show (if i = (fr[k]).toNat then _ else _) = _
            rw [tabK_step fr to k hkl]
            by_cases h1 : i = (fr[k]).toNat
            · rw [if_pos h1, if_pos (u8_inj.2 (by rw [ofNat_toNat i hi]; exact h1)), HL'.out, List.getD_eq_getElem?_getD, List.getElem?_eq_getElem hml]; rfl
            · rw [if_neg h1, if_neg (fun e => h1 (by rw [← e, ofNat_toNat i hi]))]
          case measure => simp [intOf]
        · obtain rfl : k = 0 := by omega
          have hbs := hB.size
          go_wp2_with (refine wpList_bytes_of_string _ rfl (.tmp 49) 9 22 5 rfl Try.underlying9 Try.underlying22 Try.underlying5 s rfl ?_; intro cap w3 hcap hb3 hB3 hsz3)
          have hT3 : Buf w3 w.heap.size 256 (fun j => .int .u8 ((swapB fr to (UInt8.ofNat j)).toNat : Int)) := (hT.below hB3 hT.lt).congr (fun i hi => by rw [tabK_zero])
          have hB4 := hB.trans (hB3.mono hbs)
          have hgt := hT.lt
          clear hT hB3 hB hr hr'
          obtain ⟨wo, rfl⟩ : ∃ wo : World, wo = wr := ⟨_, rfl⟩
          go_loopw [53] (fun i wr => ∃ k : Nat, k ≤ s.size ∧ i = .int .i64 k ∧ Buf wr wo.heap.size s.size (fun j => .int .u8 ((if j < k then swapB fr to (s.data.toList.getD j 0) else s.data.toList.getD j 0).toNat : Int)) ∧ Buf wr w.heap.size 256 (fun j => .int .u8 ((swapB fr to (UInt8.ofNat j)).toNat : Int)) ∧ Below w.heap.size w wr) (fun i _ => s.size - (intOf i).toNat)
          case atStart => exact ⟨0, Nat.zero_le _, rfl, hb3.congr (fun i _ => by rw [if_neg (by omega)]), hT3, hB4⟩
          case round =>
            obtain ⟨k, hk, rfl, hb, hT, hB⟩ := hrel
            by_cases hlt : k < s.size
            · have hx := UInt8.toNat_lt (s.data.toList.getD k 0)
              have hc1 := hb.cell hlt
              have hf1 := hb.frozen hlt
              have hc2 := hT.cell hx
              rw [if_neg (by omega)] at hc1
              rw [u8_of] at hc2
              obtain ⟨x, hxe⟩ : ∃ x, x = s.data.toList.getD k 0 := ⟨_, rfl⟩
              rw [← hxe] at hx hc1 hc2
              have HX := Lib.hid hxe
              clear hxe
              go_wp2
              go_roundw
              case rel =>
                refine ⟨k + 1, by omega, by go_num, (hb.set k _).congr (fun i hi => ?_), hT.far (a := ⟨wo.heap.size, k, none⟩) (Nat.ne_of_lt hgt) _, hB.setCell (p := ⟨wo.heap.size, k, none⟩) hbs _⟩
                show (if i = k then _ else _) = _
                by_cases h1 : i = k
                · subst h1
                  rw [if_pos rfl, if_pos (by omega), HX.out]
                · rw [if_neg h1]
                  by_cases h2 : i < k
                  · rw [if_pos h2, if_pos (by omega)]
                  · rw [if_neg h2, if_neg (by omega)]
              case measure => simp [intOf]; omega
            · obtain rfl : k = s.size := by omega
              have hrd : Reads wr wr.heap.size 1 (some ⟨wo.heap.size, 0, none⟩) s.size (bv (s.data.toList.map (swapB fr to))) := hb.reads (by simp [bv]) (Nat.le_refl _) (fun j hj => by
                rw [bv_get _ _ (by simpa using hj)]
                simp [hj, List.getD_eq_getElem?_getD]) hb.lt
              go_wp2_with (refine wpList_string_of_bytes _ rfl (.tmp 65) 22 9 5 rfl Try.underlying22 Try.underlying5 Try.underlying9 _ _ _ _ (s.data.toList.map (swapB fr to)) rfl hrd ?_)
              go_ret2
              exact ⟨rfl, hB⟩

theorem swap_nofrom (s : ByteArray) (A A' : Option Addr) (c m c' : Nat) (w : World) :
    Calls Try.prog 6 #[.string s, .slice A 0 c, .slice A' m c'] w fun e w' => e = .returned (.tuple #[.string s, .int .i64 0]) ∧ w = w' := by
  go_enter Try.func6, Try.ntmps6
  go_wp2
  go_ret2
  exact ⟨rfl, rfl⟩
theorem swap_noto (s : ByteArray) (A A' : Option Addr) (n c c' : Nat) (w : World) (hn : 0 < n) :
    Calls Try.prog 6 #[.string s, .slice A n c, .slice A' 0 c'] w fun e w' => e = .returned (.tuple #[.string ⟨#[]⟩, .int .i64 1]) ∧ w = w' := by
  have hn0 : ((n : Int) == 0) = false := by simp; omega
  go_enter Try.func6, Try.ntmps6
  go_wp2
  go_ret2
  exact ⟨rfl, rfl⟩
end Go.Proofs.Ytknembfcbkcjkaa
