/-
  codec.reader: text; numbers by a method value: contracts.
-/
import Derived.Test.YtejneiakpeeamaaCodecPlain
namespace Go.Proofs.Ytejneiakpeeamaa
open Go.RowKit

theorem WK.rd {g B size n : Nat} {r' : Option Nat} {w w' : World} {A : Option Addr} {xs : List Value} (h : WK g none w w' r') (hr : Reads w B size A n xs) (hB : B ≤ g) (hg : g < w.heap.size) : Reads w' B size A n xs := by
  refine ⟨hr.1, fun hn => ?_⟩
  obtain ⟨ad, e, hlt, hc⟩ := hr.2 hn
  refine ⟨ad, e, hlt, fun j u hu => ?_⟩
  have hb := h.block ad.block (by omega) (by omega) (by simp)
  rw [← hc j u hu]
  simp only [World.cell?, block_of_add, hb]
theorem IsR.lt {g : Nat} {A : Option Addr} {n c : Nat} {s : RS} {w : World} (h : IsR g A n c s w) : g < w.heap.size := Blk.lt h

set_option maxHeartbeats 400000 in
theorem text_any (g : Nat) (A : Option Addr) (n c : Nat) (L : List UInt8) (s : RS) (B : Nat) (w : World) (h : IsR g A n c s w) (hr : Reads w B 1 A n (bv L)) (hs : s.at_ ≤ n) (hBg : B ≤ g) (hn : n ≤ 140737488351232) (hnc : n ≤ c) (hc : c ≤ 9223372036854775807) :
    Calls Try.prog 25 #[.pointer (some ⟨g, 0, none⟩)] w fun e w' => e = .returned (.string ⟨(txtV L s).toArray⟩) ∧ IsR g A n c (txtS L s) w' ∧ WK g none w w' none := by
  have hl : L.length = n := by have := hr.1; simp [bv] at this; exact this
  have hgl := h.lt
  have hcs : (cntS L s 65536).at_ ≤ n := by have := cntS_at (m := 65536) (L := L) (s := s) (by rw [hl]; exact hs); rw [hl] at this; exact this
  have hcv := cntV_le L s 65536
  have HT : Hid (takeL L (cntS L s 65536) (cntV L s 65536) = txtV L s) := hide rfl
  have HS : Hid (takeS L (cntS L s 65536) (cntV L s 65536) = txtS L s) := hide rfl
  have hcnt := count_any g A n c L s 65536 B w h hr hs hBg hn hnc hc (by decide)
  generalize cntS L s 65536 = s1 at hcnt hcs HT HS
  generalize cntV L s 65536 = m at hcnt hcv HT HS
  have HCNT := Lib.hid hcnt
  clear hcnt hl h
  go_enter Try.func25, Try.ntmps25
  go_wp2_with fail
  refine HCNT.out.mono ?_
  rintro e w1 ⟨rfl, hR1, hk1⟩
  go_wp2_with fail
  refine (take_any g A n c L s1 m B w1 hR1 (hk1.rd hr hBg hgl) hcs hBg hn (by omega) hnc hc).mono ?_
  rintro e w2 ⟨A', c', rfl, hr2, hR2, hk2⟩
  rw [HT.out] at hr2
  go_wp2_with (refine wpList_string_of_bytes _ rfl (.tmp 6) 22 9 5 rfl Try.underlying22 Try.underlying5 Try.underlying9 _ _ _ _ (txtV L s) (by rw [HT.out]; rfl) hr2 ?_)
  go_ret
  exact ⟨rfl, by rw [← HS.out]; exact hR2, hk1.trans hk2⟩

/-- The cells at some places, each with the next number that is read. -/
def setNums (L : List UInt8) : List Nat → RS → Array Value → Array Value
  | [], _, cs => cs
  | o :: os, s, cs => setNums L os (takeS L s 8) (cs.setIfInBounds o (.int .i64 (numV L s)))
def numsS (L : List UInt8) : Nat → RS → RS
  | 0, s => s
  | k + 1, s => takeS L (numsS L k s) 8
theorem numsS_at {L : List UInt8} {s : RS} (h : s.at_ ≤ L.length) : ∀ k, (numsS L k s).at_ ≤ L.length
  | 0 => h
  | k + 1 => takeS_at (numsS_at h k)
theorem numsS_shift (L : List UInt8) (s : RS) : ∀ k, numsS L k (takeS L s 8) = numsS L (k + 1) s
  | 0 => rfl
  | k + 1 => by show takeS L (numsS L k (takeS L s 8)) 8 = takeS L (numsS L (k + 1) s) 8; rw [numsS_shift L s k]
theorem setNums_snoc (L : List UInt8) (o : Nat) : ∀ (os : List Nat) (s : RS) (cs : Array Value), setNums L (os ++ [o]) s cs = (setNums L os s cs).setIfInBounds o (.int .i64 (numV L (numsS L os.length s)))
  | [], s, cs => rfl
  | a :: os, s, cs => by
    show setNums L (os ++ [o]) _ _ = (setNums L os _ _).setIfInBounds o _
    rw [setNums_snoc L o os, numsS_shift]; rfl
theorem setNums_size (L : List UInt8) : ∀ (os : List Nat) (s : RS) (cs : Array Value), (setNums L os s cs).size = cs.size
  | [], _, _ => rfl
  | o :: os, s, cs => by show (setNums L os _ _).size = _; rw [setNums_size L os]; simp
theorem WK.two {g gc : Nat} {w w' : World} (h : WK g none w w' none) : WK gc (some g) w w' (some g) :=
  ⟨h.os, h.tape, h.output, h.size, fun k hk _ hg => h.block k hk (fun e => hg (by rw [e])) (by simp), .inl rfl⟩
theorem wk_setCell (gc : Nat) (r : Option Nat) (o : Nat) (v : Value) (w : World) : WK gc r w (w.setCell ⟨gc, o, none⟩ v) r :=
  ⟨rfl, rfl, rfl, by simp [World.setCell], fun k _ hg _ => Below.heap_setCell w ⟨gc, o, none⟩ v k hg, .inl rfl⟩

set_option maxHeartbeats 1000000 in
set_option maxRecDepth 100000 in
theorem numbers_any (g gc : Nat) (A : Option Addr) (n c : Nat) (L : List UInt8) (s : RS) (B gp m c2 : Nat) (T : TypeId) (cs : Array Value) (os : List Nat) (w : World) (h : IsR g A n c s w) (hr : Reads w B 1 A n (bv L)) (hs : s.at_ ≤ n) (hBg : B ≤ g) (hn : n ≤ 140737488351232) (hnc : n ≤ c) (hc : c ≤ 9223372036854775807)
    (hb : Blk w gc T cs) (hBc : B ≤ gc) (hne : gc ≠ g) (hp : Reads w w.heap.size 1 (some ⟨gp, 0, none⟩) m (os.map fun o => .pointer (some ⟨gc, o, none⟩))) (hpg : gp ≠ g) (hpc : gp ≠ gc) (hos : ∀ o ∈ os, o < cs.size) (hm : m ≤ 64) :
    Calls Try.prog 26 #[.func (.func 27) #[.pointer (some ⟨g, 0, none⟩)] #[], .slice (some ⟨gp, 0, none⟩) m c2] w fun e w' => e = .returned (.tuple #[]) ∧ IsR g A n c (numsS L m s) w' ∧ Blk w' gc T (setNums L os s cs) ∧ WK gc (some g) w w' (some g) := by
  have hl : L.length = n := by have := hr.1; simp [bv] at this; exact this
  have hgl := h.lt
  have hol : os.length = m := by have := hp.1; simp at this; exact this
  have HL := Lib.hid hl
  have HOL := Lib.hid hol
  have HB := Lib.hid hb
  have HOS := Lib.hid hos
  clear hl hol hb hos
  go_enter Try.func26, Try.ntmps26
  go_wp2
  go_loopw [8] (fun i wr => ∃ q : Nat, q ≤ m ∧ i = .int .i64 q ∧ IsR g A n c (numsS L q s) wr ∧ Blk wr gc T (setNums L (os.take q) s cs) ∧ WK gc (some g) w wr (some g)) (fun i _ => m - (intOf i).toNat)
  case atStart => exact ⟨0, Nat.zero_le _, rfl, h, HB.out, WK.refl _ _ _⟩
  case round =>
    obtain ⟨q, hq, rfl, hR, hBk, hK⟩ := hrel
    by_cases hlt : q < m
    · have hql : q < os.length := by rw [HOL.out]; exact hlt
      obtain ⟨ad, u, e1, had, hu, hcell⟩ := (hK.reads hp (fun ad e => by injection e with e; subst e; exact ⟨hpc, fun e => hpg (by injection e)⟩)).at_ hlt
      injection e1 with e1
      subst e1
      have hso : os[q] < (setNums L (os.take q) s cs).size := by rw [setNums_size]; exact HOS.out _ (List.getElem_mem hql)
      have hsn : setNums L (os.take (q + 1)) s cs = (setNums L (os.take q) s cs).setIfInBounds os[q] (.int .i64 (numV L (numsS L q s))) := by
        rw [List.take_succ_eq_append_getElem hql, setNums_snoc, List.length_take, Nat.min_eq_left (by omega)]
      rw [List.getElem?_map, List.getElem?_eq_getElem hql] at hu
      simp at hu
      subst hu
      rw [Addr.add_lit, Nat.zero_add] at hcell
      have hrr : Reads wr B 1 A n (bv L) := by
        refine ⟨hr.1, fun h0 => ?_⟩
        obtain ⟨ad, e, hlt', hc'⟩ := hr.2 h0
        refine ⟨ad, e, hlt', fun j u hu => ?_⟩
        have hb' := hK.block ad.block (by omega) (by omega) (fun e => by injection e with e; omega)
        rw [← hc' j u hu]
        simp only [World.cell?, block_of_add, hb']
      have hat := numsS_at (L := L) (s := s) (by rw [HL.out]; exact hs) q
      rw [HL.out] at hat
      generalize os[q] = o at hcell hso hsn
      generalize setNums L (os.take q) s cs = C at hBk hso hsn
      have HSN := Lib.hid hsn
      have hnum := number_any g A n c L (numsS L q s) B wr hR hrr hat hBg hn hnc hc
      have HNUM := Lib.hid hnum
      clear hsn hnum hp hr hrr
      go_wp2_with fail
      refine HNUM.out.mono ?_
      rintro e w1 ⟨rfl, hR1, hk1⟩
      have hB1 : Blk w1 gc T C := (hk1.block gc (Blk.lt hBk) hne (by simp)).trans hBk
      have hcell1 : w1.cell? ⟨gc, o, none⟩ = some C[o] := by rw [hB1.cell o]; simp [hso]
      have hfz := hB1.frozen o
      have HB1 := Lib.hid hB1
      clear hB1
      go_wp2
      go_roundw
      case rel =>
        refine ⟨q + 1, by omega, by go_num, ?_, by rw [HSN.out]; exact HB1.out.set_ o _, (hK.trans hk1.two).trans (wk_setCell gc (some g) o _ w1)⟩
        exact Blk.far hR1 (p := ⟨gc, o, none⟩) (fun e => hne e.symm) _
      case measure => simp [intOf]; omega
    · obtain rfl : q = m := by omega
      rw [List.take_of_length_le (by rw [HOL.out]; exact Nat.le_refl _)] at hBk
      go_wp2
      go_end0
      exact ⟨rfl, hR, hBk, hK⟩
end Go.Proofs.Ytejneiakpeeamaa
