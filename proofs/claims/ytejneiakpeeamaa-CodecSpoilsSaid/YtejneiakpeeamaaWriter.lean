/-
  codec.writer: what it is, and its methods' contracts.
-/
import Derived.Test.YtejneiakpeeamaaKept
import Derived.Deep.RegionLaw
import Derived.Laws.BitsAllLaws
import Derived.Deep.DeepCutAuto
namespace Go.Proofs.Ytejneiakpeeamaa
open Go.RowKit

/-- The k lowest bytes of a number. -/
def leb (k n : Nat) : List UInt8 := (List.range k).map fun i => UInt8.ofNat (n / 2 ^ (8 * i))
theorem leb_succ (k n : Nat) : leb (k + 1) n = leb k n ++ [UInt8.ofNat (n / 2 ^ (8 * k))] := by simp [leb, List.range_succ]
theorem leb_length (k n : Nat) : (leb k n).length = k := by simp [leb]
theorem infoWriter : (Try.prog.info? 56).map (fun i => (i.zero, i.size, i.bytes)) = some (some (.agg #[.slice none 0 0, .bool false]), 2, 32) := by kernel_rfl

/-- A writer in block g: its bytes l, in a row among the blocks from β on, block r (or none yet); its mark. -/
def IsW (r : Option Nat) (β g : Nat) (l : List UInt8) (bad : Bool) (w : World) : Prop :=
  ∃ v : Value, w.heap[g]? = some (.cells #[v, .bool bad] 56 (0, 0)) ∧ w.ownsRow β 5 1 v l.length (bv l) ∧ v.ownBlock = r ∧ r ≠ some g
theorem IsW.lt {r : Option Nat} {β g : Nat} {l : List UInt8} {bad : Bool} {w : World} (h : IsW r β g l bad w) : g < w.heap.size := by
  obtain ⟨v, hh, _⟩ := h
  exact (Array.getElem?_eq_some_iff.1 hh).1
/-- What a method leaves: every block but g and the old row; the new row is the old one or new. -/
structure WK (g : Nat) (r : Option Nat) (w w' : World) (r' : Option Nat) : Prop where
  os : w'.os = w.os
  tape : w'.tape = w.tape
  output : w'.output = w.output
  size : w.heap.size ≤ w'.heap.size
  block : ∀ k, k < w.heap.size → k ≠ g → some k ≠ r → w'.heap[k]? = w.heap[k]?
  row : r' = r ∨ ∃ b, r' = some b ∧ w.heap.size ≤ b
theorem WK.refl (g : Nat) (r : Option Nat) (w : World) : WK g r w w r := ⟨rfl, rfl, rfl, Nat.le_refl _, fun _ _ _ _ => rfl, .inl rfl⟩
theorem WK.trans {g : Nat} {r r1 r2 : Option Nat} {x y z : World} (h : WK g r x y r1) (k : WK g r1 y z r2) : WK g r x z r2 := by
  refine ⟨k.os.trans h.os, k.tape.trans h.tape, k.output.trans h.output, Nat.le_trans h.size k.size, fun i hi hg hr => ?_, ?_⟩
  · refine (k.block i (Nat.lt_of_lt_of_le hi h.size) hg ?_).trans (h.block i hi hg hr)
    rcases h.row with e | ⟨b, e, hb⟩
    · rw [e]; exact hr
    · rw [e]; intro h'; injection h' with h'; omega
  · rcases k.row with e | ⟨b, e, hb⟩
    · rw [e]; exact h.row
    · exact .inr ⟨b, e, Nat.le_trans h.size hb⟩
theorem WK.below {g B : Nat} {r r' : Option Nat} {w w' : World} (h : WK g r w w' r') (hg : B ≤ g) (hr : ∀ b, r = some b → B ≤ b) (hB : B ≤ w.heap.size) : Below B w w' :=
  ⟨h.os, h.tape, h.output, h.size, fun k hk => h.block k (by omega) (by omega) (fun e => by have := hr k e.symm; omega)⟩
theorem WK.reads {g size n : Nat} {r r' : Option Nat} {w w' : World} {A : Option Addr} {xs : List Value} (h : WK g r w w' r') (hr : Reads w w.heap.size size A n xs) (hA : ∀ ad, A = some ad → ad.block ≠ g ∧ some ad.block ≠ r) : Reads w' w'.heap.size size A n xs := by
  refine ⟨hr.1, fun hn => ?_⟩
  obtain ⟨ad, e, hlt, hc⟩ := hr.2 hn
  refine ⟨ad, e, Nat.lt_of_lt_of_le hlt h.size, fun j u hu => ?_⟩
  have hb := h.block ad.block hlt (hA ad e).1 (hA ad e).2
  rw [← hc j u hu]
  simp only [World.cell?, block_of_add, hb]
theorem heap_cell {w : World} {g : Nat} {cs : Array Value} {t : TypeId} (h : w.heap[g]? = some (.cells cs t (0, 0))) (i : Nat) : w.cell? ⟨g, i, none⟩ = cs[i]? := cell_of_row w g i cs t (0, 0) h
theorem heap_frozen {w : World} {g : Nat} {cs : Array Value} {t : TypeId} (h : w.heap[g]? = some (.cells cs t (0, 0))) (i : Nat) : w.frozen? ⟨g, i, none⟩ = false := Blk.frozen (t := t) (cs := cs) h i
theorem leb_byte (n k : Nat) : ((UInt8.ofNat (n / 2 ^ (8 * k))).toNat : Int) = ((n / 2 ^ (8 * k) : Nat) : Int) % 256 := by simp

/-- A new block of one byte. -/
theorem one_reads (w : World) (u : Value) (t : TypeId) : Reads (w.alloc (.cells #[u] t)) (w.heap.size + 1) 1 (some ⟨w.heap.size, 0, none⟩) 1 [u] :=
  ⟨rfl, fun _ => ⟨_, rfl, Nat.lt_succ_self _, fun j x hx => by
    match j, hx with
    | 0, hx => cases hx; simp [Addr.add]⟩⟩
/-- The writer behind an append whose answer is stored. -/
theorem IsW.put {β g m : Nat} {l more : List UInt8} {bad : Bool} {wr w2 : World} {v v' : Value} {o : Obj} (hh : wr.heap[g]? = some (.cells #[v, .bool bad] 56 (0, 0))) (hne : v.ownBlock ≠ some g) (hm : more.length = m)
    (hown' : w2.ownsRow β 5 1 v' (l.length + m) (bv l ++ bv more)) (hgrow : (wr.drew.alloc o).grownBy w2 v.ownBlock) (hat : v'.ownBlock = v.ownBlock ∨ v'.ownBlock = some (wr.drew.alloc o).heap.size) :
    w2.heap[g]? = some (.cells #[v, .bool bad] 56 (0, 0)) ∧ IsW v'.ownBlock β g (l ++ more) bad (w2.setCell ⟨g, 0, none⟩ v') ∧ WK g v.ownBlock wr (w2.setCell ⟨g, 0, none⟩ v') v'.ownBlock := by
  rw [show (wr.drew.alloc o).heap.size = wr.heap.size + 1 from by simp] at hat
  have hlt := (Array.getElem?_eq_some_iff.1 hh).1
  have hkeep : ∀ k, k < wr.heap.size → some k ≠ v.ownBlock → w2.heap[k]? = wr.heap[k]? := fun k hk hne => by
    rw [hgrow.block k (by simp; omega) hne]
    exact Below.heap_alloc wr.drew o k hk
  have hb2 : w2.heap[g]? = some (.cells #[v, .bool bad] 56 (0, 0)) := (hkeep g hlt (fun e => hne e.symm)).trans hh
  have hne' : v'.ownBlock ≠ some g := by
    rcases hat with e | e
    · rw [e]; exact hne
    · rw [e]; intro h; injection h with h; omega
  refine ⟨hb2, ⟨v', by simp [World.setCell, Array.getElem?_modify, hb2], ?_, rfl, hne'⟩, ⟨hgrow.os, hgrow.tape, hgrow.output, ?_, fun k hk hg hr => ?_, ?_⟩⟩
  · have e : bv (l ++ more) = bv l ++ bv more := by simp [bv]
    rw [e, List.length_append, hm]
    exact hown'.kept (row := some g) (only_setCell (World.grownBy.refl _ _) (.inl rfl) _) (.inr hne')
  · have := hgrow.size
    simp at this
    simp [World.setCell]
    omega
  · exact (Below.heap_setCell w2 ⟨g, 0, none⟩ v' k hg).trans (hkeep k hk hr)
  · rcases hat with e | e
    · exact .inl e
    · exact .inr ⟨_, e, by omega⟩
theorem own_form {w : World} {β n : Nat} {e : TypeId} {size : Nat} {v : Value} {xs : List Value} (h : w.ownsRow β e size v n xs) (hn : 0 < n) : ∃ g cap, v = .slice (some ⟨g, 0, none⟩) n cap := by
  rcases h.2 with ⟨_, h0⟩ | ⟨g, cap, cur, hv, _⟩
  · omega
  · exact ⟨g, cap, hv⟩

set_option maxHeartbeats 1000000 in
set_option maxRecDepth 100000 in
theorem wcount_any (r : Option Nat) (β g : Nat) (l : List UInt8) (bad : Bool) (n : Nat) (w : World) (h : IsW r β g l bad w) (_hn : n ≤ 140737488351232) (hlen : l.length + 4 ≤ 140737488355328) (hβ : β ≤ w.heap.size) :
    Calls Try.prog 33 #[.pointer (some ⟨g, 0, none⟩), .int .i64 (n : Int)] w fun e w' => e = .returned (.tuple #[]) ∧ ∃ r', IsW r' β g (l ++ leb 4 n) bad w' ∧ WK g r w w' r' := by
  obtain ⟨i0, hi, hz0, hz1, hz2⟩ := info_parts infoU8
  go_enter Try.func33, Try.ntmps33
  go_wp2
  go_loopw [5] (fun i wr => ∃ k : Nat, k ≤ 4 ∧ i = .int .i64 k ∧ ∃ r', IsW r' β g (l ++ leb k n) bad wr ∧ WK g r w wr r') (fun i _ => 4 - (intOf i).toNat)
  case atStart => exact ⟨0, by omega, rfl, r, by simpa [leb] using h, WK.refl _ _ _⟩
  case round =>
    obtain ⟨k, hk, rfl, r1, hw, hkx⟩ := hrel
    by_cases hlt : k < 4
    · obtain ⟨v, hh, hown, hr1, hne⟩ := hw
      subst hr1
      have c0 : wr.cell? ⟨g, 0, none⟩ = some v := heap_cell hh 0
      have hs := hkx.size
      have hl : (l ++ leb k n).length = l.length + k := by rw [List.length_append, leb_length]
      have hm : IntKind.i64.wrap (8 * (k : Int)) = 8 * (k : Int) := by rw [IntKind.wrap_i64]; omega
      have hm1 : 0 ≤ 8 * (k : Int) := by omega
      have hm2 : (8 * (k : Int)).toNat = 8 * k := by omega
      have hlt2 := (Array.getElem?_eq_some_iff.1 hh).1
      have HH := Lib.hid hh
      obtain ⟨C, hC⟩ : ∃ C, C = UInt8.ofNat (n / 2 ^ (8 * k)) := ⟨_, rfl⟩
      have hsn : l ++ leb (k + 1) n = (l ++ leb k n) ++ [C] := by rw [leb_succ, hC, List.append_assoc]
      have HSN := Lib.hid hsn
      have hq : IntKind.u8.wrap ((n : Int) / 2 ^ (8 * k)) = (C.toNat : Int) := by
        rw [hC, leb_byte]
        simp [IntKind.wrap, IntKind.bits, IntKind.signed]
      have hrd := one_reads wr.drew (.int .u8 (C.toNat : Int)) 5
      generalize l ++ leb k n = L at hown hl HSN
      have HL := Lib.hid hl
      clear hh hl h hC hsn
      go_wp2
      go_region_law ((refine step_append_any _ rfl (.tmp 12) (.tmp 18) 22 rfl β 5 i0 (.int .u8 0) 1 1 Try.underlying22 hi hz0 hz1 hz2 rfl (by decide) v _ _ (by simp [Act.eval, Act.put]) ((hown.drew).alloc _) (wr.heap.size + 1) (some ⟨wr.heap.size, 0, none⟩) 1 1 [.int .u8 (C.toNat : Int)] (by simp [Act.eval, Act.put]) hrd (by intro u hu; simp at hu; subst hu; rfl) (by rw [HL.out]; unfold maxLen; omega) (by rw [HL.out]; omega) (by simp; omega) ?_; intro v' w2 hown' hgrow hat; obtain ⟨hb2, hw2, hk2⟩ := IsW.put (more := [C]) HH.out hne rfl hown' hgrow hat; obtain ⟨gg, cap, rfl⟩ := own_form hown' (by omega); have c2 : w2.cell? ⟨g, 0, none⟩ = some v := heap_cell hb2 0; have f2 := heap_frozen hb2 0))
      all_goals
        have hkk := hkx.trans hk2
        go_wp2
        go_roundw
        case rel => exact ⟨k + 1, by omega, by go_num, _, by rw [HSN.out]; exact hw2, hkk⟩
        case measure => simp [intOf]; omega
    · obtain rfl : k = 4 := by omega
      go_wp2
      go_end0
      exact ⟨rfl, r1, hw, hkx⟩


def word (x : Int) : Nat := (x % 18446744073709551616).toNat
def nums (ns : List Int) : List UInt8 := ns.flatMap fun x => leb 8 (word x)
theorem nums_snoc (l : List Int) (x : Int) : nums (l ++ [x]) = nums l ++ leb 8 (word x) := by simp [nums]
theorem nums_length (ns : List Int) : (nums ns).length = 8 * ns.length := by
  induction ns with
  | nil => rfl
  | cons x ns ih => simp [nums, leb_length] at ih ⊢; omega
set_option maxHeartbeats 1000000 in
set_option maxRecDepth 100000 in
theorem wnumbers_any (r : Option Nat) (β g : Nat) (l : List UInt8) (bad : Bool) (A : Option Addr) (m c : Nat) (ns : List Int) (w : World) (h : IsW r β g l bad w) (hr : Reads w w.heap.size 1 A m (ns.map fun x => .int .i64 x)) (hA : ∀ ad, A = some ad → ad.block ≠ g ∧ some ad.block ≠ r) (hm : m ≤ 64) (hlen : l.length + 512 ≤ 140737488355328) (hβ : β ≤ w.heap.size) :
    Calls Try.prog 22 #[.pointer (some ⟨g, 0, none⟩), .slice A m c] w fun e w' => e = .returned (.tuple #[]) ∧ ∃ r', IsW r' β g (l ++ nums ns) bad w' ∧ WK g r w w' r' := by
  obtain ⟨i0, hi, hz0, hz1, hz2⟩ := info_parts infoU8
  have hnl : ns.length = m := by have := hr.1; simp at this; exact this
  have HNL := Lib.hid hnl
  clear hnl
  go_enter Try.func22, Try.ntmps22
  go_wp2
  go_loopw [9] (fun i wr => ∃ q : Nat, q ≤ m ∧ i = .int .i64 q ∧ ∃ r', IsW r' β g (l ++ nums (ns.take q)) bad wr ∧ WK g r w wr r') (fun i _ => m - (intOf i).toNat)
  case atStart => exact ⟨0, by omega, rfl, r, by simpa [nums] using h, WK.refl _ _ _⟩
  case round =>
    obtain ⟨q, hq, rfl, r1, hw, hkx⟩ := hrel
    by_cases hlt : q < m
    · have hql : q < ns.length := by rw [HNL.out]; exact hlt
      obtain ⟨ad, u, rfl, had, hu, hcell⟩ := (hkx.reads hr hA).at_ hlt
      rw [List.getElem?_map, List.getElem?_eq_getElem hql] at hu
      simp at hu
      subst hu
      have hnx : nums (ns.take (q + 1)) = nums (ns.take q) ++ leb 8 (word ns[q]) := by
        rw [List.take_succ_eq_append_getElem hql, nums_snoc]
      have HNX := Lib.hid hnx
      have hL0 : (l ++ nums (ns.take q)).length = l.length + 8 * q := by rw [List.length_append, nums_length, List.length_take]; omega
      generalize hx : ns[q] = x at hcell HNX
      have hkb := hkx.size
      generalize hL0e : l ++ nums (ns.take q) = L0 at hw hL0
      have HL0 := Lib.hid hL0e
      have hHL0 := Lib.hid hL0
      clear hnx hx h hL0e hL0
      go_wp2
      go_loopw [13] (fun i wq => ∃ k : Nat, k ≤ 8 ∧ i = .int .i64 k ∧ ∃ r', IsW r' β g (L0 ++ leb k (word x)) bad wq ∧ WK g r1 wr wq r') (fun i _ => 8 - (intOf i).toNat)
      case atStart => exact ⟨0, by omega, rfl, r1, by simpa [leb] using hw, WK.refl _ _ _⟩
      case round =>
        obtain ⟨k, hk, rfl, r2, hw2, hkx2⟩ := hrel
        by_cases hlt8 : k < 8
        · obtain ⟨v, hh, hown, hr1, hne⟩ := hw2
          subst hr1
          have c0 : wr.cell? ⟨g, 0, none⟩ = some v := heap_cell hh 0
          have hs := hkx2.size
          have hl : (L0 ++ leb k (word x)).length = L0.length + k := by rw [List.length_append, leb_length]
          have hm0 : IntKind.i64.wrap (8 * (k : Int)) = 8 * (k : Int) := by rw [IntKind.wrap_i64]; omega
          have hm1 : 0 ≤ 8 * (k : Int) := by omega
          have hm2 : (8 * (k : Int)).toNat = 8 * k := by omega
          have hwd : IntKind.u64.wrap x = (word x : Int) := by simp [IntKind.wrap, IntKind.bits, IntKind.signed, word]; omega
          have hlt2 := (Array.getElem?_eq_some_iff.1 hh).1
          have HH := Lib.hid hh
          obtain ⟨C, hC⟩ : ∃ C, C = UInt8.ofNat (word x / 2 ^ (8 * k)) := ⟨_, rfl⟩
          have hsn : L0 ++ leb (k + 1) (word x) = (L0 ++ leb k (word x)) ++ [C] := by rw [leb_succ, hC, List.append_assoc]
          have HSN := Lib.hid hsn
          have hqq : IntKind.u8.wrap ((word x : Int) / 2 ^ (8 * k)) = (C.toNat : Int) := by
            rw [hC, leb_byte]
            simp [IntKind.wrap, IntKind.bits, IntKind.signed]
          have hrd := one_reads wr.drew (.int .u8 (C.toNat : Int)) 5
          generalize L0 ++ leb k (word x) = L at hown hl HSN
          have HL := Lib.hid hl
          generalize hX : word x = X at hwd hqq HSN HNX ⊢
          clear hh hl hC hsn hr hcell hX
          go_wp2
          go_region_law ((refine step_append_any _ rfl (.tmp 20) (.tmp 27) 22 rfl β 5 i0 (.int .u8 0) 1 1 Try.underlying22 hi hz0 hz1 hz2 rfl (by decide) v _ _ (by simp [Act.eval, Act.put]) ((hown.drew).alloc _) (wr.heap.size + 1) (some ⟨wr.heap.size, 0, none⟩) 1 1 [.int .u8 (C.toNat : Int)] (by simp [Act.eval, Act.put]) hrd (by intro u hu; simp at hu; subst hu; rfl) (by rw [HL.out]; have := hHL0.out; unfold maxLen; omega) (by rw [HL.out]; have := hHL0.out; omega) (by simp; omega) ?_; intro v' w2 hown' hgrow hat; obtain ⟨hb2, hw2, hk2⟩ := IsW.put (more := [C]) HH.out hne rfl hown' hgrow hat; obtain ⟨gg, cap, rfl⟩ := own_form hown' (by omega); have c2 : w2.cell? ⟨g, 0, none⟩ = some v := heap_cell hb2 0; have f2 := heap_frozen hb2 0))
          all_goals
            have hkk := hkx2.trans hk2
            go_wp2
            go_roundw
            case rel => exact ⟨k + 1, by omega, by go_num, _, by rw [HSN.out]; exact hw2, hkk⟩
            case measure => simp [intOf]; omega
        · have hk8 : k = 8 := by omega
          have hwf : IsW r2 β g (l ++ nums (ns.take (q + 1))) bad wr := by rw [HNX.out, ← List.append_assoc, HL0.out, ← hk8]; exact hw2
          clear hk8 hcell hr
          go_wp2
          go_roundw
          case rel => exact ⟨q + 1, by omega, by go_num, r2, hwf, hkx.trans hkx2⟩
          case measure => simp [intOf]; omega
    · obtain rfl : q = m := by omega
      rw [List.take_of_length_le (by rw [HNL.out]; exact Nat.le_refl _)] at hw
      go_wp2
      go_end0
      exact ⟨rfl, r1, hw, hkx⟩
end Go.Proofs.Ytejneiakpeeamaa
