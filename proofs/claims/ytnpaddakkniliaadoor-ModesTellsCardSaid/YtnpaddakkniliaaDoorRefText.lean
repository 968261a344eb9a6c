/-
  toolchestref10: Text, Octal: their contracts.
-/
import Derived.Test.YtnpaddakkniliaaDoorRefThree
import Derived.Test.YtnpaddakkniliaaDoorModeSign
import Derived.Deep.DeepCutAuto
import Derived.Deep.CutBlock
import Derived.StillTailTactics
import Derived.Lib.SlBytesConst
namespace Go.Proofs.YtnpaddakkniliaaDoor
open Go.RowKit

theorem oct_lit (d : Nat) (hd : d < 8) : ({ data := #[48, 49, 50, 51, 52, 53, 54, 55] } : ByteArray).extract d (d + 1) = str [digC d] := by
  match d, hd with
  | 0, _ => rfl
  | 1, _ => rfl
  | 2, _ => rfl
  | 3, _ => rfl
  | 4, _ => rfl
  | 5, _ => rfl
  | 6, _ => rfl
  | 7, _ => rfl
theorem oct_run (d : Nat) (hd : d < 8) : ∀ w : World, (Instr.slice 9 (.string { data := #[48, 49, 50, 51, 52, 53, 54, 55] }) (some (.int .i64 (d : Int))) (some (.int .i64 ((d : Int) + 1))) none).run Tryd.prog w = .ok (.string (str [digC d])) w := by
  intro w
  rw [← oct_lit d hd]
  exact run_slice_string (P := Tryd.prog) w 9 { data := #[48, 49, 50, 51, 52, 53, 54, 55] } .i64 .i64 (d : Int) ((d : Int) + 1) Tryd.underlying9 (by omega) (by omega) (by show (d : Int) + 1 ≤ 8; omega)
theorem str_appR (a b : List UInt8) : str a ++ str b = str (a ++ b) := by
  apply ByteArray.ext
  apply Array.ext'
  rw [ByteArray.data_append]
  simp [str]

set_option maxRecDepth 100000 in
set_option maxHeartbeats 2000000 in
theorem roctal_any (mode : Int) (w : World) :
    Calls Tryd.prog 13 #[.int .i64 mode] w fun e w' => e = .returned (.string (str (octL mode))) ∧ Below w.heap.size w w' := by
  obtain ⟨m, hm⟩ : ∃ m : Nat, m = (mode % 512).toNat := ⟨_, rfl⟩
  have hm5 : m < 512 := by omega
  have h5 : bits .and .i64 mode 511 = (m : Int) := by rw [and511]; omega
  obtain ⟨a, ha⟩ : ∃ a, a = m / 64 := ⟨_, rfl⟩
  obtain ⟨b, hb⟩ : ∃ b, b = m / 8 % 8 := ⟨_, rfl⟩
  obtain ⟨c, hc⟩ : ∃ c, c = m % 8 := ⟨_, rfl⟩
  have ha8 : a < 8 := by omega
  have hb8 : b < 8 := by omega
  have hc8 : c < 8 := by omega
  have ra := oct_run a ha8
  have rb := oct_run b hb8
  have rc := oct_run c hc8
  have HA := Lib.hid (show octL mode = [digC a, digC b, digC c] by unfold octL; rw [← hm, ha, hb, hc])
  have h3 := three_any m w (by omega)
  rw [show m / 2 ^ 6 % 8 = a from by omega, show m / 2 ^ 3 % 8 = b from by omega, ← hc] at h3
  unfold tri at h3
  have za : (str [digC a]).size = 1 := rfl
  have zb : (str [digC b]).size = 1 := rfl
  have hcat := str_appR [digC a] [digC b]
  have zab : (str [digC a, digC b]).size = 2 := rfl
  have zc : (str [digC c]).size = 1 := rfl
  clear hm ha hb hc
  go_enter Tryd.func13, Tryd.ntmps13
  go_wp2_with fail
  refine h3.mono ?_
  rintro e w1 ⟨rfl, hB1⟩
  clear h3
  go_upto_region 3 with fail
  go_region
  all_goals go_wp2_with fail
  go_ret
  refine ⟨?_, ((below_then (Below.refl _ _) (Nat.le_refl _) hB1).alloc hB1.size _).drew⟩
  rw [HA.out]
  rfl
def rfL (hd : UInt8) : List UInt8 := [hd, 114, 119, 120, 114, 119, 120, 114, 119, 120]
/-- A text of signs while it is made. -/
def rfF (hd : UInt8) (mode : Int) (q j : Nat) : Value := .int .u8 (((if 1 ≤ j ∧ j ≤ q then sgnC mode (j - 1) else (rfL hd).getD j 0) : UInt8).toNat : Int)
def kindC (k : Int) : UInt8 := if k = 1 then 45 else if k = 2 then 100 else if k = 3 then 108 else 63
theorem rf_end (hd : UInt8) (mode : Int) : ∀ j, j < 10 → (bv (hd :: sgnL mode 9))[j]? = some (rfF hd mode 9 j) := by
  intro j hj
  rw [bv_get _ _ (by unfold sgnL; simpa using hj)]
  unfold rfF
  rcases j with _ | j
  · rfl
  · rw [if_pos ⟨by omega, by omega⟩]
    unfold sgnL
    simp
def rfC : Array Value := #[.int .u8 63, .int .u8 114, .int .u8 119, .int .u8 120, .int .u8 114, .int .u8 119, .int .u8 120, .int .u8 114, .int .u8 119, .int .u8 120]
theorem rf_new (w : World) : Buf (w.alloc (.cells rfC 5 (10, 11))) w.heap.size 10 (rfF 63 0 0) :=
  ⟨rfC, 5, 10, 11, heap_alloc_new w _, by decide, fun j hj => by omega, by
    intro i hi
    rcases (show i = 0 ∨ i = 1 ∨ i = 2 ∨ i = 3 ∨ i = 4 ∨ i = 5 ∨ i = 6 ∨ i = 7 ∨ i = 8 ∨ i = 9 by omega) with rfl | rfl | rfl | rfl | rfl | rfl | rfl | rfl | rfl | rfl <;> rfl⟩
theorem rf_mode (hd : UInt8) (m m' : Int) (j : Nat) : rfF hd m 0 j = rfF hd m' 0 j := by
  unfold rfF
  rw [if_neg (by omega), if_neg (by omega)]
theorem rf_head (hd hd' : UInt8) (mode : Int) (j : Nat) : (if j = 0 then .int .u8 (hd'.toNat : Int) else rfF hd mode 0 j) = rfF hd' mode 0 j := by
  rcases j with _ | j
  · rfl
  · rw [if_neg (by omega)]
    unfold rfF
    rw [if_neg (by omega), if_neg (by omega)]
    rfl
theorem rf_off (hd : UInt8) (mode : Int) (q : Nat) (hq : q < 9) (h : sgnC mode q = 45) (j : Nat) : (if j = q + 1 then .int .u8 45 else rfF hd mode q j) = rfF hd mode (q + 1) j := by
  unfold rfF
  by_cases hj : j = q + 1
  · subst hj
    rw [if_pos rfl, if_pos ⟨by omega, by omega⟩, Nat.add_sub_cancel, h]
    rfl
  · rw [if_neg hj]
    by_cases h1 : 1 ≤ j ∧ j ≤ q
    · rw [if_pos h1, if_pos ⟨h1.1, by omega⟩]
    · rw [if_neg h1, if_neg (by omega)]
theorem rf_on (hd : UInt8) (mode : Int) (q : Nat) (hq : q < 9) (h : sgnC mode q = rwxL.getD q 0) (j : Nat) : rfF hd mode q j = rfF hd mode (q + 1) j := by
  unfold rfF
  by_cases hj : j = q + 1
  · subst hj
    rw [if_neg (by omega), if_pos ⟨by omega, by omega⟩, Nat.add_sub_cancel, h]
    rfl
  · by_cases h1 : 1 ≤ j ∧ j ≤ q
    · rw [if_pos h1, if_pos ⟨h1.1, by omega⟩]
    · rw [if_neg h1, if_neg (by omega)]

set_option maxRecDepth 100000 in
set_option maxHeartbeats 8000000 in
theorem rtext_any (k mode : Int) (w : World) :
    Calls Tryd.prog 11 #[.int .u8 k, .int .i64 mode] w fun e w' => e = .returned (.string (str (kindC k :: sgnL mode 9))) ∧ Below w.heap.size w w' := by
  have hb0 := rf_new w
  have hB0 : Below w.heap.size w (w.alloc (.cells rfC 5 (10, 11))) := (Below.refl _ _).alloc (Nat.le_refl _) _
  have hcv := Lib.run_convert_bytes_const (P := Tryd.prog) w 33 5 rfC 10 10 Tryd.underlying33 Tryd.underlying5
  rw [show rfC.size = 10 from rfl] at hcv
  obtain ⟨w1, hw1⟩ : ∃ w1, w1 = w.alloc (.cells rfC 5 (10, 11)) := ⟨_, rfl⟩
  rw [← hw1] at hb0 hB0 hcv
  clear hw1
  unfold rfC at hcv
  go_enter Tryd.func11, Tryd.ntmps11
  go_upto_block 0 with fail
  clear hcv
  go_cut [] (fun wx => Buf wx w.heap.size 10 (rfF (kindC k) mode 0) ∧ Below w.heap.size w wx)
  case first =>
    have hc := hb0.cell (i := 0) (by decide)
    have hf := hb0.frozen (i := 0) (by decide)
    by_cases h1 : k = 1
    · subst h1
      go_wp2
      go_meet
      case rel => exact ⟨(hb0.set 0 _).congr (fun j _ => (rf_head 63 45 0 j).trans (rf_mode _ _ _ j)), hB0.setCell (Nat.le_refl _) _⟩
    · have e1 : (k == 1) = false := by simpa using h1
      by_cases h2 : k = 2
      · subst h2
        go_wp2
        go_meet
        case rel => exact ⟨(hb0.set 0 _).congr (fun j _ => (rf_head 63 100 0 j).trans (rf_mode _ _ _ j)), hB0.setCell (Nat.le_refl _) _⟩
      · have e2 : (k == 2) = false := by simpa using h2
        by_cases h3 : k = 3
        · subst h3
          go_wp2
          go_meet
          case rel => exact ⟨(hb0.set 0 _).congr (fun j _ => (rf_head 63 108 0 j).trans (rf_mode _ _ _ j)), hB0.setCell (Nat.le_refl _) _⟩
        · have e3 : (k == 3) = false := by simpa using h3
          have ek : kindC k = 63 := by unfold kindC; rw [if_neg h1, if_neg h2, if_neg h3]
          go_wp2
          go_meet
          case rel => exact ⟨by rw [ek]; exact hb0.congr (fun j _ => rf_mode _ _ _ j), hB0⟩
  case rest =>
    obtain ⟨hb1, hB1⟩ := hcut
    clear hb0 hB0
    go_wp2_with fail
    go_loopw [6] (fun i wx => ∃ q : Nat, q ≤ 9 ∧ i = .int .i64 (q : Int) ∧ Buf wx w.heap.size 10 (rfF (kindC k) mode q) ∧ Below w.heap.size w wx) (fun i _ => 9 - (intOf i).toNat)
    case atStart => exact ⟨0, by omega, rfl, hb1, hB1⟩
    case round =>
      obtain ⟨q, hq, rfl, hb, hB⟩ := hrel
      rcases (show q = 0 ∨ q = 1 ∨ q = 2 ∨ q = 3 ∨ q = 4 ∨ q = 5 ∨ q = 6 ∨ q = 7 ∨ q = 8 ∨ q = 9 by omega) with rfl | rfl | rfl | rfl | rfl | rfl | rfl | rfl | rfl | rfl
      · have hc := hb.cell (i := 1) (by decide)
        have hf := hb.frozen (i := 1) (by decide)
        obtain ⟨m, hm⟩ : ∃ m, m = mode / 256 := ⟨_, rfl⟩
        have ha := and1 m
        have hsg : sgnC mode 0 = if m % 2 = 0 then 45 else 114 := by rw [hm]; rfl
        rw [hm] at ha
        by_cases hz : m % 2 = 0
        · rw [if_pos hz] at hsg
          have ha2 : bits .and .i64 (mode / 256) 1 = 0 := by rw [ha, ← hm]; omega
          have HB := Lib.hid ((hb.set 1 (.int .u8 45)).congr (fun j _ => rf_off (kindC k) mode 0 (by decide) hsg j))
          clear ha hsg hm hz hq
          go_wp2
          go_roundw
          case rel => exact ⟨1, by decide, rfl, HB.out, hB.setCell (Nat.le_refl _) _⟩
          case measure => simp [intOf]
        · rw [if_neg hz] at hsg
          have ha2 : bits .and .i64 (mode / 256) 1 = 1 := by rw [ha, ← hm]; omega
          have HB := Lib.hid (hb.congr (fun j _ => rf_on (kindC k) mode 0 (by decide) hsg j))
          clear ha hsg hm hz hq
          go_wp2
          go_roundw
          case rel => exact ⟨1, by decide, rfl, HB.out, hB⟩
          case measure => simp [intOf]
      · have hc := hb.cell (i := 2) (by decide)
        have hf := hb.frozen (i := 2) (by decide)
        obtain ⟨m, hm⟩ : ∃ m, m = mode / 128 := ⟨_, rfl⟩
        have ha := and1 m
        have hsg : sgnC mode 1 = if m % 2 = 0 then 45 else 119 := by rw [hm]; rfl
        rw [hm] at ha
        by_cases hz : m % 2 = 0
        · rw [if_pos hz] at hsg
          have ha2 : bits .and .i64 (mode / 128) 1 = 0 := by rw [ha, ← hm]; omega
          have HB := Lib.hid ((hb.set 2 (.int .u8 45)).congr (fun j _ => rf_off (kindC k) mode 1 (by decide) hsg j))
          clear ha hsg hm hz hq
          go_wp2
          go_roundw
          case rel => exact ⟨2, by decide, rfl, HB.out, hB.setCell (Nat.le_refl _) _⟩
          case measure => simp [intOf]
        · rw [if_neg hz] at hsg
          have ha2 : bits .and .i64 (mode / 128) 1 = 1 := by rw [ha, ← hm]; omega
          have HB := Lib.hid (hb.congr (fun j _ => rf_on (kindC k) mode 1 (by decide) hsg j))
          clear ha hsg hm hz hq
          go_wp2
          go_roundw
          case rel => exact ⟨2, by decide, rfl, HB.out, hB⟩
          case measure => simp [intOf]
      · have hc := hb.cell (i := 3) (by decide)
        have hf := hb.frozen (i := 3) (by decide)
        obtain ⟨m, hm⟩ : ∃ m, m = mode / 64 := ⟨_, rfl⟩
        have ha := and1 m
        have hsg : sgnC mode 2 = if m % 2 = 0 then 45 else 120 := by rw [hm]; rfl
        rw [hm] at ha
        by_cases hz : m % 2 = 0
        · rw [if_pos hz] at hsg
          have ha2 : bits .and .i64 (mode / 64) 1 = 0 := by rw [ha, ← hm]; omega
          have HB := Lib.hid ((hb.set 3 (.int .u8 45)).congr (fun j _ => rf_off (kindC k) mode 2 (by decide) hsg j))
          clear ha hsg hm hz hq
          go_wp2
          go_roundw
          case rel => exact ⟨3, by decide, rfl, HB.out, hB.setCell (Nat.le_refl _) _⟩
          case measure => simp [intOf]
        · rw [if_neg hz] at hsg
          have ha2 : bits .and .i64 (mode / 64) 1 = 1 := by rw [ha, ← hm]; omega
          have HB := Lib.hid (hb.congr (fun j _ => rf_on (kindC k) mode 2 (by decide) hsg j))
          clear ha hsg hm hz hq
          go_wp2
          go_roundw
          case rel => exact ⟨3, by decide, rfl, HB.out, hB⟩
          case measure => simp [intOf]
      · have hc := hb.cell (i := 4) (by decide)
        have hf := hb.frozen (i := 4) (by decide)
        obtain ⟨m, hm⟩ : ∃ m, m = mode / 32 := ⟨_, rfl⟩
        have ha := and1 m
        have hsg : sgnC mode 3 = if m % 2 = 0 then 45 else 114 := by rw [hm]; rfl
        rw [hm] at ha
        by_cases hz : m % 2 = 0
        · rw [if_pos hz] at hsg
          have ha2 : bits .and .i64 (mode / 32) 1 = 0 := by rw [ha, ← hm]; omega
          have HB := Lib.hid ((hb.set 4 (.int .u8 45)).congr (fun j _ => rf_off (kindC k) mode 3 (by decide) hsg j))
          clear ha hsg hm hz hq
          go_wp2
          go_roundw
          case rel => exact ⟨4, by decide, rfl, HB.out, hB.setCell (Nat.le_refl _) _⟩
          case measure => simp [intOf]
        · rw [if_neg hz] at hsg
          have ha2 : bits .and .i64 (mode / 32) 1 = 1 := by rw [ha, ← hm]; omega
          have HB := Lib.hid (hb.congr (fun j _ => rf_on (kindC k) mode 3 (by decide) hsg j))
          clear ha hsg hm hz hq
          go_wp2
          go_roundw
          case rel => exact ⟨4, by decide, rfl, HB.out, hB⟩
          case measure => simp [intOf]
      · have hc := hb.cell (i := 5) (by decide)
        have hf := hb.frozen (i := 5) (by decide)
        obtain ⟨m, hm⟩ : ∃ m, m = mode / 16 := ⟨_, rfl⟩
        have ha := and1 m
        have hsg : sgnC mode 4 = if m % 2 = 0 then 45 else 119 := by rw [hm]; rfl
        rw [hm] at ha
        by_cases hz : m % 2 = 0
        · rw [if_pos hz] at hsg
          have ha2 : bits .and .i64 (mode / 16) 1 = 0 := by rw [ha, ← hm]; omega
          have HB := Lib.hid ((hb.set 5 (.int .u8 45)).congr (fun j _ => rf_off (kindC k) mode 4 (by decide) hsg j))
          clear ha hsg hm hz hq
          go_wp2
          go_roundw
          case rel => exact ⟨5, by decide, rfl, HB.out, hB.setCell (Nat.le_refl _) _⟩
          case measure => simp [intOf]
        · rw [if_neg hz] at hsg
          have ha2 : bits .and .i64 (mode / 16) 1 = 1 := by rw [ha, ← hm]; omega
          have HB := Lib.hid (hb.congr (fun j _ => rf_on (kindC k) mode 4 (by decide) hsg j))
          clear ha hsg hm hz hq
          go_wp2
          go_roundw
          case rel => exact ⟨5, by decide, rfl, HB.out, hB⟩
          case measure => simp [intOf]
      · have hc := hb.cell (i := 6) (by decide)
        have hf := hb.frozen (i := 6) (by decide)
        obtain ⟨m, hm⟩ : ∃ m, m = mode / 8 := ⟨_, rfl⟩
        have ha := and1 m
        have hsg : sgnC mode 5 = if m % 2 = 0 then 45 else 120 := by rw [hm]; rfl
        rw [hm] at ha
        by_cases hz : m % 2 = 0
        · rw [if_pos hz] at hsg
          have ha2 : bits .and .i64 (mode / 8) 1 = 0 := by rw [ha, ← hm]; omega
          have HB := Lib.hid ((hb.set 6 (.int .u8 45)).congr (fun j _ => rf_off (kindC k) mode 5 (by decide) hsg j))
          clear ha hsg hm hz hq
          go_wp2
          go_roundw
          case rel => exact ⟨6, by decide, rfl, HB.out, hB.setCell (Nat.le_refl _) _⟩
          case measure => simp [intOf]
        · rw [if_neg hz] at hsg
          have ha2 : bits .and .i64 (mode / 8) 1 = 1 := by rw [ha, ← hm]; omega
          have HB := Lib.hid (hb.congr (fun j _ => rf_on (kindC k) mode 5 (by decide) hsg j))
          clear ha hsg hm hz hq
          go_wp2
          go_roundw
          case rel => exact ⟨6, by decide, rfl, HB.out, hB⟩
          case measure => simp [intOf]
      · have hc := hb.cell (i := 7) (by decide)
        have hf := hb.frozen (i := 7) (by decide)
        obtain ⟨m, hm⟩ : ∃ m, m = mode / 4 := ⟨_, rfl⟩
        have ha := and1 m
        have hsg : sgnC mode 6 = if m % 2 = 0 then 45 else 114 := by rw [hm]; rfl
        rw [hm] at ha
        by_cases hz : m % 2 = 0
        · rw [if_pos hz] at hsg
          have ha2 : bits .and .i64 (mode / 4) 1 = 0 := by rw [ha, ← hm]; omega
          have HB := Lib.hid ((hb.set 7 (.int .u8 45)).congr (fun j _ => rf_off (kindC k) mode 6 (by decide) hsg j))
          clear ha hsg hm hz hq
          go_wp2
          go_roundw
          case rel => exact ⟨7, by decide, rfl, HB.out, hB.setCell (Nat.le_refl _) _⟩
          case measure => simp [intOf]
        · rw [if_neg hz] at hsg
          have ha2 : bits .and .i64 (mode / 4) 1 = 1 := by rw [ha, ← hm]; omega
          have HB := Lib.hid (hb.congr (fun j _ => rf_on (kindC k) mode 6 (by decide) hsg j))
          clear ha hsg hm hz hq
          go_wp2
          go_roundw
          case rel => exact ⟨7, by decide, rfl, HB.out, hB⟩
          case measure => simp [intOf]
      · have hc := hb.cell (i := 8) (by decide)
        have hf := hb.frozen (i := 8) (by decide)
        obtain ⟨m, hm⟩ : ∃ m, m = mode / 2 := ⟨_, rfl⟩
        have ha := and1 m
        have hsg : sgnC mode 7 = if m % 2 = 0 then 45 else 119 := by rw [hm]; rfl
        rw [hm] at ha
        by_cases hz : m % 2 = 0
        · rw [if_pos hz] at hsg
          have ha2 : bits .and .i64 (mode / 2) 1 = 0 := by rw [ha, ← hm]; omega
          have HB := Lib.hid ((hb.set 8 (.int .u8 45)).congr (fun j _ => rf_off (kindC k) mode 7 (by decide) hsg j))
          clear ha hsg hm hz hq
          go_wp2
          go_roundw
          case rel => exact ⟨8, by decide, rfl, HB.out, hB.setCell (Nat.le_refl _) _⟩
          case measure => simp [intOf]
        · rw [if_neg hz] at hsg
          have ha2 : bits .and .i64 (mode / 2) 1 = 1 := by rw [ha, ← hm]; omega
          have HB := Lib.hid (hb.congr (fun j _ => rf_on (kindC k) mode 7 (by decide) hsg j))
          clear ha hsg hm hz hq
          go_wp2
          go_roundw
          case rel => exact ⟨8, by decide, rfl, HB.out, hB⟩
          case measure => simp [intOf]
      · have hc := hb.cell (i := 9) (by decide)
        have hf := hb.frozen (i := 9) (by decide)
        obtain ⟨m, hm⟩ : ∃ m, m = mode := ⟨_, rfl⟩
        have ha := and1 m
        have hsg : sgnC mode 8 = if m % 2 = 0 then 45 else 120 := by rw [hm]; unfold sgnC; simp [rwxL]
        rw [hm] at ha
        by_cases hz : m % 2 = 0
        · rw [if_pos hz] at hsg
          have ha2 : bits .and .i64 (mode) 1 = 0 := by rw [ha, ← hm]; omega
          have HB := Lib.hid ((hb.set 9 (.int .u8 45)).congr (fun j _ => rf_off (kindC k) mode 8 (by decide) hsg j))
          clear ha hsg hm hz hq
          go_wp2
          go_roundw
          case rel => exact ⟨9, by decide, rfl, HB.out, hB.setCell (Nat.le_refl _) _⟩
          case measure => simp [intOf]
        · rw [if_neg hz] at hsg
          have ha2 : bits .and .i64 (mode) 1 = 1 := by rw [ha, ← hm]; omega
          have HB := Lib.hid (hb.congr (fun j _ => rf_on (kindC k) mode 8 (by decide) hsg j))
          clear ha hsg hm hz hq
          go_wp2
          go_roundw
          case rel => exact ⟨9, by decide, rfl, HB.out, hB⟩
          case measure => simp [intOf]
      · have hrd : Reads wr wr.heap.size 1 (some ⟨w.heap.size, 0, none⟩) 10 (bv (kindC k :: sgnL mode 9)) := hb.reads (by simp [bv, sgnL]) (Nat.le_refl _) (rf_end (kindC k) mode) hb.lt
        go_wp2_with (refine wpList_string_of_bytes _ rfl (.tmp 36) 33 9 5 rfl Tryd.underlying33 Tryd.underlying5 Tryd.underlying9 _ _ _ _ (kindC k :: sgnL mode 9) rfl hrd ?_)
        go_ret
        exact ⟨rfl, hB⟩
end Go.Proofs.YtnpaddakkniliaaDoor
