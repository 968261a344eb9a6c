/-
  ModesSigns: the law's walk. (Printed by gen/modesignswalk.py.)
-/
import Derived.Test.YtnpaddakkniliaaDoorModesBackWalk
import Derived.Test.YtnpaddakkniliaaDoorModeSign
namespace Go.Proofs.YtnpaddakkniliaaDoor
open Go.RowKit

def rwxC (k : Nat) : UInt8 := [114, 119, 120].getD k 0
def lets (m i : Nat) : Nat → List UInt8
  | 0 => []
  | k + 1 => lets m i k ++ (if m / 2 ^ (8 - (3 * i + k)) % 2 = 1 then [rwxC k] else [])
def headT : Nat → List UInt8
  | 0 => [117, 61]
  | 1 => [44, 103, 61]
  | _ => [44, 111, 61]
def txtT (m : Nat) : Nat → List UInt8
  | 0 => []
  | i + 1 => txtT m i ++ headT i ++ lets m i 3
theorem txt_read : ∀ m : Fin 512, readV (txtT m.val 3) = none := by decide +kernel
def chgKey (x : Chg) : List Int := [x.who, (x.op.toNat : Int), x.bits, (x.copy.toNat : Int), if x.dirs = true then 1 else 0]
theorem chgKey_inj {x y : Chg} (h : chgKey x = chgKey y) : x = y := by
  obtain ⟨a, b, c, d, e⟩ := x
  obtain ⟨a', b', c', d', e'⟩ := y
  unfold chgKey at h
  simp only [List.cons.injEq] at h
  obtain ⟨rfl, h2, rfl, h4, h5, _⟩ := h
  obtain rfl : b = b' := UInt8.toNat_inj.1 (by omega)
  obtain rfl : d = d' := UInt8.toNat_inj.1 (by omega)
  obtain rfl : e = e' := by cases e <;> cases e' <;> simp at h5 <;> rfl
  rfl
theorem chgKeys_inj : ∀ l m : List Chg, l.map chgKey = m.map chgKey → l = m
  | [], [], _ => rfl
  | [], _ :: _, h => by simp at h
  | _ :: _, [], h => by simp at h
  | x :: l, y :: m, h => by
    simp only [List.map_cons, List.cons.injEq] at h
    rw [chgKey_inj h.1, chgKeys_inj l m h.2]
def txtKeys (m : Nat) : Option (List (List Int)) := (allClauses (splitC 44 (txtT m 3))).map (·.map chgKey)
theorem txt_keys : ∀ m : Fin 512, txtKeys m.val = some ((octC m.val).map chgKey) := by decide +kernel
theorem txt_all (m : Nat) (hm : m < 512) : readV (txtT m 3) = none ∧ allClauses (splitC 44 (txtT m 3)) = some (octC m) := by
  refine ⟨txt_read ⟨m, hm⟩, ?_⟩
  have h : (allClauses (splitC 44 (txtT m 3))).map (·.map chgKey) = some ((octC m).map chgKey) := txt_keys ⟨m, hm⟩
  cases hp : allClauses (splitC 44 (txtT m 3)) with
  | none => simp only [hp] at h; cases h
  | some l =>
    simp only [hp] at h
    injection h with h
    rw [chgKeys_inj _ _ h]
theorem lets_len (m i : Nat) : ∀ k, (lets m i k).length ≤ k
  | 0 => Nat.le_refl _
  | k + 1 => by
    have := lets_len m i k
    show (lets m i k ++ _).length ≤ _
    rw [List.length_append]
    split <;> simp <;> omega
theorem headT_len (i : Nat) : (headT i).length ≤ 3 := by
  unfold headT
  split <;> simp
theorem txtT_len (m : Nat) : ∀ i, (txtT m i).length ≤ 6 * i
  | 0 => Nat.le_refl _
  | i + 1 => by
    have h1 := txtT_len m i
    have h2 := headT_len i
    have h3 := lets_len m i 3
    show (txtT m i ++ headT i ++ lets m i 3).length ≤ _
    rw [List.length_append, List.length_append]
    omega
theorem str_catS (a b : List UInt8) : str a ++ str b = str (a ++ b) := by
  apply ByteArray.ext
  apply Array.ext'
  rw [ByteArray.data_append]
  simp [str]
theorem str_atS (L : List UInt8) (q : Nat) (a : UInt8) (h0 : L[q]? = some a) (h : q < (str L).size) : (str L)[q]'h = a := by
  have h2 : q < L.length := by rw [← str_size]; exact h
  rw [List.getElem?_eq_getElem h2] at h0
  injection h0
theorem reads_byteS (w : World) (c : UInt8) : Reads (w.alloc (.cells #[.int .u8 (c.toNat : Int)] 5)) (w.heap.size + 1) 1 (some ⟨w.heap.size, 0, none⟩) 1 ([c].map fun b => .int .u8 (b.toNat : Int)) := by
  refine ⟨rfl, fun _ => ⟨_, rfl, Nat.lt_succ_self _, fun j u hu => ?_⟩⟩
  rw [Addr.add_lit, Nat.zero_add, (Blk.new w _ _).cell j, ← Array.getElem?_toList]
  exact hu
theorem sgn_get (mode : Int) : ∀ j : Nat, j < 9 → (100 :: sgnL mode 9)[j + 1]? = some (sgnC mode j) := by
  intro j hj
  unfold sgnL
  simp [hj]

set_option maxRecDepth 100000 in
set_option maxHeartbeats 16000000 in
theorem modesSigns_walk (B : Nat) (m0 mode mask : Int) (dir : Bool) (w : World) (hE : EnvM B w) :
    Calls Tryd.prog 5 #[.int .i64 m0, .agg #[.int .i64 mode, .int .i64 mask, .bool dir]] w fun e w' => e = .returned (.bool true) ∧ Below w.heap.size w w' := by
  have b0 : Below w.heap.size w (w.alloc (.cells #[.int .i64 mode, .int .i64 mask, .bool dir] 27)) := (Below.refl _ _).alloc (Nat.le_refl _) _
  have k0 := Blk.new w 27 #[.int .i64 mode, .int .i64 mask, .bool dir]
  have E0 := hE.up b0
  obtain ⟨m, hm⟩ : ∃ m : Nat, m = (m0 % 512).toNat := ⟨_, rfl⟩
  have hm5 : m < 512 := by omega
  have a5 := and511 m0
  rw [show m0 % 512 = (m : Int) from by omega] at a5
  obtain ⟨L, hL⟩ : ∃ L, L = 100 :: sgnL m0 9 := ⟨_, rfl⟩
  have hget : ∀ j : Nat, j < 9 → L[j + 1]? = some (sgnC m0 j) := fun j hj => by rw [hL]; exact sgn_get m0 j hj
  have h100 : L[0]? = some 100 := by rw [hL]; rfl
  have hs10 : (str L).size = 10 := by rw [str_size, hL]; rfl
  have hat0 := str_atS L 0 100 h100
  have HL := Lib.hid hL
  have HG := Lib.hid hget
  have HM := Lib.hid hm
  have HM5 := Lib.hid hm5
  have HA5 := Lib.hid a5
  clear hL hget hm hE h100 hm5 a5
  go_enter Tryd.func5, Tryd.ntmps5
  go_wp2_with fail
  refine (text_dir m0 _).mono ?_
  rw [← HL.out]
  rintro e w1 ⟨rfl, hB1⟩
  have k1 := k0.below hB1 (by simp)
  have b1 := below_then b0 b0.size hB1
  have E1 := Lib.hid (E0.up hB1)
  have hs1 : w.heap.size < w1.heap.size := by have := hB1.size; simp at this; omega
  clear b0 k0 E0 hB1 HL
  go_wp2_with fail
  refine (malive_any B w1 E1.out).mono ?_
  rintro e w2 ⟨rfl, hB2⟩
  have k2 := k1.below hB2 hs1
  have b2 := below_then b1 b1.size hB2
  have E2 := Lib.hid (E1.out.up hB2)
  have hs2 : w.heap.size < w2.heap.size := by have := hB2.size; omega
  clear b1 k1 E1 hB2 hs1
  go_wp2_with fail
  clear hat0
  go_loopw [6, 7] (fun t i wr => ((i = .int .i64 0 ∧ t = .string (str (txtT m 0))) ∨ (i = .int .i64 1 ∧ t = .string (str (txtT m 1))) ∨ (i = .int .i64 2 ∧ t = .string (str (txtT m 2))) ∨ (i = .int .i64 3 ∧ t = .string (str (txtT m 3)))) ∧ Below w2.heap.size w2 wr) (fun _ i _ => 3 - (intOf i).toNat)
  case atStart => exact ⟨.inl ⟨rfl, rfl⟩, Below.refl _ _⟩
  case round =>
    obtain ⟨hrel, hb⟩ := hrel
    rcases hrel with ⟨rfl, rfl⟩ | ⟨rfl, rfl⟩ | ⟨rfl, rfl⟩ | ⟨rfl, rfl⟩
    · obtain ⟨T, hT⟩ : ∃ T, T = txtT m 0 := ⟨_, rfl⟩
      rw [← hT]
      have hTl : T.length ≤ 0 := by rw [hT]; exact txtT_len m 0
      have HTT := Lib.hid hT
      clear hT
      have hTs := str_size T
      have hu1 : (str [117]).size = 1 := rfl
      have hrun : ∀ w' : World, (Instr.slice 9 (.string { data := #[117, 103, 111] }) (some (.int .i64 0)) (some (.int .i64 1)) none).run Tryd.prog w' = .ok (.string (str [117])) w' := fun w' =>
        run_slice_string (P := Tryd.prog) w' 9 { data := #[117, 103, 111] } .i64 .i64 0 1 Tryd.underlying9 (by decide) (by decide) (by decide)
      have HCAT := Lib.hid (show str T ++ str [117] ++ ({ data := #[61] } : ByteArray) = str (T ++ [117, 61]) from by
        rw [show ({ data := #[61] } : ByteArray) = str [61] from rfl, str_catS, str_catS]
        simp)
      go_wp2_with fail
      rw [HCAT.out]
      go_loopw [6, 8] (fun t k wx => ((k = .int .i64 0 ∧ t = .string (str (T ++ [117, 61] ++ lets m 0 0))) ∨ (k = .int .i64 1 ∧ t = .string (str (T ++ [117, 61] ++ lets m 0 1))) ∨ (k = .int .i64 2 ∧ t = .string (str (T ++ [117, 61] ++ lets m 0 2))) ∨ (k = .int .i64 3 ∧ t = .string (str (T ++ [117, 61] ++ lets m 0 3)))) ∧ Below w2.heap.size w2 wx) (fun _ k _ => 3 - (intOf k).toNat)
      case atStart => exact ⟨.inl ⟨rfl, by rw [show lets m 0 0 = [] from rfl, List.append_nil]⟩, hb⟩
      case round =>
        obtain ⟨hrelk, hbk⟩ := hrel
        have hbs := hbk.size
        rcases hrelk with ⟨rfl, rfl⟩ | ⟨rfl, rfl⟩ | ⟨rfl, rfl⟩ | ⟨rfl, rfl⟩
        · obtain ⟨S, hS⟩ : ∃ S, S = T ++ [117, 61] ++ lets m 0 0 := ⟨_, rfl⟩
          have hSl : (str S).size ≤ 64 := by
            rw [str_size, hS, List.length_append, List.length_append]
            have := lets_len m 0 0
            simp
            omega
          have hnx : T ++ [117, 61] ++ lets m 0 1 = S ++ (if m / 256 % 2 = 1 then [114] else []) := by
            rw [hS, show lets m 0 1 = lets m 0 0 ++ (if m / 256 % 2 = 1 then [114] else []) from rfl, List.append_assoc (T ++ [117, 61])]
          rw [← hS]
          have hg := HG.out 0 (by decide)
          have hsg : sgnC m0 0 = if m0 / 256 % 2 = 0 then 45 else 114 := by rfl
          have ha := and1 (m0 / 256)
          have hbit : m0 / 256 % 2 = ((m / 256 % 2 : Nat) : Int) := by have := HM.out; omega
          have HNX := Lib.hid hnx
          clear hnx hS
          by_cases hb1 : m / 256 % 2 = 1
          · rw [hsg, if_neg (by omega)] at hg
            rw [hbit, hb1] at ha
            have ha2 : bits .and .i64 (m0 / 256) 1 = 1 := ha
            have hgc := str_atS L 1 114 hg
            have HN := Lib.hid (show str S ++ str [114] = str (T ++ [117, 61] ++ lets m 0 1) from by rw [HNX.out, if_pos hb1, str_catS])
            have hz : (str [114]).size = 1 := rfl
            clear hg hsg ha hbit HNX hb1
            go_wp2_with (refine wpList_string_of_bytes _ rfl (.tmp 77) 33 9 5 rfl Tryd.underlying33 Tryd.underlying5 Tryd.underlying9 (some ⟨wr.heap.size, 0, none⟩) 1 1 (wr.heap.size + 1) [114] rfl (reads_byteS wr 114) ?_)
            rw [show str S ++ ({ data := [114].toArray } : ByteArray) = str (T ++ [117, 61] ++ lets m 0 1) from HN.out]
            go_roundw
            case rel => exact ⟨.inr (.inl ⟨rfl, rfl⟩), hbk.alloc hbs _⟩
            case measure => simp [intOf]
          · have hb2 : m / 256 % 2 = 0 := by omega
            rw [hsg, if_pos (by omega)] at hg
            rw [hbit, hb2] at ha
            have ha2 : bits .and .i64 (m0 / 256) 1 = 0 := ha
            have hgc := str_atS L 1 45 hg
            have HN := Lib.hid (show str S = str (T ++ [117, 61] ++ lets m 0 1) from by rw [HNX.out, if_neg hb1, List.append_nil])
            clear hg hsg ha hbit HNX hb1 hb2
            go_wp2_with fail
            rw [HN.out]
            go_roundw
            case rel => exact ⟨.inr (.inl ⟨rfl, rfl⟩), hbk⟩
            case measure => simp [intOf]
        · obtain ⟨S, hS⟩ : ∃ S, S = T ++ [117, 61] ++ lets m 0 1 := ⟨_, rfl⟩
          have hSl : (str S).size ≤ 64 := by
            rw [str_size, hS, List.length_append, List.length_append]
            have := lets_len m 0 1
            simp
            omega
          have hnx : T ++ [117, 61] ++ lets m 0 2 = S ++ (if m / 128 % 2 = 1 then [119] else []) := by
            rw [hS, show lets m 0 2 = lets m 0 1 ++ (if m / 128 % 2 = 1 then [119] else []) from rfl, List.append_assoc (T ++ [117, 61])]
          rw [← hS]
          have hg := HG.out 1 (by decide)
          have hsg : sgnC m0 1 = if m0 / 128 % 2 = 0 then 45 else 119 := by rfl
          have ha := and1 (m0 / 128)
          have hbit : m0 / 128 % 2 = ((m / 128 % 2 : Nat) : Int) := by have := HM.out; omega
          have HNX := Lib.hid hnx
          clear hnx hS
          by_cases hb1 : m / 128 % 2 = 1
          · rw [hsg, if_neg (by omega)] at hg
            rw [hbit, hb1] at ha
            have ha2 : bits .and .i64 (m0 / 128) 1 = 1 := ha
            have hgc := str_atS L 2 119 hg
            have HN := Lib.hid (show str S ++ str [119] = str (T ++ [117, 61] ++ lets m 0 2) from by rw [HNX.out, if_pos hb1, str_catS])
            have hz : (str [119]).size = 1 := rfl
            clear hg hsg ha hbit HNX hb1
            go_wp2_with (refine wpList_string_of_bytes _ rfl (.tmp 77) 33 9 5 rfl Tryd.underlying33 Tryd.underlying5 Tryd.underlying9 (some ⟨wr.heap.size, 0, none⟩) 1 1 (wr.heap.size + 1) [119] rfl (reads_byteS wr 119) ?_)
            rw [show str S ++ ({ data := [119].toArray } : ByteArray) = str (T ++ [117, 61] ++ lets m 0 2) from HN.out]
            go_roundw
            case rel => exact ⟨.inr (.inr (.inl ⟨rfl, rfl⟩)), hbk.alloc hbs _⟩
            case measure => simp [intOf]
          · have hb2 : m / 128 % 2 = 0 := by omega
            rw [hsg, if_pos (by omega)] at hg
            rw [hbit, hb2] at ha
            have ha2 : bits .and .i64 (m0 / 128) 1 = 0 := ha
            have hgc := str_atS L 2 45 hg
            have HN := Lib.hid (show str S = str (T ++ [117, 61] ++ lets m 0 2) from by rw [HNX.out, if_neg hb1, List.append_nil])
            clear hg hsg ha hbit HNX hb1 hb2
            go_wp2_with fail
            rw [HN.out]
            go_roundw
            case rel => exact ⟨.inr (.inr (.inl ⟨rfl, rfl⟩)), hbk⟩
            case measure => simp [intOf]
        · obtain ⟨S, hS⟩ : ∃ S, S = T ++ [117, 61] ++ lets m 0 2 := ⟨_, rfl⟩
          have hSl : (str S).size ≤ 64 := by
            rw [str_size, hS, List.length_append, List.length_append]
            have := lets_len m 0 2
            simp
            omega
          have hnx : T ++ [117, 61] ++ lets m 0 3 = S ++ (if m / 64 % 2 = 1 then [120] else []) := by
            rw [hS, show lets m 0 3 = lets m 0 2 ++ (if m / 64 % 2 = 1 then [120] else []) from rfl, List.append_assoc (T ++ [117, 61])]
          rw [← hS]
          have hg := HG.out 2 (by decide)
          have hsg : sgnC m0 2 = if m0 / 64 % 2 = 0 then 45 else 120 := by rfl
          have ha := and1 (m0 / 64)
          have hbit : m0 / 64 % 2 = ((m / 64 % 2 : Nat) : Int) := by have := HM.out; omega
          have HNX := Lib.hid hnx
          clear hnx hS
          by_cases hb1 : m / 64 % 2 = 1
          · rw [hsg, if_neg (by omega)] at hg
            rw [hbit, hb1] at ha
            have ha2 : bits .and .i64 (m0 / 64) 1 = 1 := ha
            have hgc := str_atS L 3 120 hg
            have HN := Lib.hid (show str S ++ str [120] = str (T ++ [117, 61] ++ lets m 0 3) from by rw [HNX.out, if_pos hb1, str_catS])
            have hz : (str [120]).size = 1 := rfl
            clear hg hsg ha hbit HNX hb1
            go_wp2_with (refine wpList_string_of_bytes _ rfl (.tmp 77) 33 9 5 rfl Tryd.underlying33 Tryd.underlying5 Tryd.underlying9 (some ⟨wr.heap.size, 0, none⟩) 1 1 (wr.heap.size + 1) [120] rfl (reads_byteS wr 120) ?_)
            rw [show str S ++ ({ data := [120].toArray } : ByteArray) = str (T ++ [117, 61] ++ lets m 0 3) from HN.out]
            go_roundw
            case rel => exact ⟨.inr (.inr (.inr (⟨rfl, rfl⟩))), hbk.alloc hbs _⟩
            case measure => simp [intOf]
          · have hb2 : m / 64 % 2 = 0 := by omega
            rw [hsg, if_pos (by omega)] at hg
            rw [hbit, hb2] at ha
            have ha2 : bits .and .i64 (m0 / 64) 1 = 0 := ha
            have hgc := str_atS L 3 45 hg
            have HN := Lib.hid (show str S = str (T ++ [117, 61] ++ lets m 0 3) from by rw [HNX.out, if_neg hb1, List.append_nil])
            clear hg hsg ha hbit HNX hb1 hb2
            go_wp2_with fail
            rw [HN.out]
            go_roundw
            case rel => exact ⟨.inr (.inr (.inr (⟨rfl, rfl⟩))), hbk⟩
            case measure => simp [intOf]
        · have HT := Lib.hid (show T ++ [117, 61] ++ lets m 0 3 = txtT m 1 from by rw [HTT.out]; rfl)
          rw [HT.out]
          go_wp2_with fail
          go_roundw
          case rel => exact ⟨.inr (.inl ⟨rfl, rfl⟩), hbk⟩
          case measure => simp [intOf]
    · obtain ⟨T, hT⟩ : ∃ T, T = txtT m 1 := ⟨_, rfl⟩
      rw [← hT]
      have hTl : T.length ≤ 6 := by rw [hT]; exact txtT_len m 1
      have HTT := Lib.hid hT
      clear hT
      have hTs := str_size T
      have hu1 : (str [103]).size = 1 := rfl
      have hrun : ∀ w' : World, (Instr.slice 9 (.string { data := #[117, 103, 111] }) (some (.int .i64 1)) (some (.int .i64 2)) none).run Tryd.prog w' = .ok (.string (str [103])) w' := fun w' =>
        run_slice_string (P := Tryd.prog) w' 9 { data := #[117, 103, 111] } .i64 .i64 1 2 Tryd.underlying9 (by decide) (by decide) (by decide)
      have HCAT := Lib.hid (show str T ++ ({ data := #[44] } : ByteArray) ++ str [103] ++ ({ data := #[61] } : ByteArray) = str (T ++ [44, 103, 61]) from by
        rw [show ({ data := #[44] } : ByteArray) = str [44] from rfl, show ({ data := #[61] } : ByteArray) = str [61] from rfl, str_catS, str_catS, str_catS]
        simp)
      go_wp2_with fail
      rw [HCAT.out]
      go_loopw [6, 8] (fun t k wx => ((k = .int .i64 0 ∧ t = .string (str (T ++ [44, 103, 61] ++ lets m 1 0))) ∨ (k = .int .i64 1 ∧ t = .string (str (T ++ [44, 103, 61] ++ lets m 1 1))) ∨ (k = .int .i64 2 ∧ t = .string (str (T ++ [44, 103, 61] ++ lets m 1 2))) ∨ (k = .int .i64 3 ∧ t = .string (str (T ++ [44, 103, 61] ++ lets m 1 3)))) ∧ Below w2.heap.size w2 wx) (fun _ k _ => 3 - (intOf k).toNat)
      case atStart => exact ⟨.inl ⟨rfl, by rw [show lets m 1 0 = [] from rfl, List.append_nil]⟩, hb⟩
      case round =>
        obtain ⟨hrelk, hbk⟩ := hrel
        have hbs := hbk.size
        rcases hrelk with ⟨rfl, rfl⟩ | ⟨rfl, rfl⟩ | ⟨rfl, rfl⟩ | ⟨rfl, rfl⟩
        · obtain ⟨S, hS⟩ : ∃ S, S = T ++ [44, 103, 61] ++ lets m 1 0 := ⟨_, rfl⟩
          have hSl : (str S).size ≤ 64 := by
            rw [str_size, hS, List.length_append, List.length_append]
            have := lets_len m 1 0
            simp
            omega
          have hnx : T ++ [44, 103, 61] ++ lets m 1 1 = S ++ (if m / 32 % 2 = 1 then [114] else []) := by
            rw [hS, show lets m 1 1 = lets m 1 0 ++ (if m / 32 % 2 = 1 then [114] else []) from rfl, List.append_assoc (T ++ [44, 103, 61])]
          rw [← hS]
          have hg := HG.out 3 (by decide)
          have hsg : sgnC m0 3 = if m0 / 32 % 2 = 0 then 45 else 114 := by rfl
          have ha := and1 (m0 / 32)
          have hbit : m0 / 32 % 2 = ((m / 32 % 2 : Nat) : Int) := by have := HM.out; omega
          have HNX := Lib.hid hnx
          clear hnx hS
          by_cases hb1 : m / 32 % 2 = 1
          · rw [hsg, if_neg (by omega)] at hg
            rw [hbit, hb1] at ha
            have ha2 : bits .and .i64 (m0 / 32) 1 = 1 := ha
            have hgc := str_atS L 4 114 hg
            have HN := Lib.hid (show str S ++ str [114] = str (T ++ [44, 103, 61] ++ lets m 1 1) from by rw [HNX.out, if_pos hb1, str_catS])
            have hz : (str [114]).size = 1 := rfl
            clear hg hsg ha hbit HNX hb1
            go_wp2_with (refine wpList_string_of_bytes _ rfl (.tmp 77) 33 9 5 rfl Tryd.underlying33 Tryd.underlying5 Tryd.underlying9 (some ⟨wr.heap.size, 0, none⟩) 1 1 (wr.heap.size + 1) [114] rfl (reads_byteS wr 114) ?_)
            rw [show str S ++ ({ data := [114].toArray } : ByteArray) = str (T ++ [44, 103, 61] ++ lets m 1 1) from HN.out]
            go_roundw
            case rel => exact ⟨.inr (.inl ⟨rfl, rfl⟩), hbk.alloc hbs _⟩
            case measure => simp [intOf]
          · have hb2 : m / 32 % 2 = 0 := by omega
            rw [hsg, if_pos (by omega)] at hg
            rw [hbit, hb2] at ha
            have ha2 : bits .and .i64 (m0 / 32) 1 = 0 := ha
            have hgc := str_atS L 4 45 hg
            have HN := Lib.hid (show str S = str (T ++ [44, 103, 61] ++ lets m 1 1) from by rw [HNX.out, if_neg hb1, List.append_nil])
            clear hg hsg ha hbit HNX hb1 hb2
            go_wp2_with fail
            rw [HN.out]
            go_roundw
            case rel => exact ⟨.inr (.inl ⟨rfl, rfl⟩), hbk⟩
            case measure => simp [intOf]
        · obtain ⟨S, hS⟩ : ∃ S, S = T ++ [44, 103, 61] ++ lets m 1 1 := ⟨_, rfl⟩
          have hSl : (str S).size ≤ 64 := by
            rw [str_size, hS, List.length_append, List.length_append]
            have := lets_len m 1 1
            simp
            omega
          have hnx : T ++ [44, 103, 61] ++ lets m 1 2 = S ++ (if m / 16 % 2 = 1 then [119] else []) := by
            rw [hS, show lets m 1 2 = lets m 1 1 ++ (if m / 16 % 2 = 1 then [119] else []) from rfl, List.append_assoc (T ++ [44, 103, 61])]
          rw [← hS]
          have hg := HG.out 4 (by decide)
          have hsg : sgnC m0 4 = if m0 / 16 % 2 = 0 then 45 else 119 := by rfl
          have ha := and1 (m0 / 16)
          have hbit : m0 / 16 % 2 = ((m / 16 % 2 : Nat) : Int) := by have := HM.out; omega
          have HNX := Lib.hid hnx
          clear hnx hS
          by_cases hb1 : m / 16 % 2 = 1
          · rw [hsg, if_neg (by omega)] at hg
            rw [hbit, hb1] at ha
            have ha2 : bits .and .i64 (m0 / 16) 1 = 1 := ha
            have hgc := str_atS L 5 119 hg
            have HN := Lib.hid (show str S ++ str [119] = str (T ++ [44, 103, 61] ++ lets m 1 2) from by rw [HNX.out, if_pos hb1, str_catS])
            have hz : (str [119]).size = 1 := rfl
            clear hg hsg ha hbit HNX hb1
            go_wp2_with (refine wpList_string_of_bytes _ rfl (.tmp 77) 33 9 5 rfl Tryd.underlying33 Tryd.underlying5 Tryd.underlying9 (some ⟨wr.heap.size, 0, none⟩) 1 1 (wr.heap.size + 1) [119] rfl (reads_byteS wr 119) ?_)
            rw [show str S ++ ({ data := [119].toArray } : ByteArray) = str (T ++ [44, 103, 61] ++ lets m 1 2) from HN.out]
            go_roundw
            case rel => exact ⟨.inr (.inr (.inl ⟨rfl, rfl⟩)), hbk.alloc hbs _⟩
            case measure => simp [intOf]
          · have hb2 : m / 16 % 2 = 0 := by omega
            rw [hsg, if_pos (by omega)] at hg
            rw [hbit, hb2] at ha
            have ha2 : bits .and .i64 (m0 / 16) 1 = 0 := ha
            have hgc := str_atS L 5 45 hg
            have HN := Lib.hid (show str S = str (T ++ [44, 103, 61] ++ lets m 1 2) from by rw [HNX.out, if_neg hb1, List.append_nil])
            clear hg hsg ha hbit HNX hb1 hb2
            go_wp2_with fail
            rw [HN.out]
            go_roundw
            case rel => exact ⟨.inr (.inr (.inl ⟨rfl, rfl⟩)), hbk⟩
            case measure => simp [intOf]
        · obtain ⟨S, hS⟩ : ∃ S, S = T ++ [44, 103, 61] ++ lets m 1 2 := ⟨_, rfl⟩
          have hSl : (str S).size ≤ 64 := by
            rw [str_size, hS, List.length_append, List.length_append]
            have := lets_len m 1 2
            simp
            omega
          have hnx : T ++ [44, 103, 61] ++ lets m 1 3 = S ++ (if m / 8 % 2 = 1 then [120] else []) := by
            rw [hS, show lets m 1 3 = lets m 1 2 ++ (if m / 8 % 2 = 1 then [120] else []) from rfl, List.append_assoc (T ++ [44, 103, 61])]
          rw [← hS]
          have hg := HG.out 5 (by decide)
          have hsg : sgnC m0 5 = if m0 / 8 % 2 = 0 then 45 else 120 := by rfl
          have ha := and1 (m0 / 8)
          have hbit : m0 / 8 % 2 = ((m / 8 % 2 : Nat) : Int) := by have := HM.out; omega
          have HNX := Lib.hid hnx
          clear hnx hS
          by_cases hb1 : m / 8 % 2 = 1
          · rw [hsg, if_neg (by omega)] at hg
            rw [hbit, hb1] at ha
            have ha2 : bits .and .i64 (m0 / 8) 1 = 1 := ha
            have hgc := str_atS L 6 120 hg
            have HN := Lib.hid (show str S ++ str [120] = str (T ++ [44, 103, 61] ++ lets m 1 3) from by rw [HNX.out, if_pos hb1, str_catS])
            have hz : (str [120]).size = 1 := rfl
            clear hg hsg ha hbit HNX hb1
            go_wp2_with (refine wpList_string_of_bytes _ rfl (.tmp 77) 33 9 5 rfl Tryd.underlying33 Tryd.underlying5 Tryd.underlying9 (some ⟨wr.heap.size, 0, none⟩) 1 1 (wr.heap.size + 1) [120] rfl (reads_byteS wr 120) ?_)
            rw [show str S ++ ({ data := [120].toArray } : ByteArray) = str (T ++ [44, 103, 61] ++ lets m 1 3) from HN.out]
            go_roundw
            case rel => exact ⟨.inr (.inr (.inr (⟨rfl, rfl⟩))), hbk.alloc hbs _⟩
            case measure => simp [intOf]
          · have hb2 : m / 8 % 2 = 0 := by omega
            rw [hsg, if_pos (by omega)] at hg
            rw [hbit, hb2] at ha
            have ha2 : bits .and .i64 (m0 / 8) 1 = 0 := ha
            have hgc := str_atS L 6 45 hg
            have HN := Lib.hid (show str S = str (T ++ [44, 103, 61] ++ lets m 1 3) from by rw [HNX.out, if_neg hb1, List.append_nil])
            clear hg hsg ha hbit HNX hb1 hb2
            go_wp2_with fail
            rw [HN.out]
            go_roundw
            case rel => exact ⟨.inr (.inr (.inr (⟨rfl, rfl⟩))), hbk⟩
            case measure => simp [intOf]
        · have HT := Lib.hid (show T ++ [44, 103, 61] ++ lets m 1 3 = txtT m 2 from by rw [HTT.out]; rfl)
          rw [HT.out]
          go_wp2_with fail
          go_roundw
          case rel => exact ⟨.inr (.inr (.inl ⟨rfl, rfl⟩)), hbk⟩
          case measure => simp [intOf]
    · obtain ⟨T, hT⟩ : ∃ T, T = txtT m 2 := ⟨_, rfl⟩
      rw [← hT]
      have hTl : T.length ≤ 12 := by rw [hT]; exact txtT_len m 2
      have HTT := Lib.hid hT
      clear hT
      have hTs := str_size T
      have hu1 : (str [111]).size = 1 := rfl
      have hrun : ∀ w' : World, (Instr.slice 9 (.string { data := #[117, 103, 111] }) (some (.int .i64 2)) (some (.int .i64 3)) none).run Tryd.prog w' = .ok (.string (str [111])) w' := fun w' =>
        run_slice_string (P := Tryd.prog) w' 9 { data := #[117, 103, 111] } .i64 .i64 2 3 Tryd.underlying9 (by decide) (by decide) (by decide)
      have HCAT := Lib.hid (show str T ++ ({ data := #[44] } : ByteArray) ++ str [111] ++ ({ data := #[61] } : ByteArray) = str (T ++ [44, 111, 61]) from by
        rw [show ({ data := #[44] } : ByteArray) = str [44] from rfl, show ({ data := #[61] } : ByteArray) = str [61] from rfl, str_catS, str_catS, str_catS]
        simp)
      go_wp2_with fail
      rw [HCAT.out]
      go_loopw [6, 8] (fun t k wx => ((k = .int .i64 0 ∧ t = .string (str (T ++ [44, 111, 61] ++ lets m 2 0))) ∨ (k = .int .i64 1 ∧ t = .string (str (T ++ [44, 111, 61] ++ lets m 2 1))) ∨ (k = .int .i64 2 ∧ t = .string (str (T ++ [44, 111, 61] ++ lets m 2 2))) ∨ (k = .int .i64 3 ∧ t = .string (str (T ++ [44, 111, 61] ++ lets m 2 3)))) ∧ Below w2.heap.size w2 wx) (fun _ k _ => 3 - (intOf k).toNat)
      case atStart => exact ⟨.inl ⟨rfl, by rw [show lets m 2 0 = [] from rfl, List.append_nil]⟩, hb⟩
      case round =>
        obtain ⟨hrelk, hbk⟩ := hrel
        have hbs := hbk.size
        rcases hrelk with ⟨rfl, rfl⟩ | ⟨rfl, rfl⟩ | ⟨rfl, rfl⟩ | ⟨rfl, rfl⟩
        · obtain ⟨S, hS⟩ : ∃ S, S = T ++ [44, 111, 61] ++ lets m 2 0 := ⟨_, rfl⟩
          have hSl : (str S).size ≤ 64 := by
            rw [str_size, hS, List.length_append, List.length_append]
            have := lets_len m 2 0
            simp
            omega
          have hnx : T ++ [44, 111, 61] ++ lets m 2 1 = S ++ (if m / 4 % 2 = 1 then [114] else []) := by
            rw [hS, show lets m 2 1 = lets m 2 0 ++ (if m / 4 % 2 = 1 then [114] else []) from rfl, List.append_assoc (T ++ [44, 111, 61])]
          rw [← hS]
          have hg := HG.out 6 (by decide)
          have hsg : sgnC m0 6 = if m0 / 4 % 2 = 0 then 45 else 114 := by rfl
          have ha := and1 (m0 / 4)
          have hbit : m0 / 4 % 2 = ((m / 4 % 2 : Nat) : Int) := by have := HM.out; omega
          have HNX := Lib.hid hnx
          clear hnx hS
          by_cases hb1 : m / 4 % 2 = 1
          · rw [hsg, if_neg (by omega)] at hg
            rw [hbit, hb1] at ha
            have ha2 : bits .and .i64 (m0 / 4) 1 = 1 := ha
            have hgc := str_atS L 7 114 hg
            have HN := Lib.hid (show str S ++ str [114] = str (T ++ [44, 111, 61] ++ lets m 2 1) from by rw [HNX.out, if_pos hb1, str_catS])
            have hz : (str [114]).size = 1 := rfl
            clear hg hsg ha hbit HNX hb1
            go_wp2_with (refine wpList_string_of_bytes _ rfl (.tmp 77) 33 9 5 rfl Tryd.underlying33 Tryd.underlying5 Tryd.underlying9 (some ⟨wr.heap.size, 0, none⟩) 1 1 (wr.heap.size + 1) [114] rfl (reads_byteS wr 114) ?_)
            rw [show str S ++ ({ data := [114].toArray } : ByteArray) = str (T ++ [44, 111, 61] ++ lets m 2 1) from HN.out]
            go_roundw
            case rel => exact ⟨.inr (.inl ⟨rfl, rfl⟩), hbk.alloc hbs _⟩
            case measure => simp [intOf]
          · have hb2 : m / 4 % 2 = 0 := by omega
            rw [hsg, if_pos (by omega)] at hg
            rw [hbit, hb2] at ha
            have ha2 : bits .and .i64 (m0 / 4) 1 = 0 := ha
            have hgc := str_atS L 7 45 hg
            have HN := Lib.hid (show str S = str (T ++ [44, 111, 61] ++ lets m 2 1) from by rw [HNX.out, if_neg hb1, List.append_nil])
            clear hg hsg ha hbit HNX hb1 hb2
            go_wp2_with fail
            rw [HN.out]
            go_roundw
            case rel => exact ⟨.inr (.inl ⟨rfl, rfl⟩), hbk⟩
            case measure => simp [intOf]
        · obtain ⟨S, hS⟩ : ∃ S, S = T ++ [44, 111, 61] ++ lets m 2 1 := ⟨_, rfl⟩
          have hSl : (str S).size ≤ 64 := by
            rw [str_size, hS, List.length_append, List.length_append]
            have := lets_len m 2 1
            simp
            omega
          have hnx : T ++ [44, 111, 61] ++ lets m 2 2 = S ++ (if m / 2 % 2 = 1 then [119] else []) := by
            rw [hS, show lets m 2 2 = lets m 2 1 ++ (if m / 2 % 2 = 1 then [119] else []) from rfl, List.append_assoc (T ++ [44, 111, 61])]
          rw [← hS]
          have hg := HG.out 7 (by decide)
          have hsg : sgnC m0 7 = if m0 / 2 % 2 = 0 then 45 else 119 := by rfl
          have ha := and1 (m0 / 2)
          have hbit : m0 / 2 % 2 = ((m / 2 % 2 : Nat) : Int) := by have := HM.out; omega
          have HNX := Lib.hid hnx
          clear hnx hS
          by_cases hb1 : m / 2 % 2 = 1
          · rw [hsg, if_neg (by omega)] at hg
            rw [hbit, hb1] at ha
            have ha2 : bits .and .i64 (m0 / 2) 1 = 1 := ha
            have hgc := str_atS L 8 119 hg
            have HN := Lib.hid (show str S ++ str [119] = str (T ++ [44, 111, 61] ++ lets m 2 2) from by rw [HNX.out, if_pos hb1, str_catS])
            have hz : (str [119]).size = 1 := rfl
            clear hg hsg ha hbit HNX hb1
            go_wp2_with (refine wpList_string_of_bytes _ rfl (.tmp 77) 33 9 5 rfl Tryd.underlying33 Tryd.underlying5 Tryd.underlying9 (some ⟨wr.heap.size, 0, none⟩) 1 1 (wr.heap.size + 1) [119] rfl (reads_byteS wr 119) ?_)
            rw [show str S ++ ({ data := [119].toArray } : ByteArray) = str (T ++ [44, 111, 61] ++ lets m 2 2) from HN.out]
            go_roundw
            case rel => exact ⟨.inr (.inr (.inl ⟨rfl, rfl⟩)), hbk.alloc hbs _⟩
            case measure => simp [intOf]
          · have hb2 : m / 2 % 2 = 0 := by omega
            rw [hsg, if_pos (by omega)] at hg
            rw [hbit, hb2] at ha
            have ha2 : bits .and .i64 (m0 / 2) 1 = 0 := ha
            have hgc := str_atS L 8 45 hg
            have HN := Lib.hid (show str S = str (T ++ [44, 111, 61] ++ lets m 2 2) from by rw [HNX.out, if_neg hb1, List.append_nil])
            clear hg hsg ha hbit HNX hb1 hb2
            go_wp2_with fail
            rw [HN.out]
            go_roundw
            case rel => exact ⟨.inr (.inr (.inl ⟨rfl, rfl⟩)), hbk⟩
            case measure => simp [intOf]
        · obtain ⟨S, hS⟩ : ∃ S, S = T ++ [44, 111, 61] ++ lets m 2 2 := ⟨_, rfl⟩
          have hSl : (str S).size ≤ 64 := by
            rw [str_size, hS, List.length_append, List.length_append]
            have := lets_len m 2 2
            simp
            omega
          have hnx : T ++ [44, 111, 61] ++ lets m 2 3 = S ++ (if m / 1 % 2 = 1 then [120] else []) := by
            rw [hS, show lets m 2 3 = lets m 2 2 ++ (if m / 1 % 2 = 1 then [120] else []) from rfl, List.append_assoc (T ++ [44, 111, 61])]
          rw [← hS]
          have hg := HG.out 8 (by decide)
          have hsg : sgnC m0 8 = if m0 % 2 = 0 then 45 else 120 := by unfold sgnC; simp [rwxL]
          have ha := and1 (m0)
          have hbit : m0 % 2 = ((m / 1 % 2 : Nat) : Int) := by have := HM.out; omega
          have HNX := Lib.hid hnx
          clear hnx hS
          by_cases hb1 : m / 1 % 2 = 1
          · rw [hsg, if_neg (by omega)] at hg
            rw [hbit, hb1] at ha
            have ha2 : bits .and .i64 (m0) 1 = 1 := ha
            have hgc := str_atS L 9 120 hg
            have HN := Lib.hid (show str S ++ str [120] = str (T ++ [44, 111, 61] ++ lets m 2 3) from by rw [HNX.out, if_pos hb1, str_catS])
            have hz : (str [120]).size = 1 := rfl
            clear hg hsg ha hbit HNX hb1
            go_wp2_with (refine wpList_string_of_bytes _ rfl (.tmp 77) 33 9 5 rfl Tryd.underlying33 Tryd.underlying5 Tryd.underlying9 (some ⟨wr.heap.size, 0, none⟩) 1 1 (wr.heap.size + 1) [120] rfl (reads_byteS wr 120) ?_)
            rw [show str S ++ ({ data := [120].toArray } : ByteArray) = str (T ++ [44, 111, 61] ++ lets m 2 3) from HN.out]
            go_roundw
            case rel => exact ⟨.inr (.inr (.inr (⟨rfl, rfl⟩))), hbk.alloc hbs _⟩
            case measure => simp [intOf]
          · have hb2 : m / 1 % 2 = 0 := by omega
            rw [hsg, if_pos (by omega)] at hg
            rw [hbit, hb2] at ha
            have ha2 : bits .and .i64 (m0) 1 = 0 := ha
            have hgc := str_atS L 9 45 hg
            have HN := Lib.hid (show str S = str (T ++ [44, 111, 61] ++ lets m 2 3) from by rw [HNX.out, if_neg hb1, List.append_nil])
            clear hg hsg ha hbit HNX hb1 hb2
            go_wp2_with fail
            rw [HN.out]
            go_roundw
            case rel => exact ⟨.inr (.inr (.inr (⟨rfl, rfl⟩))), hbk⟩
            case measure => simp [intOf]
        · have HT := Lib.hid (show T ++ [44, 111, 61] ++ lets m 2 3 = txtT m 3 from by rw [HTT.out]; rfl)
          rw [HT.out]
          go_wp2_with fail
          go_roundw
          case rel => exact ⟨.inr (.inr (.inr (⟨rfl, rfl⟩))), hbk⟩
          case measure => simp [intOf]
    · obtain ⟨hr1, hr2⟩ := txt_all m HM5.out
      have hl := txtT_len m 3
      have HS := Lib.hid (octC_sets m HM5.out mask dir (mode % 512).toNat (by omega))
      have kb := k2.below hb hs2
      have bb := below_then b2 b2.size hb
      have c0 : wr.cell? ⟨w.heap.size, 0, none⟩ = some (.int .i64 mode) := kb.cell 0
      have c1 : wr.cell? ⟨w.heap.size, 1, none⟩ = some (.int .i64 mask) := kb.cell 1
      have c2 : wr.cell? ⟨w.heap.size, 2, none⟩ = some (.bool dir) := kb.cell 2
      have a5 := HA5.out
      go_wp2_with fail
      refine (by_is B (txtT m 3) (octC m) mode mask dir m wr (E2.out.up hb) hr1 (by omega) hr2 (show (3 : Nat) ≤ 4096 by decide) HS.out).mono ?_
      rintro e w5 ⟨rfl, hB5⟩
      clear hr1 hr2 hl
      go_wp2_with fail
      go_ret
      exact ⟨rfl, below_then bb bb.size hB5⟩
end Go.Proofs.YtnpaddakkniliaaDoor
