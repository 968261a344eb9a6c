/-
  toolchestlaw01's own check of some answers: its contract.
-/
import Derived.Test.YtghkdfjmahmolaaDoorOptsSame
import Derived.Test.YtghkdfjmahmolaaDoorOptsNumber
namespace Go.Proofs.YtghkdfjmahmolaaDoor
open Go.RowKit

/-- A row just laid reads as it was laid. -/
theorem reads_row (w : World) (t : TypeId) (size n : Nat) (cs : Array Value) (xs : List Value) (hx : cs.toList = xs) (hl : xs.length = n * size) :
    Reads (w.alloc (.cells cs t)) (w.heap.size + 1) size (some ⟨w.heap.size, 0, none⟩) n xs := by
  refine ⟨hl, fun _ => ⟨_, rfl, Nat.lt_succ_self _, fun j u hu => ?_⟩⟩
  rw [Addr.add_lit, Nat.zero_add, (Blk.new w t cs).cell j, ← Array.getElem?_toList, hx]
  exact hu
theorem parse_use (which : List UInt8) (args : List (List UInt8)) (fl : List FlagL) (rest : List (List UInt8)) (code : Nat) (hV : optsV which args = (fl, rest, code)) (A : Option Addr) (n c : Nat) (w : World) (hw : which.length ≤ 2097152) (hr : Reads w w.heap.size 1 A n (txv args)) (hnc : n ≤ c) (hn : n ≤ 140737488351232) (hS : Fits args) :
    Calls Tryd.prog 16 #[.string (str which), .slice A n c] w fun e w' => ∃ A1 c1 A2 c2, e = .returned (.tuple #[.slice A1 fl.length c1, .slice A2 rest.length c2, .int .i64 (code : Nat)]) ∧
      Reads w' w'.heap.size 2 A1 fl.length (flv fl) ∧ Reads w' w'.heap.size 1 A2 rest.length (txv rest) ∧ Below w.heap.size w w' :=
  (optsParse_any which A n c args w hw hr hnc hn hS).mono fun e w' ⟨h, hB⟩ => by
    unfold OptsIs at h
    rw [hV] at h
    obtain ⟨v, v', he, h1, h2⟩ := h
    obtain ⟨A1, c1, rfl⟩ := own_slice h1
    obtain ⟨A2, c2, rfl⟩ := own_slice h2
    exact ⟨A1, c1, A2, c2, he, Reads.of_own h1, Reads.of_own h2, hB⟩
theorem flags_lit : flv [(97, []), (110, [53])] = [.int .u8 97, .string { data := #[] }, .int .u8 110, .string { data := #[53] }] := rfl
theorem alive_num : numOk [45, 48, 48, 55] = true := by decide
theorem alive_numV : numV [45, 48, 48, 55] = -7 := by decide
theorem number_use (s : List UInt8) (v : Int) (w : World) (hl : s.length ≤ 2097152) (h : numOk s = true) (hv : numV s = v) :
    Calls Tryd.prog 12 #[.string (str s)] w fun e w' => e = .returned (.tuple #[.int .i64 v, .bool true]) ∧ Below w.heap.size w w' :=
  (number_any s w hl).mono fun e w' ⟨h1, h2⟩ => ⟨by unfold NumIs at h1; rw [h, if_pos rfl, hv] at h1; exact h1, h2⟩

set_option maxRecDepth 100000 in
set_option maxHeartbeats 4000000 in
theorem alive_any (w : World) : Calls Tryd.prog 14 #[] w fun e w' => e = .returned (.bool true) ∧ Below w.heap.size w w' := by
  have b1 : Below w.heap.size w (w.alloc (.cells #[.string { data := #[45, 97, 110] }, .string { data := #[53] }, .string { data := #[45, 45] }, .string { data := #[45, 97] }] 9)) := (Below.refl _ _).alloc (Nat.le_refl _) _
  have r1 := reads_row w 9 1 4 #[.string { data := #[45, 97, 110] }, .string { data := #[53] }, .string { data := #[45, 45] }, .string { data := #[45, 97] }] (txv [[45, 97, 110], [53], [45, 45], [45, 97]]) rfl rfl
  go_enter Tryd.func14, Tryd.ntmps14
  go_wp2_with fail
  refine (parse_use [97, 110, 58] [[45, 97, 110], [53], [45, 45], [45, 97]] _ _ _ alive1 (some ⟨w.heap.size, 0, none⟩) 4 4 _ (by decide) (r1.more (by simp)) (Nat.le_refl _) (by omega) (.inl (by decide))).mono ?_
  rintro e w1 ⟨A1, c1, A2, c2, rfl, ra, rb, hB1⟩
  have hb1 := below_then b1 b1.size hB1
  clear b1 r1 hB1
  have b2 : Below w1.heap.size w1 (w1.alloc (.cells #[.string { data := #[45, 97] }, .string { data := #[45, 110, 53] }, .string { data := #[120] }, .string { data := #[45, 97] }] 9)) := (Below.refl _ _).alloc (Nat.le_refl _) _
  have r2 := reads_row w1 9 1 4 #[.string { data := #[45, 97] }, .string { data := #[45, 110, 53] }, .string { data := #[120] }, .string { data := #[45, 97] }] (txv [[45, 97], [45, 110, 53], [120], [45, 97]]) rfl rfl
  go_wp2_with fail
  refine (parse_use [97, 110, 58] [[45, 97], [45, 110, 53], [120], [45, 97]] _ _ _ alive2 (some ⟨w1.heap.size, 0, none⟩) 4 4 _ (by decide) (r2.more (by simp)) (Nat.le_refl _) (by omega) (.inl (by decide))).mono ?_
  rintro e w2 ⟨A3, c3, A4, c4, rfl, rc, rd, hB2⟩
  have hB12 := below_then b2 b2.size hB2
  have ra2 := (ra.below hB12).more hB12.size
  have rb2 := (rb.below hB12).more hB12.size
  have hb2 := below_then hb1 hb1.size hB12
  clear b2 r2 hB2 hB12 ra rb hb1
  have b3 : Below w2.heap.size w2 (w2.alloc (.cells #[.string { data := #[45, 98] }] 9)) := (Below.refl _ _).alloc (Nat.le_refl _) _
  have r3 := reads_row w2 9 1 1 #[.string { data := #[45, 98] }] (txv [[45, 98]]) rfl rfl
  go_wp2_with fail
  refine (parse_use [97, 110, 58] [[45, 98]] _ _ _ alive3 (some ⟨w2.heap.size, 0, none⟩) 1 1 _ (by decide) (r3.more (by simp)) (Nat.le_refl _) (by omega) (.inl (by decide))).mono ?_
  rintro e w3 ⟨A5, c5, A6, c6, rfl, -, -, hB3⟩
  have hB23 := below_then b3 b3.size hB3
  have ra3 := (ra2.below hB23).more hB23.size
  have rb3 := (rb2.below hB23).more hB23.size
  have rc3 := (rc.below hB23).more hB23.size
  have rd3 := (rd.below hB23).more hB23.size
  have hb3 := below_then hb2 hb2.size hB23
  clear b3 r3 hB3 hB23 ra2 rb2 rc rd hb2
  go_wp2_with fail
  refine (parse_use [97, 97] [] _ _ _ alive4 none 0 0 w3 (by decide) Reads.none_ (Nat.le_refl _) (by omega) (.inl (by decide))).mono ?_
  rintro e w4 ⟨A7, c7, A8, c8, rfl, -, -, hB4⟩
  have ra4 := (ra3.below hB4).more hB4.size
  have rb4 := (rb3.below hB4).more hB4.size
  have rc4 := (rc3.below hB4).more hB4.size
  have rd4 := (rd3.below hB4).more hB4.size
  have hb4 := below_then hb3 hb3.size hB4
  clear hB4 ra3 rb3 rc3 rd3 hb3
  go_wp2_with fail
  refine (number_use [45, 48, 48, 55] (-7) w4 (by decide) alive_num alive_numV).mono ?_
  rintro e w5 ⟨rfl, hB5⟩
  have ra5 := (ra4.below hB5).more hB5.size
  have rb5 := (rb4.below hB5).more hB5.size
  have rc5 := (rc4.below hB5).more hB5.size
  have rd5 := (rd4.below hB5).more hB5.size
  have hb5 := below_then hb4 hb4.size hB5
  clear hB5 ra4 rb4 rc4 rd4 hb4
  have b6 : Below w5.heap.size w5 (w5.alloc (.cells #[.int .u8 97, .string { data := #[] }, .int .u8 110, .string { data := #[53] }] 38)) := (Below.refl _ _).alloc (Nat.le_refl _) _
  have r6 := reads_row w5 38 2 2 #[.int .u8 97, .string { data := #[] }, .int .u8 110, .string { data := #[53] }] (flv [(97, []), (110, [53])]) rfl rfl
  go_wp2_with fail
  refine (sameFlags_any A1 (some ⟨w5.heap.size, 0, none⟩) 2 c1 2 (w5.heap.size + 1) [(97, []), (110, [53])] _ ((ra5.below b6).more (Nat.le_succ _)) r6 (by omega)).mono ?_
  rintro e w6 ⟨rfl, hB6⟩
  have hB56 := below_then b6 b6.size hB6
  have ra6 := (ra5.below hB56).more hB56.size
  have rb6 := (rb5.below hB56).more hB56.size
  have rc6 := (rc5.below hB56).more hB56.size
  have rd6 := (rd5.below hB56).more hB56.size
  have hb6 := below_then hb5 hb5.size hB56
  clear b6 r6 hB6 hB56 ra5 rb5 rc5 rd5 hb5
  go_wp2_with fail
  refine (sameFlags_any A3 A1 2 c3 c1 w6.heap.size [(97, []), (110, [53])] w6 rc6 ra6 (by omega)).mono ?_
  rintro e w7 ⟨rfl, hB7⟩
  have rb7 := (rb6.below hB7).more hB7.size
  have rd7 := (rd6.below hB7).more hB7.size
  have hb7 := below_then hb6 hb6.size hB7
  clear hB7 ra6 rb6 rc6 rd6 hb6
  have b8 : Below w7.heap.size w7 (w7.alloc (.cells #[.string { data := #[45, 97] }] 9)) := (Below.refl _ _).alloc (Nat.le_refl _) _
  have r8 := reads_row w7 9 1 1 #[.string { data := #[45, 97] }] (txv [[45, 97]]) rfl rfl
  go_wp2_with fail
  refine (sameTexts_any A2 (some ⟨w7.heap.size, 0, none⟩) 1 c2 1 (w7.heap.size + 1) [[45, 97]] _ ((rb7.below b8).more (Nat.le_succ _)) r8 (by omega)).mono ?_
  rintro e w8 ⟨rfl, hB8⟩
  have hB78 := below_then b8 b8.size hB8
  have rd8 := (rd7.below hB78).more hB78.size
  have hb8 := below_then hb7 hb7.size hB78
  clear b8 r8 hB8 hB78 rb7 rd7 hb7
  have b9 : Below w8.heap.size w8 (w8.alloc (.cells #[.string { data := #[120] }, .string { data := #[45, 97] }] 9)) := (Below.refl _ _).alloc (Nat.le_refl _) _
  have r9 := reads_row w8 9 1 2 #[.string { data := #[120] }, .string { data := #[45, 97] }] (txv [[120], [45, 97]]) rfl rfl
  go_wp2_with fail
  refine (sameTexts_any A4 (some ⟨w8.heap.size, 0, none⟩) 2 c4 2 (w8.heap.size + 1) [[120], [45, 97]] _ ((rd8.below b9).more (Nat.le_succ _)) r9 (by omega)).mono ?_
  rintro e w9 ⟨rfl, hB9⟩
  have hB89 := below_then b9 b9.size hB9
  go_wp2_with fail
  go_ret
  exact ⟨rfl, below_then hb8 hb8.size hB89⟩
end Go.Proofs.YtghkdfjmahmolaaDoor
