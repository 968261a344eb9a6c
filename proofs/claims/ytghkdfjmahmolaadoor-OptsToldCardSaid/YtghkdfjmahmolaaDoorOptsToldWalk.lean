/-
  OptsTold: the law's walk.
-/
import Derived.Test.YtghkdfjmahmolaaDoorOptsAlive
import Derived.Test.YtghkdfjmahmolaaDoorBeyond
namespace Go.Proofs.YtghkdfjmahmolaaDoor
open Go.RowKit

theorem str_app (a b : List UInt8) : str a ++ str b = str (a ++ b) := by
  apply ByteArray.ext
  simp [str]
theorem parse_word_next (es : Told) (k : Nat) (S : List UInt8) (h97 : look es 97 = some false) (h110 : look es 110 = some true) :
    parseW es [45 :: (List.replicate k 97 ++ [110]), S, [45], [45, 97]] = some (List.replicate k (97, []) ++ [(110, S)], [[45], [45, 97]]) := by
  have hopt : isOpt (45 :: (List.replicate k 97 ++ [110])) = true := by cases k <;> rfl
  have hne : (45 :: (List.replicate k 97 ++ [110]) : List UInt8) ≠ [45, 45] := by
    cases k with
    | zero => decide
    | succ k => intro e; simp [List.replicate_succ] at e
  have hw : wordV es (45 :: (List.replicate k 97 ++ [110]) : List UInt8).tail = some (List.replicate k (97, []), some 110) := by
    show wordV es (List.replicate k 97 ++ 110 :: []) = _
    rw [wordV_told es 110 [] h110 _ (fun x hx => by rw [List.eq_of_mem_replicate hx]; exact h97), if_pos rfl]
    simp
  rw [parseW_next es _ S _ _ 110 hopt hne hw, parseW_left es [45] _ rfl]
  simp
theorem parse_word_told (es : Told) (k : Nat) (S : List UInt8) (hS : S ≠ []) (h97 : look es 97 = some false) (h110 : look es 110 = some true) :
    parseW es [45 :: (List.replicate k 97 ++ [110]) ++ S, [45], [45, 97]] = some (List.replicate k (97, []) ++ [(110, S)], [[45], [45, 97]]) := by
  have hopt : isOpt (45 :: (List.replicate k 97 ++ [110]) ++ S) = true := by cases k <;> rfl
  have hne : (45 :: (List.replicate k 97 ++ [110]) ++ S : List UInt8) ≠ [45, 45] := by
    cases k with
    | zero => intro e; simp at e
    | succ k => intro e; simp [List.replicate_succ] at e
  have hw : wordV es (45 :: (List.replicate k 97 ++ [110]) ++ S : List UInt8).tail = some (List.replicate k (97, []) ++ [(110, S)], none) := by
    show wordV es ((List.replicate k 97 ++ [110]) ++ S) = _
    rw [List.append_assoc, List.singleton_append, wordV_told es 110 S h110 _ (fun x hx => by rw [List.eq_of_mem_replicate hx]; exact h97), if_neg hS]
    simp
  rw [parseW_word es _ _ _ hopt hne hw, parseW_left es [45] _ rfl]
  simp
theorem told_letters : lettersV [110, 58, 97] = some [(110, true), (97, false)] := by decide
theorem told_next (k : Nat) (S : List UInt8) : optsV [110, 58, 97] [45 :: (List.replicate k 97 ++ [110]), S, [45], [45, 97]] = (List.replicate k (97, []) ++ [(110, S)], [[45], [45, 97]], 0) :=
  optsV_ok told_letters (by simp) (parse_word_next _ k S (by decide) (by decide))
theorem told_told (k : Nat) (S : List UInt8) (hS : S ≠ []) : optsV [110, 58, 97] [45 :: (List.replicate k 97 ++ [110]) ++ S, [45], [45, 97]] = (List.replicate k (97, []) ++ [(110, S)], [[45], [45, 97]], 0) :=
  optsV_ok told_letters (by simp) (parse_word_told _ k S hS (by decide) (by decide))

set_option maxRecDepth 100000 in
set_option maxHeartbeats 8000000 in
theorem optsTold_walk (s : ByteArray) (ahead : UInt8) (w : World) (hz : s.size ≤ 140737488351232) :
    Calls Tryd.prog 6 #[.string s, .int .u8 (ahead.toNat : Int)] w fun e w' => e = .returned (.bool true) ∧ Below w.heap.size w w' := by
  obtain ⟨i0, hi0, hz0, hz1, hz2⟩ := info_parts infoFlag
  obtain ⟨S, rfl⟩ : ∃ S, s = str S := ⟨_, str_of s⟩
  have hs0 := str_size S
  obtain ⟨n, hn⟩ : ∃ n, n = S.length := ⟨_, rfl⟩
  rw [← hn] at hs0
  have HN := Lib.hid hn
  rw [hs0] at hz
  clear hn
  have ha256 := ahead.toNat_lt
  obtain ⟨a, ha⟩ : ∃ a, a = ahead.toNat := ⟨_, rfl⟩
  rw [← ha] at ha256 ⊢
  clear ha
  go_enter Tryd.func6, Tryd.ntmps6
  go_wp2_with fail
  refine (alive_any w).mono ?_
  rintro e w0 ⟨rfl, hBa⟩
  have hB0 : Below w0.heap.size w0 (w0.alloc (.cells #[.int .i64 (n : Int)] 3)) := (Below.refl _ _).alloc (Nat.le_refl _) _
  have hs1 := hB0.size
  by_cases hbd : 1048576 < n
  · have hby := fun c => beyond_one n c w0 (by omega)
    rw [decide_eq_true hbd] at hby
    go_wp2_with fail
    refine (hby _).mono ?_
    rintro e w1 ⟨rfl, hw1⟩
    rw [hw1] at hB0
    have hb1 := below_then hBa hBa.size hB0
    clear hby hw1
    go_wp2_with fail
    refine (alive_any w1).mono ?_
    rintro e w2 ⟨rfl, hB2⟩
    go_wp2_with fail
    go_ret
    exact ⟨rfl, below_then hb1 hb1.size hB2⟩
  have hby := fun c => beyond_one n c w0 (by omega)
  rw [decide_eq_false hbd] at hby
  go_wp2_with fail
  refine (hby _).mono ?_
  rintro e w1 ⟨rfl, hw1⟩
  rw [hw1] at hB0 hs1
  have hb1 := below_then hBa hBa.size hB0
  clear hby hw1 hB0 hBa
  go_wp2_with fail
  go_loopw [5, 6, 7] (fun v fl i wr => ∃ k : Nat, k ≤ a ∧ i = .int .i64 k ∧ v = .string (str (45 :: List.replicate k 97)) ∧ wr.ownsRow w1.heap.size 38 2 fl k (flv (List.replicate k (97, []))) ∧ Below w1.heap.size w1 wr) (fun _ _ i _ => a - (intOf i).toNat)
  case atStart => exact ⟨0, Nat.zero_le _, rfl, rfl, World.ownsRow_nil _ _ _ _, Below.refl _ _⟩
  case round =>
    obtain ⟨k, hk, rfl, rfl, hown, hB⟩ := hrel
    have hsz := hB.size
    by_cases hlt : k < a
    · have hkI : (k : Int) < (a : Int) := by omega
      have hstr : str (45 :: List.replicate k 97) ++ { data := #[97] } = str (45 :: List.replicate (k + 1) 97) := by
        rw [show ({ data := #[97] } : ByteArray) = str [97] from rfl, str_app, List.cons_append, ← List.replicate_succ']
      have hss : (str (45 :: List.replicate k 97)).size = k + 1 := by rw [str_size]; simp
      have HST := Lib.hid hstr
      clear hstr
      go_wp2_with (at_builtin; go_loud (refine wpList_append_own _ rfl (.tmp 31) (.tmp 33) 29 rfl w1.heap.size 38 i0 (.agg #[.int .u8 0, .string { data := #[] }]) 2 24 Tryd.underlying29 hi0 hz0 hz1 hz2 rfl (by decide) _ _ _ rfl (hown.alloc _) ⟨wr.heap.size, 0, none⟩ 1 1 [.int .u8 97, .string { data := #[] }] rfl rfl (cells_new wr #[.int .u8 97, .string { data := #[] }] 38) (fl1_one (97, { data := #[] })) (by unfold maxLen; omega) (by omega) (by simp; omega) ?_); intro v4 w4 hown4 hg4 _)
      have hB4 : Below w1.heap.size w1 w4 := (hB.alloc (by omega) _).grown hg4 (by simp; omega) (own_ge hown)
      have hown5 : w4.ownsRow w1.heap.size 38 2 v4 (k + 1) (flv (List.replicate (k + 1) (97, []))) := by
        rw [List.replicate_succ', flv_append]
        exact hown4
      go_wp2_with fail
      go_roundw
      case rel => exact ⟨k + 1, by omega, by go_num, by rw [HST.out], hown5, hB4⟩
      case measure => simp [intOf]; omega
    · obtain rfl : k = a := by omega
      have hkI : ¬ (k : Int) < (k : Int) := by omega
      have hstr : str (45 :: List.replicate k 97) ++ { data := #[110] } = str (45 :: (List.replicate k 97 ++ [110])) := by
        rw [show ({ data := #[110] } : ByteArray) = str [110] from rfl, str_app, List.cons_append]
      obtain ⟨W, hW⟩ : ∃ W, W = 45 :: (List.replicate k (97 : UInt8) ++ [110]) := ⟨_, rfl⟩
      have hWl : W.length ≤ 300 := by rw [hW]; simp; omega
      have hV1 := told_next k S
      have hV2 := fun h => told_told k S h
      rw [← hW] at hstr hV1 hV2
      have hss : (str (45 :: List.replicate k 97)).size = k + 1 := by rw [str_size]; simp
      have hsW : (str W).size = W.length := str_size W
      obtain ⟨F, hF⟩ : ∃ F, F = List.replicate k ((97 : UInt8), ([] : List UInt8)) ++ [(110, S)] := ⟨_, rfl⟩
      have hFl : F.length = k + 1 := by rw [hF]; simp
      rw [← hF] at hV1 hV2
      have HST := Lib.hid hstr
      have HV1 := Lib.hid hV1
      have HV2 := Lib.hid hV2
      have HFv := Lib.hid (show flv (List.replicate k (97, [])) ++ [.int .u8 110, .string (str S)] = flv F by rw [hF, flv_append]; rfl)
      clear hstr hV1 hV2 hW hF
      go_wp2_with (at_builtin; go_loud (refine wpList_append_own _ rfl (.tmp 37) (.tmp 40) 29 rfl w1.heap.size 38 i0 (.agg #[.int .u8 0, .string { data := #[] }]) 2 24 Tryd.underlying29 hi0 hz0 hz1 hz2 rfl (by decide) _ _ _ rfl (hown.alloc _) ⟨wr.heap.size, 0, none⟩ 1 1 [.int .u8 110, .string (str S)] rfl rfl (cells_new wr #[.int .u8 110, .string (str S)] 38) (fl1_one (110, str S)) (by unfold maxLen; omega) (by omega) (by simp; omega) ?_); intro v4 w4 hown4 hg4 _)
      have hB4 : Below w1.heap.size w1 w4 := (hB.alloc (by omega) _).grown hg4 (by simp; omega) (own_ge hown)
      rw [HFv.out] at hown4
      have hs4 := hB4.size
      have hb4 : Below w.heap.size w w4 := hb1.trans (hB4.mono hb1.size)
      obtain ⟨A4, c4, rfl⟩ := own_slice hown4
      rw [HST.out]
      clear hB hown hsz hg4 hB4 hb1
      have b5 : Below w4.heap.size w4 (w4.alloc (.cells #[.string (str W), .string (str S), .string { data := #[45] }, .string { data := #[45, 97] }] 9)) := (Below.refl _ _).alloc (Nat.le_refl _) _
      have r5 := reads_row w4 9 1 4 #[.string (str W), .string (str S), .string { data := #[45] }, .string { data := #[45, 97] }] (txv [W, S, [45], [45, 97]]) rfl rfl
      have hf5 : Fits [W, S, [45], [45, 97]] := .inl (by simp [sumL]; have := HN.out; omega)
      go_wp2_with fail
      refine (parse_use [110, 58, 97] [W, S, [45], [45, 97]] _ _ _ HV1.out (some ⟨w4.heap.size, 0, none⟩) 4 4 _ (by decide) (r5.more (by simp)) (Nat.le_refl _) (by omega) hf5).mono ?_
      rintro e w5 ⟨A5, c5, A6, c6, rfl, ra, rb, hB5⟩
      have hB45 := below_then b5 b5.size hB5
      have rf5 := ((Reads.of_own hown4).below hB45).more hB45.size
      have hb5 := below_then hb4 hb4.size hB45
      rw [hFl] at ra ⊢
      clear b5 r5 hB5 hB45 hown4 hb4
      go_wp2_with fail
      refine (sameFlags_any A5 A4 (k + 1) c5 c4 w5.heap.size F w5 ra rf5 (by omega)).mono ?_
      rintro e w6 ⟨rfl, hB6⟩
      have rb6 := (rb.below hB6).more hB6.size
      have rf6 := (rf5.below hB6).more hB6.size
      have hb6 := below_then hb5 hb5.size hB6
      clear hB6 ra rb rf5 hb5
      have b7 : Below w6.heap.size w6 (w6.alloc (.cells #[.string { data := #[45] }, .string { data := #[45, 97] }] 9)) := (Below.refl _ _).alloc (Nat.le_refl _) _
      have r7 := reads_row w6 9 1 2 #[.string { data := #[45] }, .string { data := #[45, 97] }] (txv [[45], [45, 97]]) rfl rfl
      go_wp2_with fail
      refine (sameTexts_any A6 (some ⟨w6.heap.size, 0, none⟩) 2 c6 2 (w6.heap.size + 1) [[45], [45, 97]] _ ((rb6.below b7).more (Nat.le_succ _)) r7 (by omega)).mono ?_
      rintro e w7 ⟨rfl, hB7⟩
      have hB67 := below_then b7 b7.size hB7
      have rb7 := (rb6.below hB67).more hB67.size
      have rf7 := (rf6.below hB67).more hB67.size
      have hb7 := below_then hb6 hb6.size hB67
      clear b7 r7 hB7 hB67 rb6 rf6 hb6
      by_cases hS : S = []
      · have hq : (str S).toList.isEmpty = true := by rw [hS]; exact str_isEmpty
        clear hS
        go_wp2_with fail
        go_ret
        exact ⟨rfl, hb7⟩
      have hq : (str S).toList.isEmpty = false := str_some S hS
      have HW2 := Lib.hid (HV2.out hS)
      have HSA := Lib.hid (str_app W S)
      clear hS
      have b8 : Below w7.heap.size w7 (w7.alloc (.cells #[.string (str (W ++ S)), .string { data := #[45] }, .string { data := #[45, 97] }] 9)) := (Below.refl _ _).alloc (Nat.le_refl _) _
      have r8 := reads_row w7 9 1 3 #[.string (str (W ++ S)), .string { data := #[45] }, .string { data := #[45, 97] }] (txv [W ++ S, [45], [45, 97]]) rfl rfl
      have hf8 : Fits [W ++ S, [45], [45, 97]] := .inl (by simp [sumL]; have := HN.out; omega)
      go_wp2_with fail
      rw [HSA.out]
      refine (parse_use [110, 58, 97] [W ++ S, [45], [45, 97]] _ _ _ HW2.out (some ⟨w7.heap.size, 0, none⟩) 3 3 _ (by decide) (r8.more (by simp)) (Nat.le_refl _) (by omega) hf8).mono ?_
      rintro e w8 ⟨A8, c8, A9, c9, rfl, rc, rd, hB8⟩
      have hB78 := below_then b8 b8.size hB8
      have rb8 := (rb7.below hB78).more hB78.size
      have rf8 := (rf7.below hB78).more hB78.size
      have hb8 := below_then hb7 hb7.size hB78
      rw [hFl] at rc ⊢
      clear b8 r8 hB8 hB78 rb7 rf7 hb7
      go_wp2_with fail
      refine (sameFlags_any A8 A4 (k + 1) c8 c4 w8.heap.size F w8 rc rf8 (by omega)).mono ?_
      rintro e w9 ⟨rfl, hB9⟩
      have rb9 := (rb8.below hB9).more hB9.size
      have rd9 := (rd.below hB9).more hB9.size
      have hb9 := below_then hb8 hb8.size hB9
      clear hB9 rc rd rb8 rf8 hb8
      go_wp2_with fail
      refine (sameTexts_any A9 A6 2 c9 c6 w9.heap.size [[45], [45, 97]] w9 rd9 rb9 (by omega)).mono ?_
      rintro e w10 ⟨rfl, hB10⟩
      go_wp2_with fail
      go_ret
      exact ⟨rfl, below_then hb9 hb9.size hB10⟩
end Go.Proofs.YtghkdfjmahmolaaDoor
