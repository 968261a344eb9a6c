/-
  OptsEnd: the law's walk.
-/
import Derived.Test.YtghkdfjmahmolaaDoorOptsAppend
namespace Go.Proofs.YtghkdfjmahmolaaDoor
open Go.RowKit

theorem infoStr : (Tryd.prog.info? 9).map (fun i => (i.zero, i.size, i.bytes)) = some (some (.string { data := #[] }), 1, 16) := by kernel_rfl
theorem txv_append (l m : List (List UInt8)) : txv (l ++ m) = txv l ++ txv m := by simp [txv]
theorem optsV_end {which : List UInt8} {args rest : List (List UInt8)} {fl : List FlagL} (hV : optsV which args = (fl, [], 0)) (hd : ∀ w ∈ args, w ≠ [45, 45]) (hn : ¬ 256 < (args ++ [45, 45] :: rest).length) : optsV which (args ++ [45, 45] :: rest) = (fl, rest, 0) := by
  cases hl : lettersV which with
  | none => rw [optsV_bad hl] at hV; cases hV
  | some es =>
    have hn2 : ¬ 256 < args.length := by rw [List.length_append] at hn; omega
    cases hp : parseW es args with
    | none => rw [optsV_use hl hn2 hp] at hV; cases hV
    | some x =>
      rw [optsV_ok (rest := x.2) (fl := x.1) hl hn2 hp] at hV
      injection hV with h1 h2
      injection h2 with h2 _
      exact optsV_ok hl hn (parseW_end es rest args.length args fl (Nat.le_refl _) (by rw [hp, ← h1, ← h2]) hd)

set_option maxRecDepth 100000 in
set_option maxHeartbeats 8000000 in
theorem optsEnd_walk (which : ByteArray) (A : Option Addr) (n c : Nat) (l : List (List UInt8)) (A' : Option Addr) (n' c' : Nat) (r : List (List UInt8)) (w : World) (hz : which.size ≤ 140737488351232)
    (hr : Reads w w.heap.size 1 A n (txv l)) (hn : n ≤ 140737488351232) (hnc : n ≤ c) (hs : ∀ k (h : k < l.length), l[k].length ≤ 140737488351232) (hnil : A = none → c = 0)
    (hr' : Reads w w.heap.size 1 A' n' (txv r)) (hn' : n' ≤ 140737488351232) (_hnc' : n' ≤ c') (hs' : ∀ k (h : k < r.length), r[k].length ≤ 140737488351232) (hnil' : A' = none → c' = 0) :
    Calls Tryd.prog 4 #[.string which, .slice A n c, .slice A' n' c'] w fun e w' => e = .returned (.bool true) ∧ Below w.heap.size w w' := by
  obtain ⟨i0, hi0, hz0, hz1, hz2⟩ := info_parts infoStr
  obtain ⟨L, rfl⟩ : ∃ L, which = str L := ⟨_, str_of which⟩
  have hs0 := str_size L
  rw [hs0] at hz
  have HL := Lib.hid (show l.length = n by have := hr.1; rw [txv_length] at this; omega)
  have HL' := Lib.hid (show r.length = n' by have := hr'.1; rw [txv_length] at this; omega)
  have HN := Lib.hid hnil
  have HN' := Lib.hid hnil'
  clear hnil hnil'
  go_enter Tryd.func4, Tryd.ntmps4
  go_wp2_with fail
  refine (alive_any w).mono ?_
  rintro e w1 ⟨rfl, hB1⟩
  have hr1 := (hr.below hB1).more hB1.size
  have hr1' := (hr'.below hB1).more hB1.size
  clear hr hr'
  by_cases hsum : 200 < n + n'
  · have f1 : decide ((200 : Int) < (n : Int) + (n' : Int)) = true := decide_eq_true (by omega)
    clear hr1 hr1' hs hs'
    go_wp2_with fail
    refine (alive_any w1).mono ?_
    rintro e w2 ⟨rfl, hB2⟩
    go_wp2_with fail
    go_ret
    exact ⟨rfl, below_then hB1 hB1.size hB2⟩
  have f1 : decide ((200 : Int) < (n : Int) + (n' : Int)) = false := decide_eq_false (by omega)
  by_cases hw : 2000 < L.length
  · have f2 : decide ((2000 : Int) < (L.length : Int)) = true := decide_eq_true (by omega)
    clear hr1 hr1' hs hs'
    go_wp2_with fail
    refine (alive_any w1).mono ?_
    rintro e w2 ⟨rfl, hB2⟩
    go_wp2_with fail
    go_ret
    exact ⟨rfl, below_then hB1 hB1.size hB2⟩
  have f2 : decide ((2000 : Int) < (L.length : Int)) = false := decide_eq_false (by omega)
  have HR := Lib.hid hr1
  have HR' := Lib.hid hr1'
  have HS := Lib.hid hs
  have HS' := Lib.hid hs'
  clear hr1 hr1' hs hs'
  go_wp2_with fail
  refine (textsSize_any A n c w1.heap.size l w1 HR.out hn HS.out).mono ?_
  rintro e w2 ⟨⟨z, rfl, hz1', hz2'⟩, hw2⟩
  rw [hw2]
  clear hw2 w2
  have HZ := Lib.hid hz2'
  clear hz2'
  go_wp2_with fail
  refine (textsSize_any A' n' c' w1.heap.size r w1 HR'.out hn' HS'.out).mono ?_
  rintro e w2 ⟨⟨z', rfl, hz1'', hz2''⟩, hw2⟩
  rw [hw2]
  clear hw2 w2
  have HZ' := Lib.hid hz2''
  clear hz2''
  have hb2 : Below w1.heap.size w1 (w1.alloc (.cells #[.int .i64 (z : Int), .int .i64 (z' : Int)] 3)) := (Below.refl _ _).alloc (Nat.le_refl _) _
  by_cases hbd : 1048576 < z + z'
  · have hby := fun c => beyond_two z z' c w1 (by omega) (by omega)
    rw [decide_eq_true hbd] at hby
    go_wp2_with fail
    refine (hby _).mono ?_
    rintro e w3 ⟨rfl, hw3⟩
    rw [hw3] at hb2
    have hb12 := below_then hB1 hB1.size hb2
    clear hby hw3
    go_wp2_with fail
    refine (alive_any w3).mono ?_
    rintro e w4 ⟨rfl, hB4⟩
    go_wp2_with fail
    go_ret
    exact ⟨rfl, below_then hb12 hb12.size hB4⟩
  have hby := fun c => beyond_two z z' c w1 (by omega) (by omega)
  rw [decide_eq_false hbd] at hby
  go_wp2_with fail
  refine (hby _).mono ?_
  rintro e w3 ⟨rfl, hw3⟩
  rw [hw3] at hb2
  have hb3 := below_then hB1 hB1.size hb2
  have hr3 := (HR.out.below hb2).more hb2.size
  have hr3' := (HR'.out.below hb2).more hb2.size
  have HSum := Lib.hid (show sumL l + sumL r ≤ 2097152 by have h1 := HZ.out (by omega); have h2 := HZ'.out (by omega); omega)
  clear hby hw3 HR HR' hb2 hB1 HZ HZ' HS HS'
  obtain ⟨fl, left, code, hV⟩ : ∃ fl left code, optsV L l = (fl, left, code) := ⟨_, _, _, rfl⟩
  have HV := Lib.hid hV
  have HR := Lib.hid hr3
  have HR' := Lib.hid hr3'
  clear hV hr3 hr3'
  go_wp2_with fail
  refine (parse_use L l fl left code HV.out A n c w3 (by omega) HR.out hnc hn (.inl (by have := HSum.out; omega))).mono ?_
  rintro e w4 ⟨A1, c1, A2, c2, rfl, ra, rb, hB4⟩
  have hb4 := below_then hb3 hb3.size hB4
  have HRA := Lib.hid ra
  have hr4 := (HR.out.below hB4).more hB4.size
  have hr4' := (HR'.out.below hB4).more hB4.size
  clear ra rb HR HR' hB4 hb3
  by_cases hc0 : code = 0
  · subst hc0
    rcases left with _ | ⟨a, left⟩
    · go_wp2_with fail
      go_loopw [10] (fun i wr => ∃ k : Nat, k ≤ n ∧ i = .int .i64 k ∧ Hid (∀ j (h : j < l.length), j < k → l[j] ≠ [45, 45]) ∧ w4 = wr) (fun i _ => n - (intOf i).toNat)
      case atStart => exact ⟨0, Nat.zero_le _, rfl, Lib.hid (fun j _ h => by omega), rfl⟩
      case round =>
        obtain ⟨k, hk, rfl, HK, rfl⟩ := hrel
        by_cases hlt : k < n
        · have hkI : (k : Int) < (n : Int) := by omega
          have hkl : k < l.length := by rw [HL.out]; exact hlt
          obtain ⟨ad, u, rfl, had, hu, hcell⟩ := hr4.at_ hlt
          rw [txv_at l k hkl] at hu
          injection hu with hu
          subst hu
          by_cases hdash : l[k] = [45, 45]
          · have hq1 : ((str l[k]).toList == [45, 45]) = true := by rw [hdash, ByteArray.toList_eq]; rfl
            clear hdash hr4 hr4'
            go_wp2_with fail
            go_ret
            exact ⟨rfl, hb4⟩
          · have hq1 : ((str l[k]).toList == [45, 45]) = false := by rw [ByteArray.toList_eq]; simpa [str] using hdash
            have HK2 := Lib.hid (show ∀ j (h : j < l.length), j < k + 1 → l[j] ≠ [45, 45] from fun j h hj => by
              rcases Nat.lt_succ_iff_lt_or_eq.1 hj with h2 | h2
              · exact HK.out j h h2
              · subst h2; exact hdash)
            clear hdash hr4 hr4'
            go_wp2_with fail
            go_roundw
            case rel => exact ⟨k + 1, by omega, by go_num, HK2, trivial⟩
            case measure => simp [intOf]; omega
        · have hkI : ¬ (k : Int) < (n : Int) := by omega
          have HD := Lib.hid (show ∀ x ∈ l, x ≠ [45, 45] from fun x hx => by
            obtain ⟨j, hj, rfl⟩ := List.getElem_of_mem hx
            exact HK.out j hj (by rw [HL.out] at hj; omega))
          have HV2 := Lib.hid (optsV_end (rest := r) HV.out HD.out (by rw [List.length_append, List.length_cons, HL.out, HL'.out]; omega))
          have HF := Lib.hid (show Fits (l ++ [45, 45] :: r) from .inl (by have := HSum.out; unfold sumL at *; simp; omega))
          clear HK hk hlt
          have HR4 := Lib.hid hr4
          have HR4' := Lib.hid hr4'
          clear hr4 hr4'
          go_wp2_with (first
            | (at_builtin; refine wpList_append_reads rfl (.tmp 64) (.tmp 65) 26 rfl w4.heap.size 9 i0 (.string { data := #[] }) 1 16 Tryd.underlying26 hi0 hz0 hz1 hz2 rfl (by decide) _ 0 [] rfl (World.ownsRow_nil _ _ _ _) A n c w4.heap.size (txv l) rfl HR4.out HN.out (txv_one l) (by unfold maxLen; omega) (by omega) (Nat.le_refl _) ?_; intro v5 w5 hown5 hg5; have hB5 : Below w4.heap.size w4 w5 := (Below.refl _ _).grown hg5 (Nat.le_refl _) (fun g hg => by cases hg); have hs5 := hB5.size; rw [Nat.zero_add, List.nil_append] at hown5)
            | (at_builtin; refine wpList_append_own _ rfl (.tmp 67) (.tmp 68) 26 rfl w4.heap.size 9 i0 (.string { data := #[] }) 1 16 Tryd.underlying26 hi0 hz0 hz1 hz2 rfl (by decide) _ _ _ rfl (hown5.alloc _) ⟨w5.heap.size, 0, none⟩ 1 1 [.string { data := #[45, 45] }] rfl rfl (cells_new w5 #[.string { data := #[45, 45] }] 9) (txv_one [[45, 45]]) (by unfold maxLen; omega) (by omega) (by simp; omega) ?_; intro v6 w6 hown6 hg6 _; have hB6 : Below w4.heap.size w4 w6 := (hB5.alloc (by omega) _).grown hg6 (by simp; omega) (own_ge hown5); have hs6 := hB6.size)
            | (at_builtin; refine wpList_append_reads rfl (.tmp 70) (.tmp 71) 26 rfl w4.heap.size 9 i0 (.string { data := #[] }) 1 16 Tryd.underlying26 hi0 hz0 hz1 hz2 rfl (by decide) _ _ _ rfl hown6 A' n' c' w4.heap.size (txv r) rfl (HR4'.out.below hB6) HN'.out (txv_one r) (by unfold maxLen; omega) (by omega) (by omega) ?_; intro v7 w7 hown7 hg7))
          have hB7 : Below w4.heap.size w4 w7 := hB6.grown hg7 hs6 (own_ge hown6)
          have hown8 : w7.ownsRow w4.heap.size 9 1 v7 (n + 1 + n') (txv (l ++ [45, 45] :: r)) := by
            have e : txv (l ++ [45, 45] :: r) = txv l ++ [.string { data := #[45, 45] }] ++ txv r := by rw [txv_append]; simp [txv]; rfl
            rw [e]
            exact hown7
          obtain ⟨A7, c7, rfl⟩ := own_slice hown8
          have hcap := (own_cap_ hown8).1
          have hb7 := below_then hb4 hb4.size hB7
          have hra7 := (HRA.out.below hB7).more hB7.size
          have hrr7 := (HR4'.out.below hB7).more hB7.size
          have HOWN := Lib.hid (Reads.of_own hown8)
          clear hown5 hown6 hown7 hown8 hg5 hg6 hg7 HR4 HR4' hB5 hB6 HRA hb4
          go_wp2_with fail
          refine (parse_use2 L (l ++ [45, 45] :: r) fl r 0 HV2.out A7 (n + 1 + n') c7 w7 (by omega) HOWN.out (by omega) (by omega) HF.out).mono ?_
          rintro e w8 ⟨A8, c8, A9, c9, rfl, rc, rd, hfn, hB8⟩
          have hra8 := (hra7.below hB8).more hB8.size
          have hrr8 := (hrr7.below hB8).more hB8.size
          have hb8 := below_then hb7 hb7.size hB8
          clear hra7 hrr7 hb7 HOWN hB8 hB7
          rw [HL'.out] at rd ⊢
          go_wp2_with fail
          refine (sameFlags_any A1 A8 fl.length c1 c8 w8.heap.size fl w8 hra8 rc hfn).mono ?_
          rintro e w9 ⟨rfl, hB9⟩
          have rd9 := (rd.below hB9).more hB9.size
          have hrr9 := (hrr8.below hB9).more hB9.size
          have hb9 := below_then hb8 hb8.size hB9
          clear rd hrr8 hra8 rc hb8 hB9
          go_wp2_with fail
          refine (sameTexts_any A9 A' n' c9 c' w9.heap.size r w9 rd9 hrr9 (by omega)).mono ?_
          rintro e w10 ⟨rfl, hB10⟩
          go_wp2_with fail
          go_ret
          exact ⟨rfl, below_then hb9 hb9.size hB10⟩
    · have f3 : (0 : Int) < ((left.length : Int) + 1) := by omega
      clear hr4 hr4'
      go_wp2_with fail
      go_ret
      exact ⟨rfl, hb4⟩
  · have f3 : ((code : Int) == 0) = false := by simpa using hc0
    clear hr4 hr4'
    go_wp2_with fail
    go_ret
    exact ⟨rfl, hb4⟩
end Go.Proofs.YtghkdfjmahmolaaDoor
