/-
  OptsCounts: the law's walk.
-/
import Derived.Test.YtghkdfjmahmolaaDoorOptsAppend
import Derived.Test.YtghkdfjmahmolaaDoorLast1
namespace Go.Proofs.YtghkdfjmahmolaaDoor
open Go.RowKit

theorem fv_oneC (l : List Flag2) : ∀ u ∈ fv l, u.oneCell' = true := by
  intro u hu
  unfold fv at hu
  rw [List.mem_flatMap] at hu
  obtain ⟨x, _, h⟩ := hu
  exact fl1_one x u h
theorem fhas_append (l m : List Flag2) (x : UInt8) : fhas (l ++ m) x = fhas l x + fhas m x := by
  unfold fhas
  rw [List.filter_append, List.length_append]
theorem flast_append (l m : List Flag2) (x : UInt8) : flast (l ++ m) x = match flast m x with
    | some s => some s
    | none => flast l x := by
  induction l with
  | nil => rw [List.nil_append]; cases flast m x <;> rfl
  | cons a l ih =>
    rw [List.cons_append]
    show (match flast (l ++ m) x with | some s => some s | none => if a.1 = x then some a.2 else none) = _
    rw [ih]
    cases hm : flast m x with
    | some s => rfl
    | none =>
      show (match flast l x with | some s => some s | none => if a.1 = x then some a.2 else none) = flast (a :: l) x
      rfl
theorem flast_has (l : List Flag2) (x : UInt8) : (flast l x).isSome = decide (0 < fhas l x) := by
  induction l with
  | nil => rfl
  | cons a l ih =>
    have e : fhas (a :: l) x = (if a.1 = x then 1 else 0) + fhas l x := by
      unfold fhas
      rw [List.filter_cons]
      by_cases h : a.1 = x
      · simp [h]; omega
      · simp [h]
    show (match flast l x with | some s => some s | none => if a.1 = x then some a.2 else none).isSome = _
    rw [e]
    cases hl : flast l x with
    | some s =>
      rw [hl] at ih
      have h2 : 0 < fhas l x := of_decide_eq_true ih.symm
      exact (decide_eq_true (by omega)).symm
    | none =>
      rw [hl] at ih
      have h2 : ¬ 0 < fhas l x := of_decide_eq_false ih.symm
      by_cases h : a.1 = x
      · simp [h]; omega
      · simp [h]; omega
theorem last_is (l : List Flag2) (x : UInt8) (o : Option ByteArray) (ho : flast l x = o) (A : Option Addr) (n c : Nat) (w : World) (hr : Reads w w.heap.size 2 A n (fv l)) (hn : n ≤ 2097152) :
    Calls Tryd.prog 21 #[.slice A n c, .int .u8 (x.toNat : Int)] w fun e w' => e = .returned (.tuple #[.string (o.getD ⟨#[]⟩), .bool o.isSome]) ∧ Below w.heap.size w w' := by
  have h := last_any A n c l x w hr hn
  rw [ho] at h
  exact h
theorem has_is (l : List Flag2) (x : UInt8) (p : Nat) (hp : fhas l x = p) (A : Option Addr) (n c : Nat) (w : World) (hr : Reads w w.heap.size 2 A n (fv l)) (hn : n ≤ 2097152) :
    Calls Tryd.prog 22 #[.slice A n c, .int .u8 (x.toNat : Int)] w fun e w' => e = .returned (.int .i64 (p : Nat)) ∧ Below w.heap.size w w' := by
  have h := has_any A n c l x w hr hn
  rw [hp] at h
  exact h

set_option maxRecDepth 100000 in
set_option maxHeartbeats 8000000 in
theorem optsCounts_walk (A : Option Addr) (n c : Nat) (l : List Flag2) (A' : Option Addr) (n' c' : Nat) (m : List Flag2) (x : UInt8) (w : World)
    (hr : Reads w w.heap.size 2 A n (fv l)) (hn : n ≤ 140737488351232) (hs : ∀ k (h : k < l.length), (l[k]).2.size ≤ 140737488351232) (hnil : A = none → c = 0)
    (hr' : Reads w w.heap.size 2 A' n' (fv m)) (hn' : n' ≤ 140737488351232) (hs' : ∀ k (h : k < m.length), (m[k]).2.size ≤ 140737488351232) (hnil' : A' = none → c' = 0) :
    Calls Tryd.prog 9 #[.slice A n c, .slice A' n' c', .int .u8 (x.toNat : Int)] w fun e w' => e = .returned (.bool true) ∧ Below w.heap.size w w' := by
  obtain ⟨i0, hi0, hz0, hz1, hz2⟩ := info_parts infoFlag
  have HL := Lib.hid (show l.length = n by have := hr.1; rw [fv_length] at this; omega)
  have HL' := Lib.hid (show m.length = n' by have := hr'.1; rw [fv_length] at this; omega)
  have HN := Lib.hid hnil
  have HN' := Lib.hid hnil'
  have HS := Lib.hid hs
  have HS' := Lib.hid hs'
  clear hnil hnil' hs hs'
  go_enter Tryd.func9, Tryd.ntmps9
  go_wp2_with fail
  refine (alive_any w).mono ?_
  rintro e w1 ⟨rfl, hB1⟩
  have HR := Lib.hid ((hr.below hB1).more hB1.size)
  have HR' := Lib.hid ((hr'.below hB1).more hB1.size)
  clear hr hr'
  go_wp2_with fail
  refine (flagsSize_any A n c w1.heap.size l w1 HR.out hn HS.out).mono ?_
  rintro e w2 ⟨⟨z, rfl, hz1', hz2'⟩, hw2⟩
  rw [← hw2]
  clear hw2 w2
  have HZ := Lib.hid hz2'
  clear hz2'
  go_wp2_with fail
  refine (flagsSize_any A' n' c' w1.heap.size m w1 HR'.out hn' HS'.out).mono ?_
  rintro e w2 ⟨⟨z', rfl, hz1'', hz2''⟩, hw2⟩
  rw [← hw2]
  clear hw2 w2
  have HZ' := Lib.hid hz2''
  clear hz2''
  have hb2 : Below w1.heap.size w1 (w1.alloc (.cells #[.int .i64 (z : Int), .int .i64 (z' : Int)] 3)) := (Below.refl _ _).alloc (Nat.le_refl _) _
  by_cases hbd : 1048576 < z + z'
  · have hby := fun c => beyond_two z z' c w1 (by omega) (by omega)
    rw [decide_eq_true hbd] at hby
    go_wp2_with fail
    refine (hby _).mono ?_
    rintro e w3 ⟨rfl, hw3⟩
    rw [hw3] at hb2
    have hb12 := below_then hB1 hB1.size hb2
    clear hby hw3
    go_wp2_with fail
    refine (alive_any w3).mono ?_
    rintro e w4 ⟨rfl, hB4⟩
    go_wp2_with fail
    go_ret
    exact ⟨rfl, below_then hb12 hb12.size hB4⟩
  have hby := fun c => beyond_two z z' c w1 (by omega) (by omega)
  rw [decide_eq_false hbd] at hby
  go_wp2_with fail
  refine (hby _).mono ?_
  rintro e w4 ⟨rfl, hw3⟩
  rw [hw3] at hb2
  have hb4 := below_then hB1 hB1.size hb2
  have HR4 := Lib.hid ((HR.out.below hb2).more hb2.size)
  have HR4' := Lib.hid ((HR'.out.below hb2).more hb2.size)
  have hnl : n ≤ 1048576 := ((HZ.out (by omega)).1)
  have hnl' : n' ≤ 1048576 := ((HZ'.out (by omega)).1)
  clear hby hw3 HR HR' hb2 hB1 HZ HZ' HS HS' hz1' hz1'' hbd
  go_wp2_with (first
    | (at_builtin; refine wpList_append_reads rfl (.tmp 25) (.tmp 26) 29 rfl w4.heap.size 38 i0 (.agg #[.int .u8 0, .string { data := #[] }]) 2 24 Tryd.underlying29 hi0 hz0 hz1 hz2 rfl (by decide) _ 0 [] rfl (World.ownsRow_nil _ _ _ _) A n c w4.heap.size (fv l) rfl HR4.out HN.out (fv_oneC l) (by unfold maxLen; omega) (by omega) (Nat.le_refl _) ?_; intro v5 w5 hown5 hg5; have hB5 : Below w4.heap.size w4 w5 := (Below.refl _ _).grown hg5 (Nat.le_refl _) (fun g hg => by cases hg); have hs5 := hB5.size; rw [Nat.zero_add, List.nil_append] at hown5)
    | (at_builtin; refine wpList_append_reads rfl (.tmp 28) (.tmp 29) 29 rfl w4.heap.size 38 i0 (.agg #[.int .u8 0, .string { data := #[] }]) 2 24 Tryd.underlying29 hi0 hz0 hz1 hz2 rfl (by decide) _ _ _ rfl hown5 A' n' c' w4.heap.size (fv m) rfl (HR4'.out.below hB5) HN'.out (fv_oneC m) (by unfold maxLen; omega) (by omega) (by omega) ?_; intro v6 w6 hown6 hg6))
  have hB6 : Below w4.heap.size w4 w6 := hB5.grown hg6 hs5 (own_ge hown5)
  rw [← fv_append] at hown6
  obtain ⟨A6, c6, rfl⟩ := own_slice hown6
  have hb6 := below_then hb4 hb4.size hB6
  have ra6 := Reads.of_own hown6
  have rl6 := (HR4.out.below hB6).more hB6.size
  have rm6 := (HR4'.out.below hB6).more hB6.size
  obtain ⟨p, hp⟩ : ∃ p, fhas l x = p := ⟨_, rfl⟩
  obtain ⟨q, hq⟩ : ∃ q, fhas m x = q := ⟨_, rfl⟩
  have hpq : fhas (l ++ m) x = p + q := by rw [fhas_append, hp, hq]
  have hpn : p ≤ n := by rw [← hp, ← HL.out]; exact fhas_le l x
  have hqn : q ≤ n' := by rw [← hq, ← HL'.out]; exact fhas_le m x
  have hsome := flast_has (l ++ m) x
  rw [hpq] at hsome
  have happ := flast_append l m x
  have HP := Lib.hid hp
  have HQ := Lib.hid hq
  have HPQ := Lib.hid hpq
  clear hown5 hown6 hg5 hg6 hB5 hB6 HR4 HR4' hb4 hp hq hpq hs5
  obtain ⟨o, ho⟩ : ∃ o, flast (l ++ m) x = o := ⟨_, rfl⟩
  obtain ⟨oM, hoM⟩ : ∃ o, flast m x = o := ⟨_, rfl⟩
  obtain ⟨oL, hoL⟩ : ∃ o, flast l x = o := ⟨_, rfl⟩
  have hval : (oM = none ∧ o = oL) ∨ ∃ s, oM = some s ∧ o = some s := by
    rw [ho, hoM] at happ
    cases oM with
    | none => exact .inl ⟨rfl, by rw [happ, hoL]⟩
    | some s => exact .inr ⟨s, rfl, happ⟩
  rw [ho] at hsome
  have HO := Lib.hid ho
  have HOM := Lib.hid hoM
  have HOL := Lib.hid hoL
  clear happ ho hoM hoL
  refine (last_is (l ++ m) x o HO.out A6 (n + n') c6 w6 ra6 (by omega)).mono ?_
  rintro e w7 ⟨rfl, hB7⟩
  have ra7 := (ra6.below hB7).more hB7.size
  have rl7 := (rl6.below hB7).more hB7.size
  have rm7 := (rm6.below hB7).more hB7.size
  have hb7 := below_then hb6 hb6.size hB7
  clear ra6 rl6 rm6 hb6 hB7
  obtain ⟨sO, hsO⟩ : ∃ s, s = o.getD ⟨#[]⟩ := ⟨_, rfl⟩
  obtain ⟨bO, hbO⟩ : ∃ b, b = o.isSome := ⟨_, rfl⟩
  obtain ⟨sM, hsM⟩ : ∃ s, s = oM.getD ⟨#[]⟩ := ⟨_, rfl⟩
  obtain ⟨bM, hbM⟩ : ∃ b, b = oM.isSome := ⟨_, rfl⟩
  obtain ⟨sL, hsL⟩ : ∃ s, s = oL.getD ⟨#[]⟩ := ⟨_, rfl⟩
  obtain ⟨bL, hbL⟩ : ∃ b, b = oL.isSome := ⟨_, rfl⟩
  have HV := Lib.hid (show (bM = false ∧ sO = sL ∧ bO = bL) ∨ (bM = true ∧ sO = sM ∧ bO = bM) by
    rcases hval with ⟨h1, h2⟩ | ⟨s, h1, h2⟩
    · exact .inl ⟨by rw [hbM, h1]; rfl, by rw [hsO, h2, hsL], by rw [hbO, h2, hbL]⟩
    · exact .inr ⟨by rw [hbM, h1]; rfl, by rw [hsO, h2, hsM, h1], by rw [hbO, h2, hbM, h1]⟩)
  rw [← hbO] at hsome
  have HSO := Lib.hid hsO
  have HBO := Lib.hid hbO
  have HSM := Lib.hid hsM
  have HBM := Lib.hid hbM
  have HSL := Lib.hid hsL
  have HBL := Lib.hid hbL
  have HSome := Lib.hid hsome
  rw [← hsO, ← hbO]
  clear hsO hbO hsM hbM hsL hbL hval hsome
  go_wp2_with fail
  refine (last_is m x oM HOM.out A' n' c' w7 rm7 (by omega)).mono ?_
  rintro e w8 ⟨rfl, hB8⟩
  rw [← HSM.out, ← HBM.out]
  have ra8 := (ra7.below hB8).more hB8.size
  have rl8 := (rl7.below hB8).more hB8.size
  have rm8 := (rm7.below hB8).more hB8.size
  have hb8 := below_then hb7 hb7.size hB8
  clear ra7 rl7 rm7 hb7 hB8
  go_wp2_with fail
  refine (last_is l x oL HOL.out A n c w8 rl8 (by omega)).mono ?_
  rintro e w9 ⟨rfl, hB9⟩
  rw [← HSL.out, ← HBL.out]
  have ra9 := (ra8.below hB9).more hB9.size
  have rl9 := (rl8.below hB9).more hB9.size
  have rm9 := (rm8.below hB9).more hB9.size
  have hb9 := below_then hb8 hb8.size hB9
  clear ra8 rl8 rm8 hb8 hB9
  rcases HV.out with ⟨rfl, rfl, rfl⟩ | ⟨rfl, rfl, rfl⟩
  · go_wp2_with fail
    refine (has_is (l ++ m) x (p + q) HPQ.out A6 (n + n') c6 w9 ra9 (by omega)).mono ?_
    rintro e w10 ⟨rfl, hB10⟩
    have ra10 := (ra9.below hB10).more hB10.size
    have rl10 := (rl9.below hB10).more hB10.size
    have rm10 := (rm9.below hB10).more hB10.size
    have hb10 := below_then hb9 hb9.size hB10
    clear ra9 rl9 rm9 hb9 hB10
    go_wp2_with fail
    refine (has_is l x p HP.out A n c w10 rl10 (by omega)).mono ?_
    rintro e w11 ⟨rfl, hB11⟩
    have ra11 := (ra10.below hB11).more hB11.size
    have rm11 := (rm10.below hB11).more hB11.size
    have hb11 := below_then hb10 hb10.size hB11
    clear ra10 rl10 rm10 hb10 hB11
    go_wp2_with fail
    refine (has_is m x q HQ.out A' n' c' w11 rm11 (by omega)).mono ?_
    rintro e w12 ⟨rfl, hB12⟩
    have ra12 := (ra11.below hB12).more hB12.size
    have hb12 := below_then hb11 hb11.size hB12
    clear ra11 rm11 hb11 hB12
    go_wp2_with fail
    refine (has_is (l ++ m) x (p + q) HPQ.out A6 (n + n') c6 w12 ra12 (by omega)).mono ?_
    rintro e w13 ⟨rfl, hB13⟩
    have hb13 := below_then hb12 hb12.size hB13
    clear ra12 hb12 hB13
    by_cases hpos : 0 < p + q
    · have h1 := HSome.out
      rw [decide_eq_true hpos] at h1
      have g1 : decide ((0 : Int) < (p : Int) + (q : Int)) = true := decide_eq_true (by omega)
      subst h1
      go_wp2_with fail
      go_ret
      exact ⟨rfl, hb13⟩
    · have h1 := HSome.out
      rw [decide_eq_false hpos] at h1
      have g1 : decide ((0 : Int) < (p : Int) + (q : Int)) = false := decide_eq_false (by omega)
      subst h1
      go_wp2_with fail
      go_ret
      exact ⟨rfl, hb13⟩
  · go_wp2_with fail
    refine (has_is (l ++ m) x (p + q) HPQ.out A6 (n + n') c6 w9 ra9 (by omega)).mono ?_
    rintro e w10 ⟨rfl, hB10⟩
    have ra10 := (ra9.below hB10).more hB10.size
    have rl10 := (rl9.below hB10).more hB10.size
    have rm10 := (rm9.below hB10).more hB10.size
    have hb10 := below_then hb9 hb9.size hB10
    clear ra9 rl9 rm9 hb9 hB10
    go_wp2_with fail
    refine (has_is l x p HP.out A n c w10 rl10 (by omega)).mono ?_
    rintro e w11 ⟨rfl, hB11⟩
    have ra11 := (ra10.below hB11).more hB11.size
    have rm11 := (rm10.below hB11).more hB11.size
    have hb11 := below_then hb10 hb10.size hB11
    clear ra10 rl10 rm10 hb10 hB11
    go_wp2_with fail
    refine (has_is m x q HQ.out A' n' c' w11 rm11 (by omega)).mono ?_
    rintro e w12 ⟨rfl, hB12⟩
    have ra12 := (ra11.below hB12).more hB12.size
    have hb12 := below_then hb11 hb11.size hB12
    clear ra11 rm11 hb11 hB12
    go_wp2_with fail
    refine (has_is (l ++ m) x (p + q) HPQ.out A6 (n + n') c6 w12 ra12 (by omega)).mono ?_
    rintro e w13 ⟨rfl, hB13⟩
    have hb13 := below_then hb12 hb12.size hB13
    clear ra12 hb12 hB13
    by_cases hpos : 0 < p + q
    · have h1 := HSome.out
      rw [decide_eq_true hpos] at h1
      have g1 : decide ((0 : Int) < (p : Int) + (q : Int)) = true := decide_eq_true (by omega)
      clear h1
      go_wp2_with fail
      go_ret
      exact ⟨rfl, hb13⟩
    · have h1 := HSome.out
      rw [decide_eq_false hpos] at h1
      cases h1
end Go.Proofs.YtghkdfjmahmolaaDoor
