/-
  ModesJoins: the law's walk.
-/
import Derived.Test.YtnpaddakkniliaaDoorModeOct
import Derived.Test.YtnpaddakkniliaaDoorModesOneWalk
namespace Go.Proofs.YtnpaddakkniliaaDoor
open Go.RowKit

theorem octs_no_comma {s : List UInt8} (h : allOct s = true) : (44 : UInt8) ∉ s := by
  intro hm
  unfold allOct at h
  have := (List.all_eq_true.1 h) 44 hm
  revert this
  decide
theorem oct_clause {s : List UInt8} (h1 : 1 ≤ s.length) (h : allOct s = true) : clauseV s = none := by
  cases s with
  | nil => simp at h1
  | cons c r =>
    have hc : isOct c = true := by
      unfold allOct at h
      exact (List.all_eq_true.1 h) c (List.mem_cons_self ..)
    rw [isOct_iff] at hc
    have n : ∀ d : UInt8, (d.toNat < 48 ∨ 55 < d.toNat) → c ≠ d := fun d hd e => by subst e; omega
    have hl : lettersM whoM 0 (c :: r) = (0, c :: r) := by
      show (match lookM whoM c with | none => (0, c :: r) | some b => lettersM whoM (0 ||| b) r) = _
      have : lookM whoM c = none := by
        unfold whoM lookM lookM lookM lookM lookM
        rw [if_neg (n _ (by decide)), if_neg (n _ (by decide)), if_neg (n _ (by decide)), if_neg (n _ (by decide))]
      rw [this]
    unfold clauseV
    rw [hl]
    have hg : clauseGo 0 (c :: r).length (c :: r) = none := by
      show (if isOp c = true then (clauseGo 0 r.length (oneV 0 c r).2).map ((oneV 0 c r).1 :: ·) else none) = none
      have : isOp c = false := by
        unfold isOp
        rw [decide_eq_false (n 43 (by decide)), decide_eq_false (n 45 (by decide)), decide_eq_false (n 61 (by decide))]
        rfl
      rw [this]
      rfl
    rw [hg]
theorem oct_none {s : List UInt8} {n : Nat} (h : readV s = some n) : allClauses (splitC 44 s) = none := by
  unfold readV at h
  split at h
  · rename_i h2
    rw [splitC_no 44 s (octs_no_comma h2.2.2.1)]
    show (match clauseV s with | none => none | some l => (allClauses []).map (l ++ ·)) = none
    rw [oct_clause h2.1 h2.2.2.1]
  · cases h
theorem read_comma (s t : List UInt8) : readV (s ++ 44 :: t) = none :=
  readV_no _ fun h => by
    have := octs_no_comma h.2.2.1
    simp at this
/-- What a text's call of Parse answers, beside its memory. -/
def PG (s : List UInt8) (B : Nat) (w' : World) (v : Value) (k : Int) : Prop :=
  ((allClauses (splitC 44 s) = none) ∧ (k ≠ 0 ∨ (readV s).isSome = true)) ∨ (∃ l, readV s = none ∧ allClauses (splitC 44 s) = some l ∧ k = 0 ∧ l.length ≤ 8392704 ∧ w'.ownsRow B 36 5 v l.length (chgv l))
theorem all_len : ∀ (p : List (List UInt8)) (l : List Chg), allClauses p = some l → l.length ≤ (p.map List.length).sum
  | [], l, h => by injection h with h; rw [← h]; exact Nat.le_refl _
  | x :: r, l, h => by
    have h2 : (match clauseV x with | none => none | some l => (allClauses r).map (l ++ ·)) = some l := h
    cases hx : clauseV x with
    | none => rw [hx] at h2; cases h2
    | some a =>
      rw [hx] at h2
      cases hr : allClauses r with
      | none => rw [hr] at h2; cases h2
      | some b =>
        rw [hr] at h2
        injection h2 with h2
        have h3 := all_len r b hr
        have h4 := (clauseV_len x a hx).2
        have e : a ++ b = l := h2
        rw [← e, List.length_append, List.map_cons, List.sum_cons]
        omega
theorem all_len2 (s : List UInt8) (l : List Chg) (h : allClauses (splitC 44 s) = some l) : l.length ≤ s.length := by
  have h1 := all_len _ l h
  have h2 := splitC_len 44 s
  have h3 : ∀ p : List (List UInt8), (p.map List.length).sum + p.length = (p.map fun x => x.length + 1).sum := fun p => by
    induction p with
    | nil => rfl
    | cons x p ih => simp only [List.map_cons, List.sum_cons, List.length_cons]; omega
  have h4 := h3 (splitC 44 s)
  have h5 : 1 ≤ (splitC 44 s).length := by
    have := splitC_ne 44 s
    cases hs : splitC 44 s with
    | nil => exact absurd hs this
    | cons _ _ => simp
  omega
theorem all_pos (s : List UInt8) (l : List Chg) (h : allClauses (splitC 44 s) = some l) : 1 ≤ l.length := by
  have hne := splitC_ne 44 s
  cases hs : splitC 44 s with
  | nil => exact absurd hs hne
  | cons x r =>
    rw [hs] at h
    have h2 : (match clauseV x with | none => none | some l => (allClauses r).map (l ++ ·)) = some l := h
    cases hx : clauseV x with
    | none => rw [hx] at h2; cases h2
    | some a =>
      rw [hx] at h2
      cases hr : allClauses r with
      | none => rw [hr] at h2; cases h2
      | some b =>
        rw [hr] at h2
        injection h2 with h2
        have e : a ++ b = l := h2
        have := (clauseV_len x a hx).1
        rw [← e, List.length_append]
        omega
theorem mparse_gen (B : Nat) (L : List UInt8) (w : World) (hE : EnvM B w) (hL : L.length ≤ 4096) :
    Calls Tryd.prog 19 #[.string (str L)] w fun e w' => (∃ v k, e = .returned (.tuple #[v, .int .i64 k]) ∧ PG L w.heap.size w' v k) ∧ Below w.heap.size w w' := by
  cases hr : readV L with
  | some n =>
    refine (mparse_oct B L n w hE hr).mono ?_
    rintro e w' ⟨⟨v, he, _⟩, hB⟩
    exact ⟨⟨v, 0, he, .inl ⟨oct_none hr, .inr (by rw [hr]; rfl)⟩⟩, hB⟩
  | none =>
    refine (mparse_text B L w hE hr (by omega)).mono ?_
    rintro e w' ⟨h, hB⟩
    refine ⟨?_, hB⟩
    unfold PIs at h
    rw [if_neg (by omega)] at h
    cases hp : allClauses (splitC 44 L) with
    | none => rw [hp] at h; exact ⟨_, 5, h, .inl ⟨hp, .inl (by decide)⟩⟩
    | some l =>
      rw [hp] at h
      obtain ⟨v, he, ho⟩ := h
      exact ⟨v, 0, he, .inr ⟨l, hr, hp, rfl, by have := all_len2 L l hp; omega, ho⟩⟩
theorem joined (s t : List UInt8) : allClauses (splitC 44 (s ++ 44 :: t)) = match allClauses (splitC 44 s) with
    | none => none
    | some l => (allClauses (splitC 44 t)).map (l ++ ·) := by
  rw [splitC_append, allClauses_append]
  cases allClauses (splitC 44 s) <;> rfl
theorem mown_later {w w0 : World} {base base' n n' size size' : Nat} {e e' : TypeId} {v v' : Value} {xs xs' : List Value} (h : w.ownsRow base e size v n xs) (h' : w0.ownsRow base' e' size' v' n' xs') (hle : w0.heap.size ≤ base) : v.ownBlock = none ∨ v.ownBlock ≠ v'.ownBlock := by
  cases hv : v.ownBlock with
  | none => exact .inl rfl
  | some g =>
    refine .inr (fun e => ?_)
    have h1 := (h.lt g hv).1
    have h2 := (h'.lt g e.symm).2
    omega
theorem str_appM (a b : List UInt8) : str a ++ str b = str (a ++ b) := by
  apply ByteArray.ext
  apply Array.ext'
  rw [ByteArray.data_append]
  simp [str]
theorem comma_strM (a b : List UInt8) : str a ++ ({ data := #[44] } : ByteArray) ++ str b = str (a ++ 44 :: b) := by
  rw [show ({ data := #[44] } : ByteArray) = str [44] from rfl, str_appM, str_appM]
  simp

theorem wpList_append_any_g {P : Program} (w : World) {ops : Array Oper} {rest : List Oper} {o : Oper} {a : Act} {Q : Exit → Act → World → Prop} (hw : Region.wanted o (yielded ops a.tmps) = true) (s x : Operand) (t : TypeId)
    (ho : o.op = .call { callee := .builtin .append, args := #[s, x], argTypes := #[t, t] })
    (base : Nat) (e : TypeId) (i : TypeInfo) (z : Value) (size bytes : Nat) (ht : P.underlying t = some (.slice e)) (hi : P.info? e = some i) (hz : i.zero = some z)
    (hsize : i.size = size) (hby : i.bytes = bytes) (hzs : z.cells.size = size) (hsz : 0 < size)
    (v : Value) (n : Nat) (xs : List Value) (hs : a.eval s = v) (hown : w.ownsRow base e size v n xs)
    (B : Nat) (A : Option Addr) (m c : Nat) (news : List Value) (hx : a.eval x = .slice A m c) (hr : Reads w B size A m news) (h1 : ∀ u ∈ news, u.oneCell' = true)
    (h63 : n + m ≤ maxLen) (hbytes : (n + m) * bytes ≤ 140737488355328) (hbase : base ≤ w.heap.size)
    (h : ∀ v' w', w'.ownsRow base e size v' (n + m) (xs ++ news) → w.grownBy w' v.ownBlock → wpList P ops Q rest (a.put o.dst v') w') : wpList P ops Q (o :: rest) a w :=
  wpList_step fun _ hK => by
    rw [if_pos hw]
    exact wp_append_any w s x t ho base e i z size bytes ht hi hz hsize hby hzs hsz v n xs hs hown B A m c news hx hr h1 h63 hbytes hbase fun v' w' h2 h3 _ => hK _ _ (h v' w' h2 h3)

set_option maxRecDepth 100000 in
set_option maxHeartbeats 8000000 in
theorem modesJoins_walk (B : Nat) (s t : ByteArray) (w : World) (hz1 : s.size ≤ 140737488351232) (hz2 : t.size ≤ 140737488351232) (hE : EnvM B w) :
    Calls Tryd.prog 9 #[.string s, .string t] w fun e w' => e = .returned (.bool true) ∧ Below w.heap.size w w' := by
  obtain ⟨L1, rfl⟩ : ∃ L, s = str L := ⟨_, str_of s⟩
  obtain ⟨L2, rfl⟩ : ∃ L, t = str L := ⟨_, str_of t⟩
  obtain ⟨i0, hi0, hi1, hi2, hi3⟩ := info_parts infoChg
  have hs1 := str_size L1
  have hs2 := str_size L2
  obtain ⟨n1, hn1⟩ : ∃ n, n = L1.length := ⟨_, rfl⟩
  obtain ⟨n2, hn2⟩ : ∃ n, n = L2.length := ⟨_, rfl⟩
  rw [← hn1] at hs1
  rw [← hn2] at hs2
  rw [hs1] at hz1
  rw [hs2] at hz2
  have HN1 := Lib.hid hn1
  have HN2 := Lib.hid hn2
  have HE := Lib.hid hE
  have HC := Lib.hid (comma_strM L1 L2)
  clear hn1 hn2 hE
  go_enter Tryd.func9, Tryd.ntmps9
  go_wp2_with fail
  refine (malive_any B w HE.out).mono ?_
  rintro e w1 ⟨rfl, hB1⟩
  have E1 := Lib.hid (HE.out.up hB1)
  by_cases hbd : 2000 < n1
  · have hI : (2000 : Int) < (n1 : Int) := by omega
    go_wp2_with fail
    refine (malive_any B w1 E1.out).mono ?_
    rintro e w2 ⟨rfl, hB2⟩
    go_wp2_with fail
    go_ret
    exact ⟨rfl, below_then hB1 hB1.size hB2⟩
  have hI1 : ¬ (2000 : Int) < (n1 : Int) := by omega
  by_cases hbd2 : 2000 < n2
  · have hI : (2000 : Int) < (n2 : Int) := by omega
    go_wp2_with fail
    refine (malive_any B w1 E1.out).mono ?_
    rintro e w2 ⟨rfl, hB2⟩
    go_wp2_with fail
    go_ret
    exact ⟨rfl, below_then hB1 hB1.size hB2⟩
  have hI2 : ¬ (2000 : Int) < (n2 : Int) := by omega
  have HL1 := Lib.hid (show L1.length ≤ 4096 by have := HN1.out; omega)
  have HL2 := Lib.hid (show L2.length ≤ 4096 by have := HN2.out; omega)
  have HL3 := Lib.hid (show (L1 ++ 44 :: L2).length ≤ 4096 by have := HN1.out; have := HN2.out; simp; omega)
  go_wp2_with fail
  refine (read_any B L1 w1 (by have := HL1.out; omega) E1.out).mono ?_
  rintro e w2 ⟨he, hB2⟩
  obtain ⟨x1, b1, hb1, rfl⟩ : ∃ (x1 : Int) (b1 : Bool), Hid (b1 = (readV L1).isSome) ∧ e = .returned (.tuple #[.int .i64 x1, .bool b1]) := ⟨_, _, Lib.hid rfl, he⟩
  have hB02 := below_then hB1 hB1.size hB2
  have E2 := Lib.hid (E1.out.up hB2)
  clear he hB1 hB2 E1 HE
  go_wp2_with fail
  refine (read_any B L2 w2 (by have := HL2.out; omega) E2.out).mono ?_
  rintro e w3 ⟨he, hB3⟩
  obtain ⟨x2, b2, hb2, rfl⟩ : ∃ (x2 : Int) (b2 : Bool), Hid (b2 = (readV L2).isSome) ∧ e = .returned (.tuple #[.int .i64 x2, .bool b2]) := ⟨_, _, Lib.hid rfl, he⟩
  have hB03 := below_then hB02 hB02.size hB3
  have E3 := Lib.hid (E2.out.up hB3)
  clear he hB02 hB3 E2
  go_wp2_with fail
  refine (mparse_gen B L1 w3 E3.out HL1.out).mono ?_
  rintro e w4 ⟨⟨v1, k1, rfl, hP1⟩, hB4⟩
  have hB04 := below_then hB03 hB03.size hB4
  have E4 := Lib.hid (E3.out.up hB4)
  have HP1 := Lib.hid hP1
  have h03 := hB03.size
  have h34 := hB4.size
  clear hB03 hP1 E3 hB4
  go_wp2_with fail
  refine (mparse_gen B L2 w4 E4.out HL2.out).mono ?_
  rintro e w5 ⟨⟨v2, k2, rfl, hP2⟩, hB5⟩
  have hB05 := below_then hB04 hB04.size hB5
  have E5 := Lib.hid (E4.out.up hB5)
  have HP2 := Lib.hid hP2
  clear hB04 hP2 E4
  by_cases hbad : k1 ≠ 0 ∨ k2 ≠ 0 ∨ b1 = true ∨ b2 = true
  · have HNO := Lib.hid (show allClauses (splitC 44 (L1 ++ 44 :: L2)) = none by
      rw [joined]
      rcases HP1.out with ⟨h, _⟩ | ⟨l1, r1, h1, z1, _⟩
      · rw [h]
      · rcases HP2.out with ⟨h, _⟩ | ⟨l2, r2, h2, z2, _⟩
        · rw [h1, h]; rfl
        · exfalso
          have q1 := hb1.out
          have q2 := hb2.out
          rw [r1] at q1
          rw [r2] at q2
          rcases hbad with h | h | h | h
          · exact h z1
          · exact h z2
          · rw [q1] at h; cases h
          · rw [q2] at h; cases h)
    go_wp2_with fail
    rw [HC.out]
    refine (mparse_no B (L1 ++ 44 :: L2) w5 E5.out (read_comma L1 L2) HL3.out HNO.out).mono ?_
    rintro e w6 ⟨rfl, hB6⟩
    have hB06 := below_then hB05 hB05.size hB6
    clear HP1 HP2 hb1 hb2 HNO HC E5 hB5 hB6 hB05
    by_cases h1 : k1 = 0
    · by_cases h2 : k2 = 0
      · cases b1 with
        | true =>
          subst h1 h2
          go_wp2_with fail
          go_ret
          exact ⟨rfl, hB06⟩
        | false =>
          cases b2 with
          | true =>
            subst h1 h2
            go_wp2_with fail
            go_ret
            exact ⟨rfl, hB06⟩
          | false => exact absurd hbad (by simp [h1, h2])
      · subst h1
        go_wp2_with fail
        go_ret
        exact ⟨rfl, hB06⟩
    · go_wp2_with fail
      go_ret
      exact ⟨rfl, hB06⟩
  have h1 : k1 = 0 := Classical.byContradiction fun h => hbad (.inl h)
  have h2 : k2 = 0 := Classical.byContradiction fun h => hbad (.inr (.inl h))
  have f1 : b1 = false := by cases b1 with | false => rfl | true => exact absurd (.inr (.inr (.inl rfl))) hbad
  have f2 : b2 = false := by cases b2 with | false => rfl | true => exact absurd (.inr (.inr (.inr rfl))) hbad
  clear hbad
  subst h1 h2 f1 f2
  obtain ⟨l1, a1, m1, o1⟩ : ∃ l, allClauses (splitC 44 L1) = some l ∧ l.length ≤ 8392704 ∧ w4.ownsRow w3.heap.size 36 5 v1 l.length (chgv l) := by
    rcases HP1.out with ⟨_, h | h⟩ | ⟨l1, _, h1, _, h3, h4⟩
    · exact absurd rfl h
    · rw [← hb1.out] at h; cases h
    · exact ⟨l1, h1, h3, h4⟩
  obtain ⟨l2, a2, m2, o2⟩ : ∃ l, allClauses (splitC 44 L2) = some l ∧ l.length ≤ 8392704 ∧ w5.ownsRow w4.heap.size 36 5 v2 l.length (chgv l) := by
    rcases HP2.out with ⟨_, h | h⟩ | ⟨l1, _, h1, _, h3, h4⟩
    · exact absurd rfl h
    · rw [← hb2.out] at h; cases h
    · exact ⟨l1, h1, h3, h4⟩
  have HYES := Lib.hid (show allClauses (splitC 44 (L1 ++ 44 :: L2)) = some (l1 ++ l2) by rw [joined, a1, a2]; rfl)
  have o15 := own_below o1 hB5
  have hs5 := hB5.size
  have p1 := all_pos _ _ a1
  have p2 := all_pos _ _ a2
  clear HP1 HP2 hb1 hb2 a1 a2 hB5 o1
  go_wp2_with fail
  rw [HC.out]
  refine (mparse_text B (L1 ++ 44 :: L2) w5 E5.out (read_comma L1 L2) (by have := HL3.out; omega)).mono ?_
  rintro e w6 ⟨hP, hB6⟩
  unfold PIs at hP
  rw [if_neg (by have := HL3.out; omega), HYES.out] at hP
  obtain ⟨v3, rfl, o3⟩ := hP
  have hB06 := below_then hB05 hB05.size hB6
  have hs6 := hB6.size
  have o16 := own_below o15 hB6
  have o26 := own_below o2 hB6
  have hlen : (l1 ++ l2).length = l1.length + l2.length := List.length_append
  rw [hlen] at o3
  have hne1 := mown_later o3 o15 (Nat.le_refl _)
  obtain ⟨g1, c1, rfl, _, _⟩ := o16.form p1
  obtain ⟨g2, c2, rfl, _, _⟩ := o26.form p2
  have r2 := Reads.of_own o26
  clear HC HYES hB6 E5 o15 o2 hlen hB05
  go_wp2_with (at_builtin; refine wpList_append_any_g _ rfl (.tmp 79) (.tmp 80) 34 rfl w3.heap.size 36 i0 (.agg #[.int .i64 0, .int .u8 0, .int .i64 0, .int .u8 0, .bool false]) 5 32 Tryd.underlying34 hi0 hi1 hi2 hi3 rfl (by decide) _ _ _ rfl o16 _ (some ⟨g2, 0, none⟩) l2.length c2 (chgv l2) rfl r2 (chgv_one l2) (by unfold maxLen; omega) (by omega) (by omega) ?_; intro v7 w7 o7 g7)
  have o37 := o3.kept g7 hne1
  have o7' : w7.ownsRow w3.heap.size 36 5 v7 (l1.length + l2.length) (chgv (l1 ++ l2)) := by
    rw [show chgv (l1 ++ l2) = chgv l1 ++ chgv l2 from sv_append chg1 _ _]
    exact o7
  obtain ⟨A7, c7, rfl⟩ := own_slice o7'
  obtain ⟨A3, c3, rfl⟩ := own_slice o37
  have hB07 : Below w.heap.size w w7 := hB06.grown g7 (by omega) (fun g hg => Nat.le_trans h03 (own_ge o16 g hg))
  have ra := Reads.of_own o7'
  have rb := Reads.of_own o37
  clear o7 o7' o37 g7 hne1 o16 o26 r2 o3
  refine (sameChanges_any A3 A7 (l1.length + l2.length) c3 c7 w7.heap.size (l1 ++ l2) w7 rb ra (by omega)).mono ?_
  rintro e w8 ⟨rfl, m8, hw8⟩
  have hB08 : Below w.heap.size w w8 := by rw [hw8]; exact below_drewN hB07 m8
  clear hw8
  go_wp2_with fail
  go_ret
  exact ⟨rfl, hB08⟩
end Go.Proofs.YtnpaddakkniliaaDoor
