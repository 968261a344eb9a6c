/-
  ListsJoins: the law's walk.
-/
import Derived.Test.YtgibhlpocmppjaaDoorLstAliveWalk
import Derived.OwnWalk
import Derived.ArgAppend
import Derived.Laws.OwnMore
import Derived.Deep.Onto
namespace Go.Proofs.YtgibhlpocmppjaaDoor
open Go.RowKit

theorem rngv_one (l : List Rng) : ∀ u ∈ rngv l, u.oneCell' = true := by
  intro u hu
  unfold rngv sv at hu
  rw [List.mem_flatMap] at hu
  obtain ⟨r, _, hr⟩ := hu
  exact rng1_one r u hr
theorem rngv_append (a b : List Rng) : rngv (a ++ b) = rngv a ++ rngv b := sv_append _ _ _
section
variable {P : Program} (w : World)
/-- append onto an own row: one way behind it; the elder slice reads as it did. -/
theorem wp_append_old {o : Oper} {a : Act} {K : Act → World → Prop} {Q : Exit → Act → World → Prop} (s x : Operand) (t : TypeId)
    (ho : o.op = .call { callee := .builtin .append, args := #[s, x], argTypes := #[t, t] })
    (base : Nat) (e : TypeId) (i : TypeInfo) (z : Value) (size bytes : Nat) (ht : P.underlying t = some (.slice e)) (hi : P.info? e = some i) (hz : i.zero = some z)
    (hsize : i.size = size) (hby : i.bytes = bytes) (hzs : z.cells.size = size) (hsz : 0 < size)
    (g n cap : Nat) (xs : List Value) (hs : a.eval s = .slice (some ⟨g, 0, none⟩) n cap) (hown : w.ownsRow base e size (.slice (some ⟨g, 0, none⟩) n cap) n xs)
    (ad : Addr) (m c : Nat) (news : List Value) (hx : a.eval x = .slice (some ad) m c) (hn : news.length = m * size) (hc : ∀ j u, news[j]? = some u → w.cell? (ad.add j) = some u) (h1 : ∀ u ∈ news, u.oneCell' = true)
    (h63 : n + m ≤ maxLen) (hbytes : (n + m) * bytes ≤ 140737488355328) (hbase : base ≤ w.heap.size)
    (h : ∀ A' c' w', w'.ownsRow base e size (.slice A' (n + m) c') (n + m) (xs ++ news) → Reads w' w'.heap.size size (some ⟨g, 0, none⟩) n xs → w.grownBy w' (some g) → K (a.put o.dst (.slice A' (n + m) c')) w') : o.wp P a w K Q := by
  have hlt := (hown.lt g rfl).2
  by_cases hroom : n + m ≤ cap
  · obtain ⟨w', hrun, r1, r2⟩ := run_append_fits (P := P) w base t o.type e i size ht hi hsize g n cap xs hown ad m c news hn hc h1 hroom
    unfold Oper.wp execOp
    simp only [ho, resolve, invoke, builtin, Sem.run_bind, Sem.run_pure, Result.andThen_ok, List.map_toArray, List.map_cons, List.map_nil, hs, hx, hrun]
    refine h _ _ w' r1 ⟨hown.1, fun _ => ⟨_, rfl, (r1.lt g rfl).2, fun j u hu => r1.cells (g := g) rfl j u ?_⟩⟩ r2
    rw [List.getElem?_append_left (List.getElem?_eq_some_iff.1 hu).1]
    exact hu
  · obtain ⟨v', w', hrun, r1, r2⟩ := run_append_arg_grows (P := P) w t o.type e i z size bytes ht hi hz hsize hby hzs hsz ⟨g, 0, none⟩ n cap xs hown.1 (hown.cells rfl) ad m c news hn hc (by omega) h63 hbytes
    obtain ⟨A', c', rfl⟩ := own_slice r1
    unfold Oper.wp execOp
    simp only [ho, resolve, invoke, builtin, Sem.run_bind, Sem.run_pure, Result.andThen_ok, List.map_toArray, List.map_cons, List.map_nil, hs, hx, hrun]
    refine h _ _ w' (r1.mono hbase) (Reads.of_own (hown.kept r2 (.inr (by simp [Value.ownBlock])))) ?_
    obtain ⟨q1, q2, q3, q4, q5⟩ := r2
    exact ⟨q1, q2, q3, q4, fun k hk _ => q5 k hk (by simp)⟩
theorem wpList_append_old {ops : Array Oper} {rest : List Oper} {o : Oper} {a : Act} {Q : Exit → Act → World → Prop} (hw : Region.wanted o (yielded ops a.tmps) = true) (s x : Operand) (t : TypeId)
    (ho : o.op = .call { callee := .builtin .append, args := #[s, x], argTypes := #[t, t] })
    (base : Nat) (e : TypeId) (i : TypeInfo) (z : Value) (size bytes : Nat) (ht : P.underlying t = some (.slice e)) (hi : P.info? e = some i) (hz : i.zero = some z)
    (hsize : i.size = size) (hby : i.bytes = bytes) (hzs : z.cells.size = size) (hsz : 0 < size)
    (g n cap : Nat) (xs : List Value) (hs : a.eval s = .slice (some ⟨g, 0, none⟩) n cap) (hown : w.ownsRow base e size (.slice (some ⟨g, 0, none⟩) n cap) n xs)
    (ad : Addr) (m c : Nat) (news : List Value) (hx : a.eval x = .slice (some ad) m c) (hn : news.length = m * size) (hc : ∀ j u, news[j]? = some u → w.cell? (ad.add j) = some u) (h1 : ∀ u ∈ news, u.oneCell' = true)
    (h63 : n + m ≤ maxLen) (hbytes : (n + m) * bytes ≤ 140737488355328) (hbase : base ≤ w.heap.size)
    (h : ∀ A' c' w', w'.ownsRow base e size (.slice A' (n + m) c') (n + m) (xs ++ news) → Reads w' w'.heap.size size (some ⟨g, 0, none⟩) n xs → w.grownBy w' (some g) → wpList P ops Q rest (a.put o.dst (.slice A' (n + m) c')) w') : wpList P ops Q (o :: rest) a w :=
  wpList_step fun _ hK => by
    rw [if_pos hw]
    exact wp_append_old w s x t ho base e i z size bytes ht hi hz hsize hby hzs hsz g n cap xs hs hown ad m c news hx hn hc h1 h63 hbytes hbase fun A' c' w' h2 h3 h4 => hK _ _ (h A' c' w' h2 h3 h4)
end
theorem comma_str (a b : List UInt8) : str a ++ ({ data := #[44] } : ByteArray) ++ str b = str (a ++ 44 :: b) := by
  rw [show ({ data := #[44] } : ByteArray) = str [44] from rfl, str_append, str_append]
  simp

set_option maxRecDepth 100000 in
set_option maxHeartbeats 2000000 in
theorem listsJoins_walk (B : Nat) (s t : ByteArray) (x : Int) (w : World) (hz1 : s.size ≤ 140737488351232) (hz2 : t.size ≤ 140737488351232) (hE : Env B w) :
    Calls Tryd.prog 6 #[.string s, .string t, .int .i64 x] w fun e w' => e = .returned (.bool true) ∧ Below w.heap.size w w' := by
  obtain ⟨L1, rfl⟩ : ∃ L, s = str L := ⟨_, str_of s⟩
  obtain ⟨L2, rfl⟩ : ∃ L, t = str L := ⟨_, str_of t⟩
  obtain ⟨i0, hi0, hi1, hi2, hi3⟩ := info_parts infoRng
  have hs1 := str_size L1
  have hs2 := str_size L2
  obtain ⟨n1, hn1⟩ : ∃ n, n = L1.length := ⟨_, rfl⟩
  obtain ⟨n2, hn2⟩ : ∃ n, n = L2.length := ⟨_, rfl⟩
  rw [← hn1] at hs1
  rw [← hn2] at hs2
  rw [hs1] at hz1
  rw [hs2] at hz2
  have HN1 := Lib.hid hn1
  have HN2 := Lib.hid hn2
  have HE := Lib.hid hE
  have HC := Lib.hid (comma_str L1 L2)
  clear hn1 hn2 hE
  go_enter Tryd.func6, Tryd.ntmps6
  go_wp2_with fail
  refine (alive_any B w HE.out).mono ?_
  rintro e w1 ⟨rfl, hB1⟩
  have hw1 := hB1.size
  have E1 := Lib.hid (HE.out.up hB1)
  by_cases hbd : 4095 < n1 + n2
  · go_wp2_with fail
    refine (alive_any B w1 E1.out).mono ?_
    rintro e w2 ⟨rfl, hB2⟩
    go_wp2_with fail
    go_ret
    exact ⟨rfl, below_then hB1 hw1 hB2⟩
  · have HL1 := Lib.hid (show L1.length ≤ 4096 by have := HN1.out; omega)
    have HL2 := Lib.hid (show L2.length ≤ 4096 by have := HN2.out; omega)
    have HL3 := Lib.hid (show (L1 ++ 44 :: L2).length ≤ 4096 by have := HN1.out; have := HN2.out; simp; omega)
    have HPC := Lib.hid (parse_comma L1 L2)
    go_wp2_with fail
    cases hp1 : parseV L1 with
    | none =>
      have HP1 := Lib.hid hp1
      clear hp1
      refine (parse_none B L1 w1 E1.out HL1.out HP1.out).mono ?_
      rintro e w2 ⟨rfl, hB2⟩
      have hB02 := below_then hB1 hB1.size hB2
      have E2 := Lib.hid (E1.out.up hB2)
      go_wp2_with fail
      cases hp2 : parseV L2 with
      | none =>
        have HP2 := Lib.hid hp2
        clear hp2
        refine (parse_none B L2 w2 E2.out HL2.out HP2.out).mono ?_
        rintro e w3 ⟨rfl, hB3⟩
        have hB03 := below_then hB02 hB02.size hB3
        have E3 := Lib.hid (E2.out.up hB3)
        have HP3 := Lib.hid (show parseV (L1 ++ 44 :: L2) = none by rw [HPC.out, HP1.out, HP2.out])
        go_wp2_with fail
        rw [HC.out]
        refine (parse_none B (L1 ++ 44 :: L2) w3 E3.out HL3.out HP3.out).mono ?_
        rintro e w4 ⟨rfl, hB4⟩
        have hB04 := below_then hB03 hB03.size hB4
        have E4 := Lib.hid (E3.out.up hB4)
        go_wp2_with fail
        go_ret
        exact ⟨rfl, hB04⟩
      | some rb =>
        have HP2 := Lib.hid hp2
        clear hp2
        refine (parse_some B L2 rb w2 E2.out HL2.out HP2.out).mono ?_
        rintro e w3 ⟨A2, c2, rfl, ho2, hB3⟩
        have hB03 := below_then hB02 hB02.size hB3
        have E3 := Lib.hid (E2.out.up hB3)
        have HP3 := Lib.hid (show parseV (L1 ++ 44 :: L2) = none by rw [HPC.out, HP1.out, HP2.out])
        go_wp2_with fail
        rw [HC.out]
        refine (parse_none B (L1 ++ 44 :: L2) w3 E3.out HL3.out HP3.out).mono ?_
        rintro e w4 ⟨rfl, hB4⟩
        have hB04 := below_then hB03 hB03.size hB4
        have E4 := Lib.hid (E3.out.up hB4)
        go_wp2_with fail
        go_ret
        exact ⟨rfl, hB04⟩
    | some ra =>
      have HP1 := Lib.hid hp1
      clear hp1
      refine (parse_some B L1 ra w1 E1.out HL1.out HP1.out).mono ?_
      rintro e w2 ⟨A1, c1, rfl, ho1, hB2⟩
      have hB02 := below_then hB1 hB1.size hB2
      have E2 := Lib.hid (E1.out.up hB2)
      go_wp2_with fail
      cases hp2 : parseV L2 with
      | none =>
        have HP2 := Lib.hid hp2
        clear hp2
        refine (parse_none B L2 w2 E2.out HL2.out HP2.out).mono ?_
        rintro e w3 ⟨rfl, hB3⟩
        have hB03 := below_then hB02 hB02.size hB3
        have E3 := Lib.hid (E2.out.up hB3)
        have HP3 := Lib.hid (show parseV (L1 ++ 44 :: L2) = none by rw [HPC.out, HP1.out, HP2.out])
        go_wp2_with fail
        rw [HC.out]
        refine (parse_none B (L1 ++ 44 :: L2) w3 E3.out HL3.out HP3.out).mono ?_
        rintro e w4 ⟨rfl, hB4⟩
        have hB04 := below_then hB03 hB03.size hB4
        have E4 := Lib.hid (E3.out.up hB4)
        go_wp2_with fail
        go_ret
        exact ⟨rfl, hB04⟩
      | some rb =>
        have HP2 := Lib.hid hp2
        clear hp2
        refine (parse_some B L2 rb w2 E2.out HL2.out HP2.out).mono ?_
        rintro e w3 ⟨A2, c2, rfl, ho2, hB3⟩
        have hB03 := below_then hB02 hB02.size hB3
        have E3 := Lib.hid (E2.out.up hB3)
        have HP3 := Lib.hid (show parseV (L1 ++ 44 :: L2) = some (ra ++ rb) by rw [HPC.out, HP1.out, HP2.out])
        go_wp2_with fail
        rw [HC.out]
        refine (parse_some B (L1 ++ 44 :: L2) (ra ++ rb) w3 E3.out HL3.out HP3.out).mono ?_
        rintro e w4 ⟨A3, c3, rfl, ho3, hB4⟩
        have hB04 := below_then hB03 hB03.size hB4
        have E4 := Lib.hid (E3.out.up hB4)
        rw [List.length_append] at ho3 ⊢
        obtain ⟨ha1, _, _, ha4⟩ := parse_ok L1 ra HP1.out
        obtain ⟨hb1, _, _, hb4⟩ := parse_ok L2 rb HP2.out
        obtain ⟨k1, hk1⟩ : ∃ k, k = ra.length := ⟨_, rfl⟩
        obtain ⟨k2, hk2⟩ : ∃ k, k = rb.length := ⟨_, rfl⟩
        have hk1p : 1 ≤ k1 := by
          rw [hk1]
          cases ra with
          | nil => exact absurd rfl ha1
          | cons a b => simp
        have hk2p : 1 ≤ k2 := by
          rw [hk2]
          cases rb with
          | nil => exact absurd rfl hb1
          | cons a b => simp
        rw [← hk1, ← hk2] at ho3
        rw [← hk1] at ho1 ha4
        rw [← hk2] at ho2 hb4
        rw [← hk1, ← hk2]
        rw [← HN1.out] at ha4
        rw [← HN2.out] at hb4
        have HK1 := Lib.hid hk1
        have HK2 := Lib.hid hk2
        have hw2 := hB02.size
        have hw3 := hB03.size
        have hw4 := hB04.size
        have hl23 := hB3.size
        have hl34 := hB4.size
        have hl12 := hB2.size
        have ho1' := (own_below (own_below ho1 hB3) hB4).mono (base' := w.heap.size) (by have := hB1.size; omega)
        have ho2' := own_below ho2 hB4
        have hr1 := Reads.of_own ho1'
        have hr2 := Reads.of_own ho2'
        have hr3 := Reads.of_own ho3
        obtain ⟨a1, rfl, ha1b, _⟩ := hr1.2 (by omega)
        obtain ⟨g1, hg1⟩ : ∃ g, a1 = ⟨g, 0, none⟩ := by
          rcases ho1.2 with ⟨e1, _⟩ | ⟨g, cap, cur, hv, _⟩
          · cases e1
          · injection hv with h1; injection h1 with h1; exact ⟨g, h1⟩
        subst hg1
        have hgb := ho1.lt g1 rfl
        obtain ⟨a2, rfl, ha2b, hc2⟩ := hr2.2 (by omega)
        have hne2 : Value.ownBlock (.slice (some a2) k2 c2) ≠ some g1 := fun e => by have := (ho2.lt g1 e).1; omega
        have hne3 : Value.ownBlock (.slice A3 (k1 + k2) c3) ≠ some g1 := fun e => by have := (ho3.lt g1 e).1; omega
        have hcap := own_capk ho1
        have HHA := Lib.hid (has_append ra rb x)
        have hl2 : (rngv rb).length = k2 * 2 := hr2.1
        have hl1 : (rngv ra).length = k1 * 2 := hr1.1
        clear ha1 hb1 hk1 hk2 hbd
        go_wp2_with (at_builtin; refine wpList_append_old _ rfl (.tmp 64) (.tmp 65) 22 rfl w.heap.size 41 i0 _ 2 16 Tryd.underlying22 hi0 hi1 hi2 hi3 rfl (by decide) g1 k1 c1 (rngv ra) rfl ho1' a2 k2 c2 (rngv rb) rfl hl2 hc2 (rngv_one rb) (by unfold maxLen; omega) (by omega) (by omega) ?_; intro A6 c6 w6 ho6 ra6 hg6)
        have ho2k := ho2'.kept hg6 (.inr hne2)
        have ho3k := ho3.kept hg6 (.inr hne3)
        have hB6 : Below w.heap.size w w6 := hB04.grown hg6 hw4 (fun q hq => by cases hq; omega)
        have rb6 := Reads.of_own ho2k
        have rc6 := Reads.of_own ho3k
        rw [← rngv_append] at ho6
        have rv6 := Reads.of_own ho6
        have hw6 := hB6.size
        refine (sameRanges_any A3 A6 (k1 + k2) c3 c6 w6.heap.size (ra ++ rb) w6 rc6 rv6 (by omega)).mono ?_
        rintro e w7 ⟨rfl, m, hw7⟩
        have hB67 : Below w6.heap.size w6 w7 := by rw [hw7]; exact below_drewN (Below.refl _ _) m
        have hw67 := hB67.size
        have ra7 := (ra6.below hB67).more hw67
        have rb7 := (rb6.below hB67).more hw67
        have rc7 := (rc6.below hB67).more hw67
        have hB7 := below_then hB6 hw6 hB67
        have hw7' := hB7.size
        clear hw7
        go_wp2_with fail
        refine (has_any A3 (k1 + k2) c3 (ra ++ rb) x w7 rc7 (by omega)).mono ?_
        rintro e w8 ⟨rfl, hB78⟩
        rw [HHA.out]
        have hw78 := hB78.size
        have ra8 := (ra7.below hB78).more hw78
        have rb8 := (rb7.below hB78).more hw78
        have hB8 := below_then hB7 hw7' hB78
        have hw8 := hB8.size
        obtain ⟨b1, hb1⟩ : ∃ b, b = hasV ra x := ⟨_, rfl⟩
        obtain ⟨b2, hb2⟩ : ∃ b, b = hasV rb x := ⟨_, rfl⟩
        have HB1 := Lib.hid hb1
        have HB2 := Lib.hid hb2
        rw [← hb1, ← hb2]
        clear hb1 hb2
        go_wp2_with fail
        refine (has_any _ k1 c1 ra x w8 ra8 (by omega)).mono ?_
        rintro e w9 ⟨rfl, hB89⟩
        rw [← HB1.out]
        have hw89 := hB89.size
        have rb9 := (rb8.below hB89).more hw89
        have hB9 := below_then hB8 hw8 hB89
        have hw9 := hB9.size
        clear HB1
        cases b1 with
        | true =>
          go_wp2_with fail
          go_ret
          exact ⟨rfl, hB9⟩
        | false =>
          go_wp2_with fail
          refine (has_any _ k2 c2 rb x w9 rb9 (by omega)).mono ?_
          rintro e w10 ⟨rfl, hB910⟩
          rw [← HB2.out]
          clear HB2
          cases b2 with
          | true =>
            go_wp2_with fail
            go_ret
            exact ⟨rfl, below_then hB9 hw9 hB910⟩
          | false =>
            go_wp2_with fail
            go_ret
            exact ⟨rfl, below_then hB9 hw9 hB910⟩
end Go.Proofs.YtgibhlpocmppjaaDoor
