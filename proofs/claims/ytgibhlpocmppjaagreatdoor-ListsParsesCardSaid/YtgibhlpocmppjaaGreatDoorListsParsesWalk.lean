/-
  ListsParses: the law's walk.
-/
import Derived.Test.YtgibhlpocmppjaaGreatDoorLstRefParse
import Derived.Test.YtgibhlpocmppjaaGreatDoorBookApart
import Derived.Test.YtgibhlpocmppjaaGreatDoorBeyond
namespace Go.Proofs.YtgibhlpocmppjaaGreatDoor
open Go.RowKit

def lstOf (L : List UInt8) : List Rng := if 4096 < L.length then [] else (parseV L).getD []
def codeOf (L : List UInt8) : Int := if 4096 < L.length then 3 else match parseV L with
  | none => 5
  | some _ => 0
theorem ParseIs.gen {L : List UInt8} {base : Nat} {w' : World} {e : Ending} (h : ParseIs L base w' e) :
    ∃ v, e = .returned (.tuple #[v, .int .i64 (codeOf L)]) ∧ w'.ownsRow base 49 2 v (lstOf L).length (rngv (lstOf L)) := by
  unfold ParseIs at h
  unfold lstOf codeOf
  by_cases hb : 4096 < L.length
  · rw [if_pos hb] at h
    rw [if_pos hb, if_pos hb]
    exact ⟨_, h, World.ownsRow_nil _ _ _ _⟩
  · rw [if_neg hb] at h
    rw [if_neg hb, if_neg hb]
    cases hp : parseV L with
    | none =>
      rw [hp] at h
      exact ⟨_, h, World.ownsRow_nil _ _ _ _⟩
    | some rs =>
      rw [hp] at h
      exact h
theorem len_le_sum : ∀ l : List (List UInt8), l.length ≤ (l.map fun x => x.length + 1).sum
  | [] => Nat.le_refl _
  | x :: l => by
    have := len_le_sum l
    simp only [List.length_cons, List.map_cons, List.sum_cons]
    omega
theorem lstOf_len (L : List UInt8) : (lstOf L).length ≤ 4097 := by
  unfold lstOf
  by_cases hb : 4096 < L.length
  · rw [if_pos hb]; simp
  · rw [if_neg hb]
    cases hp : parseV L with
    | none => simp
    | some rs =>
      have h1 := allItems_len _ _ hp
      have h2 := len_le_sum (splitC 44 L)
      rw [splitC_len] at h2
      show rs.length ≤ 4097
      omega
theorem own_lo {w w' : World} {base n size G : Nat} {e : TypeId} {v : Value} {xs : List Value} (h : w.ownsRow base e size v n xs) (hlt : ∀ k, v.ownBlock = some k → k < G) (hb : Below G w w') : w'.ownsRow base e size v n xs := by
  refine ⟨h.1, ?_⟩
  rcases h.2 with h2 | ⟨g, cap, cur, rfl, hbg, hh, r⟩
  · exact .inl h2
  · exact .inr ⟨g, cap, cur, rfl, hbg, (hb.block g (hlt g rfl)).trans hh, r⟩

set_option maxRecDepth 100000 in
set_option maxHeartbeats 2000000 in
theorem listsParses_walk (B : Nat) (s : ByteArray) (w : World) (hz : s.size ≤ 140737488351232) (hE : Env B w) :
    Calls Tryz.prog 3 #[.string s] w fun e w' => e = .returned (.bool true) ∧ Below w.heap.size w w' := by
  obtain ⟨L, rfl⟩ : ∃ L, s = str L := ⟨_, str_of s⟩
  have hs0 := str_size L
  rw [hs0] at hz
  have HE := Lib.hid hE
  clear hE
  have hby := fun c => beyond_one L.length c w (by omega)
  have hB1 : Below w.heap.size w (w.alloc (.cells #[.int .i64 (L.length : Int)] 3)) := (Below.refl _ _).alloc (Nat.le_refl _) _
  by_cases hbd : 1048576 < L.length
  · rw [decide_eq_true hbd] at hby
    go_enter Tryz.func3, Tryz.ntmps3
    go_wp2_with fail
    refine (hby _).mono ?_
    rintro e w2 ⟨rfl, hw2⟩
    rw [hw2] at hB1
    clear hby hw2
    go_wp2_with fail
    go_ret
    exact ⟨rfl, hB1⟩
  · rw [decide_eq_false hbd] at hby
    go_enter Tryz.func3, Tryz.ntmps3
    go_wp2_with fail
    refine (hby _).mono ?_
    rintro e w2 ⟨rfl, hw2⟩
    rw [hw2] at hB1
    have hs2 := hB1.size
    have E2 := Lib.hid (HE.out.up hB1)
    clear hby hw2
    go_wp2_with fail
    refine (parse_any B L w2 E2.out).mono ?_
    rintro e w3 ⟨hP, hB3⟩
    obtain ⟨va, rfl, hoa⟩ := hP.gen
    have hs3 := hB3.size
    have E3 := Lib.hid (E2.out.up hB3)
    clear hP
    go_wp2_with fail
    refine (parse_any B L w3 E3.out).mono ?_
    rintro e w4 ⟨hP, hB4⟩
    obtain ⟨vb, rfl, hob⟩ := hP.gen
    have hs4 := hB4.size
    clear hP
    go_wp2_with fail
    refine (rparse_any L w4 hz).mono ?_
    rintro e w5 ⟨hP, hB5⟩
    obtain ⟨vc, rfl, hoc⟩ := hP.gen
    have hs5 := hB5.size
    clear hP
    have hn := lstOf_len L
    obtain ⟨ls, hls⟩ : ∃ l, l = lstOf L := ⟨_, rfl⟩
    obtain ⟨co, hco⟩ : ∃ c, c = codeOf L := ⟨_, rfl⟩
    rw [← hls] at hoa hob hoc hn
    rw [← hco]
    obtain ⟨n, hnn⟩ : ∃ n, n = ls.length := ⟨_, rfl⟩
    rw [← hnn] at hoa hob hoc hn
    clear hls hco hnn
    obtain ⟨Aa, ca, rfl⟩ := own_slice hoa
    obtain ⟨Ab, cb, rfl⟩ := own_slice hob
    obtain ⟨Ac, cc, rfl⟩ := own_slice hoc
    have hB45 : Below w3.heap.size w3 w5 := hB4.trans (hB5.mono hs4)
    have ra := Reads.of_own (own_lo hoa (fun k hk => (hoa.lt k hk).2) hB45)
    have rb := Reads.of_own (own_lo hob (fun k hk => (hob.lt k hk).2) hB5)
    have rc := Reads.of_own hoc
    have HA := Lib.hid hoa
    have HB := Lib.hid hob
    have RA := Lib.hid ra
    have RB := Lib.hid rb
    have RC := Lib.hid rc
    clear hoa hob hoc ra rb rc
    go_wp2_with fail
    refine (sameRanges_any Aa Ac n ca cc w5.heap.size ls w5 RA.out RC.out (by omega)).mono ?_
    rintro e w6 ⟨rfl, m1, hw6⟩
    have hB6 : Below w5.heap.size w5 w6 := by rw [hw6]; exact below_drewN (Below.refl _ _) m1
    have RB6 := Lib.hid (show Reads w6 w5.heap.size 2 Ab n (rngv ls) by rw [hw6]; exact RB.out)
    have RC6 := Lib.hid (show Reads w6 w5.heap.size 2 Ac n (rngv ls) by rw [hw6]; exact RC.out)
    clear hw6
    go_wp2_with fail
    refine (sameRanges_any Ab Ac n cb cc w5.heap.size ls w6 RB6.out RC6.out (by omega)).mono ?_
    rintro e w7 ⟨rfl, m2, hw7⟩
    have hB7 : Below w5.heap.size w5 w7 := by rw [hw7]; exact below_drewN hB6 m2
    have hs7 := hB7.size
    clear hw7 hB6
    obtain ⟨wk, hwk⟩ : ∃ wk, wk = w7.alloc (.cells (bkCells 0 (.slice none 0 0)) 41) := ⟨_, rfl⟩
    obtain ⟨g, hg⟩ : ∃ g, g = w7.heap.size := ⟨_, rfl⟩
    have hkb : Blk wk g 41 (bkCells ((0 : Nat) : Int) (.slice none 0 0)) := by rw [hwk, hg]; exact Blk.new _ _ _
    have hks : wk.heap.size = g + 1 := by rw [hwk, hg]; simp
    have hBk : Below w5.heap.size w5 wk := by rw [hwk]; exact hB7.alloc hs7 _
    have hwk2 : wk = w7.alloc (.cells #[.int .i64 0, .slice none 0 0, .slice none 0 0, .slice none 0 0, .slice none 0 0, .slice none 0 0, .slice none 0 0, .slice none 0 0, .slice none 0 0, .slice none 0 0, .slice none 0 0, .slice none 0 0, .slice none 0 0] 41) := hwk
    have HWK := Lib.hid hwk2
    have HG := Lib.hid hg
    have hg5 : w5.heap.size ≤ g := by omega
    clear hwk hwk2 hg hB7
    go_wp2_with fail
    rw [← HWK.out, ← HG.out]
    refine (ranges_any (g + 1) g 0 0 (.slice none 0 0) Aa n ca [] wk hkb (World.ownsRow_nil _ _ _ _) (by omega) (by omega) (by omega) (by omega)).mono ?_
    rintro e w8 ⟨rfl, r8, hb8, ho8, hK8⟩
    have hs8 := hK8.size
    go_wp2_with fail
    refine (ranges_any (g + 1) g 1 1 r8 Ab n cb _ w8 hb8 ho8 (by omega) (by omega) (by omega) (by omega)).mono ?_
    rintro e w9 ⟨rfl, r9, hb9, ho9, hK9⟩
    have hB9 : Below w5.heap.size w5 w9 := (hBk.trans ((hK8.below (B := g) (Nat.le_refl _) (by omega)).mono hg5)).trans ((hK9.below (B := g) (Nat.le_refl _) (by omega)).mono hg5)
    have hB39 : Below w3.heap.size w3 w9 := hB45.trans (hB9.mono (by omega))
    have hB49 : Below w4.heap.size w4 w9 := hB5.trans (hB9.mono hs5)
    have hB09 : Below w.heap.size w w9 := below_then hB1 hs2 (below_then hB3 hs3 hB39)
    have hap : Apart2 g (.slice Aa n ca) (.slice Ab n cb) := ⟨fun k hk => by have := (HA.out.lt k hk).2; omega, fun k hk => by have := (HB.out.lt k hk).2; omega, fun k hk e => by have := (HA.out.lt k hk).2; have := own_ge HB.out k e; omega⟩
    have hT : Two2 w.heap.size g r9 (.slice Aa n ca) (.slice Ab n cb) n n (held1 (.slice Aa n ca) (.slice none 0 0) 1 ++ held1 (.slice Ab n cb) (.slice none 0 0) 2) (rngv ls) (rngv ls) w w9 :=
      ⟨hb9, ho9, ownsRow_mono (own_lo HA.out (fun k hk => (HA.out.lt k hk).2) hB39) (by omega), ownsRow_mono (own_lo HB.out (fun k hk => (HB.out.lt k hk).2) hB49) (by omega), hB09, hB09.size⟩
    have HT := Lib.hid hT
    clear hT hb8 ho8 hb9 ho9 hkb
    go_wp2_with fail
    refine (apart_two w.heap.size g n n ca cb r9 Aa Ab (rngv ls) (rngv ls) w w9 (by omega) (by omega) (by omega) hap HT.out).mono ?_
    rintro e w10 ⟨rfl, hB10⟩
    go_wp2_with fail
    go_ret
    exact ⟨rfl, hB10⟩
end Go.Proofs.YtgibhlpocmppjaaGreatDoor
