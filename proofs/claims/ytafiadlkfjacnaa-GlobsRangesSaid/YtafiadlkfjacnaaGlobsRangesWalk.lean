/-
  GlobsRanges: the law's walk.
-/
import Derived.Test.YtafiadlkfjacnaaGlobAlive
import Derived.Test.YtafiadlkfjacnaaGlobsStarsWalk
namespace Go.Proofs.Ytafiadlkfjacnaa
open Go.RowKit

theorem m_range (a b : UInt8) (s : List UInt8) (ha : a ≠ 33) (hb : b ≠ 93) : matchP [91, a, 45, b, 93] s = match s with | [c] => (decide (a ≤ c) && decide (c ≤ b)) != false | _ => false := by
  rw [matchP_of _ _ _ (by show 5 ≤ 4096; omega) (parse_range a b ha hb), gm_one]
  rfl
theorem m_nrange (a b : UInt8) (s : List UInt8) (hb : b ≠ 93) : matchP [91, 33, a, 45, b, 93] s = match s with | [c] => (decide (a ≤ c) && decide (c ≤ b)) != true | _ => false := by
  rw [matchP_of _ _ _ (by show 6 ≤ 4096; omega) (parse_nrange a b hb), gm_one]
  rfl
theorem bytes_reads (w : World) (l : List UInt8) (t : TypeId) (k : Nat) (hk : l.length = k) (cs : Array Value) (hc : cs = (bv l).toArray) : Reads (w.alloc (.cells cs t)) (w.alloc (.cells cs t)).heap.size 1 (some ⟨w.heap.size, 0, none⟩) k (bv l) :=
  ⟨by rw [bv_length, hk, Nat.mul_one], fun _ => ⟨_, rfl, by simp, fun j x hx => by
    rw [Addr.add_lit, Nat.zero_add]
    subst hc
    simpa using hx⟩⟩

set_option maxHeartbeats 2000000 in
set_option maxRecDepth 100000 in
theorem globsRanges_walk (a b c : UInt8) (w : World) :
    Calls Try.prog 9 #[.int .u8 (a.toNat : Int), .int .u8 (b.toNat : Int), .int .u8 (c.toNat : Int)] w fun e w' => e = .returned (.bool true) ∧ Below w.heap.size w w' := by
  by_cases h1 : a = 93
  · subst h1
    go_enter Try.func9, Try.ntmps9
    go_wp2_with fail
    refine (alive_any w).mono ?_
    rintro e w1 ⟨rfl, hB1⟩
    go_wp2_with fail
    refine (alive_any w1).mono ?_
    rintro e w2 ⟨rfl, hB2⟩
    go_wp2_with fail
    go_ret
    exact ⟨rfl, below_then hB1 hB1.size hB2⟩
  have q1 : ((a.toNat : Int) == 93) = false := u8_beq_lit (n := 93) (by omega) h1
  by_cases h2 : b = 93
  · subst h2
    go_enter Try.func9, Try.ntmps9
    go_wp2_with fail
    refine (alive_any w).mono ?_
    rintro e w1 ⟨rfl, hB1⟩
    go_wp2_with fail
    refine (alive_any w1).mono ?_
    rintro e w2 ⟨rfl, hB2⟩
    go_wp2_with fail
    go_ret
    exact ⟨rfl, below_then hB1 hB1.size hB2⟩
  have q2 : ((b.toNat : Int) == 93) = false := u8_beq_lit (n := 93) (by omega) h2
  by_cases h3 : a = 33
  · subst h3
    go_enter Try.func9, Try.ntmps9
    go_wp2_with fail
    refine (alive_any w).mono ?_
    rintro e w1 ⟨rfl, hB1⟩
    go_wp2_with fail
    refine (alive_any w1).mono ?_
    rintro e w2 ⟨rfl, hB2⟩
    go_wp2_with fail
    go_ret
    exact ⟨rfl, below_then hB1 hB1.size hB2⟩
  have q3 : ((a.toNat : Int) == 33) = false := u8_beq_lit (n := 33) (by omega) h3
  go_enter Try.func9, Try.ntmps9
  go_wp2_with fail
  refine (alive_any w).mono ?_
  rintro e w1 ⟨rfl, hB1⟩
  have hr1 := bytes_reads w1 [a, 45, b, 93] 5 4 rfl #[.int .u8 (a.toNat : Int), .int .u8 45, .int .u8 (b.toNat : Int), .int .u8 93] rfl
  have hr2 := bytes_reads (w1.alloc (.cells #[.int .u8 (a.toNat : Int), .int .u8 45, .int .u8 (b.toNat : Int), .int .u8 93] 5)) [c] 5 1 rfl #[.int .u8 (c.toNat : Int)] rfl
  rw [show (w1.alloc (.cells #[.int .u8 (a.toNat : Int), .int .u8 45, .int .u8 (b.toNat : Int), .int .u8 93] 5)).heap.size = w1.heap.size + 1 from by simp] at hr2
  have HR1 := Lib.hid hr1
  have HR2 := Lib.hid hr2
  clear hr1 hr2
  have hca := a.toNat_lt
  have hcb := b.toNat_lt
  have hcc := c.toNat_lt
  by_cases g1 : a.toNat ≤ c.toNat
  · have G1 : decide (a ≤ c) = true := by simp [UInt8.le_iff_toNat_le, g1]
    by_cases g2 : c.toNat ≤ b.toNat
    · have G2 : decide (c ≤ b) = true := by simp [UInt8.le_iff_toNat_le, g2]
      have HG1 := Lib.hid G1
      have HG2 := Lib.hid G2
      clear G1 G2
      go_wp2_with (first
        | (refine wpList_string_of_bytes _ rfl (.tmp 27) 29 9 5 rfl Try.underlying29 Try.underlying5 Try.underlying9 _ _ _ _ [a, 45, b, 93] rfl HR1.out ?_)
        | (refine wpList_string_of_bytes _ rfl (.tmp 30) 29 9 5 rfl Try.underlying29 Try.underlying5 Try.underlying9 _ _ _ _ [c] rfl HR2.out ?_))
      all_goals
        rw [show ({ data := #[91] } : ByteArray) ++ { data := #[a, 45, b, 93] } = str [91, a, 45, b, 93] from str_append [91] [a, 45, b, 93]]
        refine (match_any [91, a, 45, b, 93] [c] _ (by show 5 ≤ 2097152; omega) (by show 1 ≤ 2097152; omega)).mono ?_
        rintro e w2 ⟨rfl, hB2⟩
        rw [m_range a b [c] h3 h2]
        simp only [HG1.out, HG2.out, Bool.and_true, Bool.and_false, Bool.true_and, Bool.false_and, Bool.bne_false, Bool.bne_true]
        go_wp2_with fail
        rw [show ({ data := #[91, 33] } : ByteArray) ++ { data := #[a, 45, b, 93] } = str [91, 33, a, 45, b, 93] from str_append [91, 33] [a, 45, b, 93]]
        refine (match_any [91, 33, a, 45, b, 93] [c] w2 (by show 6 ≤ 2097152; omega) (by show 1 ≤ 2097152; omega)).mono ?_
        rintro e w3 ⟨rfl, hB3⟩
        rw [m_nrange a b [c] h2]
        simp only [HG1.out, HG2.out, Bool.and_true, Bool.and_false, Bool.true_and, Bool.false_and, Bool.bne_false, Bool.bne_true]
        go_wp2_with fail
        rw [show ({ data := #[91] } : ByteArray) ++ { data := #[a, 45, b, 93] } = str [91, a, 45, b, 93] from str_append [91] [a, 45, b, 93]]
        refine (match_any [91, a, 45, b, 93] [] w3 (by show 5 ≤ 2097152; omega) (by show 0 ≤ 2097152; omega)).mono ?_
        rintro e w4 ⟨rfl, hB4⟩
        rw [m_range a b [] h3 h2]
        dsimp only
        go_wp2_with fail
        rw [show ({ data := #[91] } : ByteArray) ++ { data := #[a, 45, b, 93] } = str [91, a, 45, b, 93] from str_append [91] [a, 45, b, 93], show ({ data := #[c] } : ByteArray) ++ { data := #[c] } = str [c, c] from str_append [c] [c]]
        refine (match_any [91, a, 45, b, 93] [c, c] w4 (by show 5 ≤ 2097152; omega) (by show 2 ≤ 2097152; omega)).mono ?_
        rintro e w5 ⟨rfl, hB5⟩
        rw [m_range a b [c, c] h3 h2]
        dsimp only
        go_wp2_with fail
        go_ret
        have h01 : Below w.heap.size w _ := (hB1.alloc hB1.size (.cells #[.int .u8 (a.toNat : Int), .int .u8 45, .int .u8 (b.toNat : Int), .int .u8 93] 5)).alloc (by have := hB1.size; simp; omega) (.cells #[.int .u8 (c.toNat : Int)] 5)
        have h12 := below_then h01 h01.size hB2
        have h13 := below_then h12 h12.size hB3
        have h14 := below_then h13 h13.size hB4
        exact ⟨rfl, below_then h14 h14.size hB5⟩
    · have G2 : decide (c ≤ b) = false := by simp [UInt8.le_iff_toNat_le]; omega
      have HG1 := Lib.hid G1
      have HG2 := Lib.hid G2
      clear G1 G2
      go_wp2_with (first
        | (refine wpList_string_of_bytes _ rfl (.tmp 27) 29 9 5 rfl Try.underlying29 Try.underlying5 Try.underlying9 _ _ _ _ [a, 45, b, 93] rfl HR1.out ?_)
        | (refine wpList_string_of_bytes _ rfl (.tmp 30) 29 9 5 rfl Try.underlying29 Try.underlying5 Try.underlying9 _ _ _ _ [c] rfl HR2.out ?_))
      all_goals
        rw [show ({ data := #[91] } : ByteArray) ++ { data := #[a, 45, b, 93] } = str [91, a, 45, b, 93] from str_append [91] [a, 45, b, 93]]
        refine (match_any [91, a, 45, b, 93] [c] _ (by show 5 ≤ 2097152; omega) (by show 1 ≤ 2097152; omega)).mono ?_
        rintro e w2 ⟨rfl, hB2⟩
        rw [m_range a b [c] h3 h2]
        simp only [HG1.out, HG2.out, Bool.and_true, Bool.and_false, Bool.true_and, Bool.false_and, Bool.bne_false, Bool.bne_true]
        go_wp2_with fail
        rw [show ({ data := #[91, 33] } : ByteArray) ++ { data := #[a, 45, b, 93] } = str [91, 33, a, 45, b, 93] from str_append [91, 33] [a, 45, b, 93]]
        refine (match_any [91, 33, a, 45, b, 93] [c] w2 (by show 6 ≤ 2097152; omega) (by show 1 ≤ 2097152; omega)).mono ?_
        rintro e w3 ⟨rfl, hB3⟩
        rw [m_nrange a b [c] h2]
        simp only [HG1.out, HG2.out, Bool.and_true, Bool.and_false, Bool.true_and, Bool.false_and, Bool.bne_false, Bool.bne_true]
        go_wp2_with fail
        rw [show ({ data := #[91] } : ByteArray) ++ { data := #[a, 45, b, 93] } = str [91, a, 45, b, 93] from str_append [91] [a, 45, b, 93]]
        refine (match_any [91, a, 45, b, 93] [] w3 (by show 5 ≤ 2097152; omega) (by show 0 ≤ 2097152; omega)).mono ?_
        rintro e w4 ⟨rfl, hB4⟩
        rw [m_range a b [] h3 h2]
        dsimp only
        go_wp2_with fail
        rw [show ({ data := #[91] } : ByteArray) ++ { data := #[a, 45, b, 93] } = str [91, a, 45, b, 93] from str_append [91] [a, 45, b, 93], show ({ data := #[c] } : ByteArray) ++ { data := #[c] } = str [c, c] from str_append [c] [c]]
        refine (match_any [91, a, 45, b, 93] [c, c] w4 (by show 5 ≤ 2097152; omega) (by show 2 ≤ 2097152; omega)).mono ?_
        rintro e w5 ⟨rfl, hB5⟩
        rw [m_range a b [c, c] h3 h2]
        dsimp only
        go_wp2_with fail
        go_ret
        have h01 : Below w.heap.size w _ := (hB1.alloc hB1.size (.cells #[.int .u8 (a.toNat : Int), .int .u8 45, .int .u8 (b.toNat : Int), .int .u8 93] 5)).alloc (by have := hB1.size; simp; omega) (.cells #[.int .u8 (c.toNat : Int)] 5)
        have h12 := below_then h01 h01.size hB2
        have h13 := below_then h12 h12.size hB3
        have h14 := below_then h13 h13.size hB4
        exact ⟨rfl, below_then h14 h14.size hB5⟩
  · have G1 : decide (a ≤ c) = false := by simp [UInt8.le_iff_toNat_le]; omega
    obtain ⟨z, G2⟩ : ∃ z, decide (c ≤ b) = z := ⟨_, rfl⟩
    have HG1 := Lib.hid G1
    have HG2 := Lib.hid G2
    clear G1 G2
    go_wp2_with (first
      | (refine wpList_string_of_bytes _ rfl (.tmp 27) 29 9 5 rfl Try.underlying29 Try.underlying5 Try.underlying9 _ _ _ _ [a, 45, b, 93] rfl HR1.out ?_)
      | (refine wpList_string_of_bytes _ rfl (.tmp 30) 29 9 5 rfl Try.underlying29 Try.underlying5 Try.underlying9 _ _ _ _ [c] rfl HR2.out ?_))
    all_goals
      rw [show ({ data := #[91] } : ByteArray) ++ { data := #[a, 45, b, 93] } = str [91, a, 45, b, 93] from str_append [91] [a, 45, b, 93]]
      refine (match_any [91, a, 45, b, 93] [c] _ (by show 5 ≤ 2097152; omega) (by show 1 ≤ 2097152; omega)).mono ?_
      rintro e w2 ⟨rfl, hB2⟩
      rw [m_range a b [c] h3 h2]
      simp only [HG1.out, HG2.out, Bool.and_true, Bool.and_false, Bool.true_and, Bool.false_and, Bool.bne_false, Bool.bne_true]
      go_wp2_with fail
      rw [show ({ data := #[91, 33] } : ByteArray) ++ { data := #[a, 45, b, 93] } = str [91, 33, a, 45, b, 93] from str_append [91, 33] [a, 45, b, 93]]
      refine (match_any [91, 33, a, 45, b, 93] [c] w2 (by show 6 ≤ 2097152; omega) (by show 1 ≤ 2097152; omega)).mono ?_
      rintro e w3 ⟨rfl, hB3⟩
      rw [m_nrange a b [c] h2]
      simp only [HG1.out, HG2.out, Bool.and_true, Bool.and_false, Bool.true_and, Bool.false_and, Bool.bne_false, Bool.bne_true]
      go_wp2_with fail
      rw [show ({ data := #[91] } : ByteArray) ++ { data := #[a, 45, b, 93] } = str [91, a, 45, b, 93] from str_append [91] [a, 45, b, 93]]
      refine (match_any [91, a, 45, b, 93] [] w3 (by show 5 ≤ 2097152; omega) (by show 0 ≤ 2097152; omega)).mono ?_
      rintro e w4 ⟨rfl, hB4⟩
      rw [m_range a b [] h3 h2]
      dsimp only
      go_wp2_with fail
      rw [show ({ data := #[91] } : ByteArray) ++ { data := #[a, 45, b, 93] } = str [91, a, 45, b, 93] from str_append [91] [a, 45, b, 93], show ({ data := #[c] } : ByteArray) ++ { data := #[c] } = str [c, c] from str_append [c] [c]]
      refine (match_any [91, a, 45, b, 93] [c, c] w4 (by show 5 ≤ 2097152; omega) (by show 2 ≤ 2097152; omega)).mono ?_
      rintro e w5 ⟨rfl, hB5⟩
      rw [m_range a b [c, c] h3 h2]
      dsimp only
      go_wp2_with fail
      go_ret
      have h01 : Below w.heap.size w _ := (hB1.alloc hB1.size (.cells #[.int .u8 (a.toNat : Int), .int .u8 45, .int .u8 (b.toNat : Int), .int .u8 93] 5)).alloc (by have := hB1.size; simp; omega) (.cells #[.int .u8 (c.toNat : Int)] 5)
      have h12 := below_then h01 h01.size hB2
      have h13 := below_then h12 h12.size hB3
      have h14 := below_then h13 h13.size hB4
      exact ⟨rfl, below_then h14 h14.size hB5⟩
end Go.Proofs.Ytafiadlkfjacnaa
