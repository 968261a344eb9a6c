/-
  globs.Quote and toolchestref09.Quote: contracts.
-/
import Derived.Test.YtafiadlkfjacnaaBuilder
import Derived.Test.YtafiadlkfjacnaaShelf
namespace Go.Proofs.Ytafiadlkfjacnaa
open Go.RowKit

def isSign (c : UInt8) : Bool := c == 42 || c == 63 || c == 91 || c == 92
def quote1 (c : UInt8) : List UInt8 := if isSign c then [92, c] else [c]
def quoteL (l : List UInt8) : List UInt8 := l.flatMap quote1
theorem quoteL_snoc (l : List UInt8) (k : Nat) (h : k < l.length) : quoteL (l.take (k + 1)) = quoteL (l.take k) ++ quote1 l[k] := by
  unfold quoteL
  rw [List.take_succ_eq_append_getElem h, List.flatMap_append]; simp
theorem quoteL_len (l : List UInt8) : (quoteL l).length ≤ 2 * l.length := by
  induction l with
  | nil => simp [quoteL]
  | cons c l ih =>
    have e : quoteL (c :: l) = quote1 c ++ quoteL l := by simp [quoteL]
    rw [e, List.length_append, List.length_cons]
    have : (quote1 c).length ≤ 2 := by unfold quote1; split <;> simp
    omega
theorem sign_index (c : UInt8) : (isSign c = true → 0 ≤ Lib.indexByte [42, 63, 91, 92] c) ∧ (isSign c = false → Lib.indexByte [42, 63, 91, 92] c = -1) := by
  have h : ∀ c : UInt8, (isSign c = true → 0 ≤ Lib.indexByte [42, 63, 91, 92] c) ∧ (isSign c = false → Lib.indexByte [42, 63, 91, 92] c = -1) := by
    intro c
    unfold isSign
    simp only [Lib.indexByte]
    by_cases h1 : c = 42
    · subst h1; simp
    · by_cases h2 : c = 63
      · subst h2; simp
      · by_cases h3 : c = 91
        · subst h3; simp
        · by_cases h4 : c = 92
          · subst h4; simp
          · have e1 : ¬ (42 : UInt8) = c := fun e => h1 e.symm
            have e2 : ¬ (63 : UInt8) = c := fun e => h2 e.symm
            have e3 : ¬ (91 : UInt8) = c := fun e => h3 e.symm
            have e4 : ¬ (92 : UInt8) = c := fun e => h4 e.symm
            simp [h1, h2, h3, h4, e1, e2, e3, e4]
  exact h c
theorem index_any (l : List UInt8) (c : UInt8) (w : World) :
    Calls Try.prog 19 #[.string ⟨l.toArray⟩, .int .u8 (c.toNat : Int)] w fun e w' => e = .returned (.int .i64 (Lib.indexByte l c)) ∧ w = w' := by
  refine (Go.Proofs.Try.strings_IndexByte ⟨l.toArray⟩ (c.toNat : Int) w).mono fun e w' h => ⟨?_, h.2.symm⟩
  rw [h.1]
  have e1 : ((c.toNat : Int)).toNat.toUInt8 = c := by simp
  rw [e1]

set_option maxRecDepth 100000 in
set_option maxHeartbeats 1000000 in
theorem quote_any (s : ByteArray) (w : World) (hs : s.size ≤ 2097152) :
    Calls Try.prog 12 #[.string s] w fun e w' => e = .returned (.string ⟨(quoteL s.data.toList).toArray⟩) ∧ Below w.heap.size w w' := by
  obtain ⟨i0, hi0, hz0, hz1, hz2⟩ := info_parts infoBuilder
  obtain ⟨L, hL⟩ : ∃ L, L = s.data.toList := ⟨_, rfl⟩
  have hLl : L.length = s.size := by rw [hL]; simp
  have HL := Lib.hid hL
  have HLl := Lib.hid hLl
  clear hLl
  go_enter Try.func12, Try.ntmps12
  go_wp2_with (first
    | (refine wpList_alloc_any _ rfl 34 rfl i0 _ hi0 hz0 ?_)
    | (refine wpList_bytes_of_string _ rfl (.tmp 6) 9 29 5 rfl Try.underlying9 Try.underlying29 Try.underlying5 s rfl ?_; intro cap w3 hcap hb3 hB3 hsz3))
  have hB0 : Below w.heap.size w (w.alloc (.cells #[.pointer none, .slice none 0 0] 34)) := (Below.refl _ _).alloc (Nat.le_refl _) _
  have hsa : (w.alloc (.cells #[.pointer none, .slice none 0 0] 34)).heap.size = w.heap.size + 1 := by simp
  have hbd0 : IsBd (w.heap.size + 2) w.heap.size [] w3 := (IsBd.new w (w.heap.size + 2) (by omega)).below hB3 rfl
  have hbuf : Buf w3 (w.heap.size + 1) s.size (fun j => .int .u8 ((L.getD j 0).toNat : Int)) := by rw [HL.out, ← hsa]; exact hb3
  have hW3 : w.heap.size + 2 ≤ w3.heap.size := by omega
  have hBel : Below w.heap.size w w3 := below_then hB0 (by rw [hsa]; omega) hB3
  clear hB3 hb3 hB0 hsa hsz3 hL
  go_loopw [9] (fun i wr => ∃ k : Nat, k ≤ s.size ∧ i = .int .i64 k ∧ IsBd (w.heap.size + 2) w.heap.size (quoteL (L.take k)) wr ∧ KeptX (w.heap.size + 2) w.heap.size w3 wr) (fun i _ => s.size - (intOf i).toNat)
  case atStart => exact ⟨0, Nat.zero_le _, rfl, by simpa [quoteL] using hbd0, KeptX.refl _ _ _⟩
  case round =>
    obtain ⟨k, hk, rfl, hbd, hkx⟩ := hrel
    have hszr := hkx.size
    have hql := quoteL_len (L.take k)
    have htl : (L.take k).length ≤ k := List.length_take_le _ _
    by_cases hlt : k < s.size
    · have hkl : k < L.length := by rw [HLl.out]; exact hlt
      have hc := (hbuf.keptX hkx (by omega) (by omega)).cell hlt
      have hLk : L.getD k 0 = L[k] := by rw [List.getD_eq_getElem?_getD, List.getElem?_eq_getElem hkl]; rfl
      rw [hLk] at hc
      have Hsn := Lib.hid (quoteL_snoc L k hkl)
      obtain ⟨x, hx⟩ : ∃ x, x = L[k] := ⟨_, rfl⟩
      rw [← hx] at hc Hsn
      clear hx hLk
      obtain ⟨hyes, hno⟩ := sign_index x
      cases hsg : isSign x with
      | true =>
        have hi := hyes hsg
        have Hq := Lib.hid (show quote1 x = [92, x] from if_pos hsg)
        clear hyes hno hsg
        go_wp2_with (go_at_call 19; refine (index_any [42, 63, 91, 92] x _).mono ?_; rintro e w' ⟨rfl, rfl⟩)
        refine (writeByte_any _ _ _ 92 _ hbd (by omega) (by omega)).mono ?_
        rintro e w4 ⟨rfl, hbd4, hkx4⟩
        have hsz4 := hkx4.size
        go_wp2_with fail
        refine (writeByte_any _ _ _ x _ hbd4 (by rw [List.length_append]; simp; omega) (by omega)).mono ?_
        rintro e w5 ⟨rfl, hbd5, hkx5⟩
        go_wp2_with fail
        go_roundw
        case rel => exact ⟨k + 1, by omega, by go_num, by rw [Hsn.out, Hq.out]; simpa using hbd5, (hkx.trans hkx4).trans hkx5⟩
        case measure => simp [intOf]; omega
      | false =>
        have hi := hno hsg
        have Hq := Lib.hid (show quote1 x = [x] from if_neg (by rw [hsg]; decide))
        clear hyes hno hsg
        go_wp2_with (go_at_call 19; refine (index_any [42, 63, 91, 92] x _).mono ?_; rintro e w' ⟨rfl, rfl⟩)
        refine (writeByte_any _ _ _ x _ hbd (by omega) (by omega)).mono ?_
        rintro e w5 ⟨rfl, hbd5, hkx5⟩
        go_wp2_with fail
        go_roundw
        case rel => exact ⟨k + 1, by omega, by go_num, by rw [Hsn.out, Hq.out]; exact hbd5, hkx.trans hkx5⟩
        case measure => simp [intOf]; omega
    · obtain rfl : k = s.size := by omega
      rw [List.take_of_length_le (by rw [HLl.out]; exact Nat.le_refl _)] at hbd
      go_wp2_with fail
      refine (Go.Proofs.Try.Builder_String_any w.heap.size w.heap.size (quoteL L) wr hbd.lib (by omega)).mono ?_
      rintro e w5 ⟨rfl, hB5⟩
      go_wp2_with fail
      go_ret
      refine ⟨ret_str (by rw [HL.out]), ?_⟩
      exact (hBel.trans (hkx.below (Nat.le_refl _) (by omega))).trans hB5

theorem u8_beq_lit {x : UInt8} {n : Nat} (hn : n < 256) (h : ¬ x = UInt8.ofNat n) : (((x.toNat : Nat) : Int) == (n : Int)) = false := by
  simp only [beq_eq_false_iff_ne]
  intro e
  exact h (UInt8.toNat_inj.1 (by simp; omega))
theorem u8_beq_lit' {x : UInt8} {n : Nat} (hn : n < 256) (h : x = UInt8.ofNat n) : (((x.toNat : Nat) : Int) == (n : Int)) = true := by
  subst h
  simp
  omega

set_option maxRecDepth 100000 in
set_option maxHeartbeats 1000000 in
theorem refQuote_any (s : ByteArray) (w : World) (hs : s.size ≤ 2097152) :
    Calls Try.prog 13 #[.string s] w fun e w' => e = .returned (.string ⟨(quoteL s.data.toList).toArray⟩) ∧ Below w.heap.size w w' := by
  obtain ⟨i1, hi1, hy0, hy1, hy2⟩ := info_parts infoU8
  obtain ⟨L, hL⟩ : ∃ L, L = s.data.toList := ⟨_, rfl⟩
  have hLl : L.length = s.size := by rw [hL]; simp
  have hLk : ∀ k (h : k < L.length) (h2 : k < s.size), L[k] = s[k] := fun k h h2 => by simp only [hL]; rfl
  have HL := Lib.hid hL
  have HLl := Lib.hid hLl
  have HLk := Lib.hid hLk
  clear hLl hL hLk
  go_enter Try.func13, Try.ntmps13
  go_wp2
  go_loopw [3, 4] (fun v i wr => ∃ k : Nat, k ≤ s.size ∧ i = .int .i64 k ∧ wr.ownsRow w.heap.size 5 1 v (quoteL (L.take k)).length (bv (quoteL (L.take k))) ∧ Below w.heap.size w wr) (fun _ i _ => s.size - (intOf i).toNat)
  case atStart => exact ⟨0, Nat.zero_le _, rfl, World.ownsRow_nil _ _ _ _, Below.refl _ _⟩
  case round =>
    obtain ⟨k, hk, rfl, hown, hB⟩ := hrel
    have hql := quoteL_len (L.take k)
    have htl : (L.take k).length ≤ k := List.length_take_le _ _
    have hbs := hB.size
    by_cases hlt : k < s.size
    · have hkl : k < L.length := by rw [HLl.out]; exact hlt
      have Hsn := Lib.hid (quoteL_snoc L k hkl)
      rw [HLk.out k hkl hlt] at Hsn
      obtain ⟨n, hn⟩ : ∃ n, n = (quoteL (L.take k)).length := ⟨_, rfl⟩
      rw [← hn] at hown hql
      have Hn := Lib.hid hn
      clear hn
      cases hsg : isSign s[k] with
      | true =>
        have Hq := Lib.hid (show quote1 s[k] = [92, s[k]] from if_pos hsg)
        have h4 : s[k] = 42 ∨ s[k] = 63 ∨ s[k] = 91 ∨ s[k] = 92 := by simpa [isSign, or_assoc] using hsg
        have q : ((((s[k]).toNat : Nat) : Int) == 42) = true ∨ (((((s[k]).toNat : Nat) : Int) == 42) = false ∧ ((((s[k]).toNat : Nat) : Int) == 63) = true) ∨
            (((((s[k]).toNat : Nat) : Int) == 42) = false ∧ ((((s[k]).toNat : Nat) : Int) == 63) = false ∧ ((((s[k]).toNat : Nat) : Int) == 91) = true) ∨
            (((((s[k]).toNat : Nat) : Int) == 42) = false ∧ ((((s[k]).toNat : Nat) : Int) == 63) = false ∧ ((((s[k]).toNat : Nat) : Int) == 91) = false ∧ ((((s[k]).toNat : Nat) : Int) == 92) = true) := by
          rcases h4 with h | h | h | h <;> rw [h] <;> decide
        clear h4 hsg
        rcases q with q1 | ⟨q1, q2⟩ | ⟨q1, q2, q3⟩ | ⟨q1, q2, q3, q4⟩
        all_goals
          go_wp2_with (first
            | (at_builtin; refine wpList_append_own _ rfl (.tmp 19) (.tmp 20) 29 rfl w.heap.size 5 i1 (.int .u8 0) 1 1 Try.underlying29 hi1 hy0 hy1 hy2 rfl (by decide) _ _ _ rfl (hown.alloc _) ⟨wr.heap.size, 0, none⟩ 1 1 [.int .u8 92] rfl rfl (cell_one_new _ _ _) (by intro u hu; simp at hu; subst hu; rfl) (by unfold maxLen; omega) (by omega) (by simp; omega) ?_; intro v2 w3 hown2 hg2 _)
            | (at_builtin; refine wpList_append_own _ rfl (.tmp 22) (.tmp 26) 29 rfl w.heap.size 5 i1 (.int .u8 0) 1 1 Try.underlying29 hi1 hy0 hy1 hy2 rfl (by decide) _ _ _ rfl (hown2.alloc _) ⟨w3.heap.size, 0, none⟩ 1 1 [.int .u8 ((s[k]).toNat : Int)] rfl rfl (cell_one_new _ _ _) (by intro u hu; simp at hu; subst hu; rfl) (by unfold maxLen; omega) (by omega) (by have := hg2.size; simp at this; simp; omega) ?_; intro v3 w4 hown3 hg3 _))
          have hsz3 := hg2.size
          simp at hsz3
          have hB3 := (hB.alloc hB.size _).grown hg2 (by simp; omega) (own_ge hown)
          have hB4 := (hB3.alloc hB3.size _).grown hg3 (by simp; omega) (own_ge hown2)
          go_roundw
          case rel => exact ⟨k + 1, by omega, by go_num, by rw [Hsn.out, Hq.out, List.length_append, ← Hn.out]; simpa [bv] using hown3, hB4⟩
          case measure => simp [intOf]; omega
      | false =>
        have Hq := Lib.hid (show quote1 s[k] = [s[k]] from if_neg (by rw [hsg]; decide))
        have h4 : ¬ s[k] = 42 ∧ ¬ s[k] = 63 ∧ ¬ s[k] = 91 ∧ ¬ s[k] = 92 := by
          have := hsg
          simp [isSign] at this
          obtain ⟨⟨⟨a, b⟩, c⟩, d⟩ := this
          exact ⟨a, b, c, d⟩
        obtain ⟨h1, h2, h3, h4⟩ := h4
        have q1 := u8_beq_lit (n := 42) (by omega) h1
        have q2 := u8_beq_lit (n := 63) (by omega) h2
        have q3 := u8_beq_lit (n := 91) (by omega) h3
        have q4 := u8_beq_lit (n := 92) (by omega) h4
        clear h1 h2 h3 h4 hsg
        simp only [Int.cast_ofNat_Int] at q1 q2 q3 q4
        go_wp2_with (at_builtin; refine wpList_append_own _ rfl (.tmp 22) (.tmp 26) 29 rfl w.heap.size 5 i1 (.int .u8 0) 1 1 Try.underlying29 hi1 hy0 hy1 hy2 rfl (by decide) _ _ _ rfl (hown.alloc _) ⟨wr.heap.size, 0, none⟩ 1 1 [.int .u8 ((s[k]).toNat : Int)] rfl rfl (cell_one_new _ _ _) (by intro u hu; simp at hu; subst hu; rfl) (by unfold maxLen; omega) (by omega) (by simp; omega) ?_; intro v3 w4 hown3 hg3 _)
        have hB4 := (hB.alloc hB.size _).grown hg3 (by simp; omega) (own_ge hown)
        go_roundw
        case rel => exact ⟨k + 1, by omega, by go_num, by rw [Hsn.out, Hq.out, List.length_append, ← Hn.out]; simpa [bv] using hown3, hB4⟩
        case measure => simp [intOf]; omega
    · obtain rfl : k = s.size := by omega
      rw [List.take_of_length_le (by rw [HLl.out]; exact Nat.le_refl _)] at hown
      obtain ⟨A3, c3, rfl⟩ := own_slice hown
      have hrd := Reads.of_own hown
      go_wp2_with (refine wpList_string_of_bytes _ rfl (.tmp 28) 29 9 5 rfl Try.underlying29 Try.underlying5 Try.underlying9 _ _ _ _ (quoteL L) rfl hrd ?_)
      go_ret
      exact ⟨ret_str (by rw [HL.out]), hB⟩
end Go.Proofs.Ytafiadlkfjacnaa
