/-
  Lists of flags: how they read; toolchestlaw01's FlagsSize, TwinFlags, LeftFlags; opts.Has, toolchestref01's Has and Last: contracts.
-/
import Derived.Test.YtgjpongoenebaaaBase
import Derived.Test.YtgjpongoenebaaaChecked
namespace Go.Proofs.Ytgjpongoenebaaa
open Go.RowKit

abbrev Flag2 := UInt8 × ByteArray
def fl1 (x : Flag2) : List Value := [.int .u8 (x.1.toNat : Int), .string x.2]
def fv (l : List Flag2) : List Value := l.flatMap fl1
theorem fv_length (l : List Flag2) : (fv l).length = l.length * 2 := by
  induction l with
  | nil => rfl
  | cons x l ih => simp only [fv, List.flatMap_cons, List.length_append] at ih ⊢; rw [ih]; simp [fl1]; omega
theorem fv_append (l m : List Flag2) : fv (l ++ m) = fv l ++ fv m := by simp [fv]
theorem fv_get0 (l : List Flag2) : ∀ (k : Nat) (h : k < l.length), (fv l)[k * 2]? = some (.int .u8 ((l[k]).1.toNat : Int)) := by
  induction l with
  | nil => intro k h; simp at h
  | cons x l ih =>
    intro k h
    have e : fv (x :: l) = fl1 x ++ fv l := by simp [fv]
    rw [e]
    cases k with
    | zero => rfl
    | succ k =>
      rw [List.getElem?_append_right (by simp [fl1]; omega)]
      have := ih k (by simpa using h)
      rw [show (k + 1) * 2 - (fl1 x).length = k * 2 from by simp [fl1]; omega, this]
      rfl
theorem fv_get1 (l : List Flag2) : ∀ (k : Nat) (h : k < l.length), (fv l)[k * 2 + 1]? = some (.string (l[k]).2) := by
  induction l with
  | nil => intro k h; simp at h
  | cons x l ih =>
    intro k h
    have e : fv (x :: l) = fl1 x ++ fv l := by simp [fv]
    rw [e]
    cases k with
    | zero => rfl
    | succ k =>
      rw [List.getElem?_append_right (by simp [fl1]; omega)]
      have := ih k (by simpa using h)
      rw [show (k + 1) * 2 + 1 - (fl1 x).length = k * 2 + 1 from by simp [fl1]; omega, this]
      rfl
theorem fv_snoc (l : List Flag2) (k : Nat) (h : k < l.length) : fv (l.take (k + 1)) = fv (l.take k) ++ [.int .u8 ((l[k]).1.toNat : Int), .string (l[k]).2] := by
  rw [List.take_succ_eq_append_getElem h, fv_append]; rfl
/-- The two cells of a flag of a list. -/
theorem Reads.flag {w : World} {B n k : Nat} {A : Option Addr} {l : List Flag2} (h : Reads w B 2 A n (fv l)) (hk : k < n) (hl : l.length = n) :
    ∃ ad, A = some ad ∧ ad.block < B ∧ w.cell? (ad.add (k * 2)) = some (.int .u8 ((l[k]).1.toNat : Int)) ∧ w.cell? ⟨(ad.add (k * 2)).block, (ad.add (k * 2)).off + 1, none⟩ = some (.string (l[k]).2) := by
  obtain ⟨ad, e, hb, hc⟩ := h.2 (by omega)
  refine ⟨ad, e, hb, hc _ _ (fv_get0 l k (by omega)), ?_⟩
  rw [show (⟨(ad.add (k * 2)).block, (ad.add (k * 2)).off + 1, none⟩ : Addr) = (ad.add (k * 2)).add 1 from rfl, add_of_add]
  exact hc _ _ (fv_get1 l k (by omega))

def fsize (l : List Flag2) : Nat := l.length + (l.map fun x => x.2.size).sum
/-- What FlagsSize answers: it stops once it is beyond. -/
theorem infoFlag : (Try.prog.info? 33).map (fun i => (i.zero, i.size, i.bytes)) = some (some (.agg #[.int .u8 0, .string ⟨#[]⟩]), 2, 24) := by kernel_rfl

set_option maxHeartbeats 400000 in
theorem flagsSize_any (A : Option Addr) (n c B : Nat) (l : List Flag2) (w : World) (hr : Reads w B 2 A n (fv l)) (hn : n ≤ 140737488351232) (hs : ∀ k (h : k < l.length), (l[k]).2.size ≤ 140737488351232) :
    Calls Try.prog 5 #[.slice A n c] w fun e w' => (∃ z : Nat, e = .returned (.int .i64 z) ∧ z ≤ 281474976710656 ∧ (z ≤ 1048576 → n ≤ 1048576 ∧ ∀ k (h : k < l.length), (l[k]).2.size ≤ 1048576)) ∧ w = w' := by
  have hl : l.length = n := by have := hr.1; rw [fv_length] at this; omega
  have HL := Lib.hid hl
  clear hl
  have HS := Lib.hid hs
  clear hs
  go_enter Try.func5, Try.ntmps5
  go_wp2
  go_loop [3, 4] (fun s i => ∃ k z : Nat, k ≤ n ∧ i = .int .i64 k ∧ s = .int .i64 z ∧ z ≤ 140737489399808 ∧ n ≤ z ∧ ∀ j (h : j < l.length), j < k → (l[j]).2.size ≤ z) (fun _ i => n - (intOf i).toNat)
  case atStart => exact ⟨0, n, Nat.zero_le _, rfl, rfl, by omega, Nat.le_refl _, fun j _ h => by omega⟩
  case round =>
    obtain ⟨k, z, hk, rfl, rfl, hz, hnz, hj⟩ := hrel
    have Hj := Lib.hid hj
    clear hj
    by_cases hlt : k < n
    · by_cases hz2 : z ≤ 1048576
      · obtain ⟨ad, rfl, had, hc0, hc1⟩ := hr.flag hlt HL.out
        have hkl : k < l.length := by rw [HL.out]; exact hlt
        have hx := HS.out k hkl
        go_wp2
        go_round
        case rel =>
          refine ⟨k + 1, z + (l[k]).2.size, by omega, by go_num, by go_num, by omega, by omega, fun j hj hjk => ?_⟩
          rcases Nat.lt_succ_iff_lt_or_eq.1 hjk with h | h
          · have := Hj.out j hj h; omega
          · subst h; omega
        case measure => simp [intOf]; omega
      · go_wp2
        go_ret
        exact ⟨⟨z, rfl, by omega, fun h => absurd h hz2⟩, rfl⟩
    · go_wp2
      go_ret
      refine ⟨⟨z, rfl, by omega, fun h => ⟨by omega, fun j hj => ?_⟩⟩, rfl⟩
      have := Hj.out j hj (by rw [HL.out] at hj; omega)
      omega

theorem cells_new (w : World) (cs : Array Value) (t : TypeId) : ∀ j u, cs.toList[j]? = some u → (w.alloc (.cells cs t)).cell? ((⟨w.heap.size, 0, none⟩ : Addr).add j) = some u := by
  intro j u hu
  rw [Addr.add_lit, Nat.zero_add, World.cell?, show (w.alloc (.cells cs t)).heap[w.heap.size]? = _ from heap_alloc_new w _]
  simpa using hu
theorem fl1_one (x : Flag2) : ∀ u ∈ fl1 x, u.oneCell' = true := by
  intro u hu
  simp [fl1] at hu
  rcases hu with rfl | rfl <;> rfl
def spareF : List Value := [.int .u8 0, .string ⟨#[115, 112, 97, 114, 101]⟩]

set_option maxHeartbeats 400000 in
theorem twinFlags_any (A : Option Addr) (n c : Nat) (l : List Flag2) (w : World) (hr : Reads w w.heap.size 2 A n (fv l)) (hn : n ≤ 2097152) :
    Calls Try.prog 6 #[.slice A n c] w fun e w' => e = .returned (.slice (some ⟨w.heap.size, 0, none⟩) n (n + 1)) ∧
      w'.ownsRow w.heap.size 33 2 (.slice (some ⟨w.heap.size, 0, none⟩) (n + 1) (n + 1)) (n + 1) (fv l ++ spareF) ∧ Below w.heap.size w w' := by
  obtain ⟨i0, hi0, hz0, hz1, hz2⟩ := info_parts infoFlag
  have hl : l.length = n := by have := hr.1; rw [fv_length] at this; omega
  have HL := Lib.hid hl
  clear hl
  go_enter Try.func6, Try.ntmps6
  go_wp2_with (at_make; refine wpList_make_own _ rfl _ _ 22 rfl w.heap.size 33 i0 _ 2 Try.underlying22 hi0 hz0 hz1 .i64 .i64 _ (n + 1) rfl rfl (by omega) (by rw [hz2]; omega) (by unfold maxLen; omega) (Nat.le_refl _) ?_; intro w1 hown1 hgrow1)
  go_loopw [3, 4] (fun t i wr => ∃ k : Nat, k ≤ n ∧ i = .int .i64 k ∧ t = .slice (some ⟨w.heap.size, 0, none⟩) k (n + 1) ∧ wr.ownsRow w.heap.size 33 2 (.slice (some ⟨w.heap.size, 0, none⟩) k (n + 1)) k (fv (l.take k)) ∧ Below w.heap.size w wr)
    (fun _ i _ => n - (intOf i).toNat)
  case atStart => exact ⟨0, Nat.zero_le _, rfl, rfl, by simpa [fv] using hown1, (Below.refl _ _).grown hgrow1 (Nat.le_refl _) (by simp)⟩
  case round =>
    obtain ⟨k, hk, rfl, rfl, hown, hb⟩ := hrel
    by_cases hlt : k < n
    · obtain ⟨ad, rfl, had, hc0, hc1⟩ := (hr.below hb).flag hlt HL.out
      have hkl : k < l.length := by rw [HL.out]; exact hlt
      have hbs := hb.size
      go_wp2_with (at_builtin; refine wpList_append_fits _ rfl (.tmp 15) (.tmp 20) 22 rfl w.heap.size 33 i0 2 Try.underlying22 hi0 hz1 w.heap.size k (n + 1) (fv (l.take k)) rfl (hown.alloc _) ⟨wr.heap.size, 0, none⟩ 1 1 (fl1 (l[k])) rfl rfl (cells_new _ #[.int .u8 ((l[k]).1.toNat : Int), .string (l[k]).2] _) (fl1_one _) (by omega) ?_; intro w2 hown2 hg2)
      have hb2 := (hb.alloc hbs _).grown hg2 (by simp; omega) (by intro q e; cases e; exact Nat.le_refl _)
      clear hown hc0 hc1 hg2
      go_roundw
      case rel => exact ⟨k + 1, by omega, by go_num, rfl, by rw [fv_snoc l k hkl]; exact hown2, hb2⟩
      case measure => simp [intOf]; omega
    · have hkn : k = n := by omega
      subst hkn
      have hbs := hb.size
      have htk : fv (l.take k) = fv l := by rw [List.take_of_length_le (by rw [HL.out]; exact Nat.le_refl _)]
      rw [htk] at hown
      clear htk
      go_wp2_with (at_builtin; refine wpList_append_fits _ rfl (.tmp 22) (.tmp 24) 22 rfl w.heap.size 33 i0 2 Try.underlying22 hi0 hz1 w.heap.size k (k + 1) (fv l) rfl (hown.alloc _) ⟨wr.heap.size, 0, none⟩ 1 1 spareF rfl rfl (cells_new _ #[.int .u8 0, .string ⟨#[115, 112, 97, 114, 101]⟩] _) (by intro u hu; simp [spareF] at hu; rcases hu with rfl | rfl <;> rfl) (by omega) ?_; intro w2 hown2 hg2)
      go_ret
      exact ⟨rfl, hown2, (hb.alloc hbs _).grown hg2 (by simp; omega) (by intro q e; cases e; exact Nat.le_refl _)⟩

/-- The cells of a row of flags with a spare one behind. -/
theorem flags_cells {w : World} {B g n k : Nat} {l : List Flag2} (h : w.ownsRow B 33 2 (.slice (some ⟨g, 0, none⟩) (n + 1) (n + 1)) (n + 1) (fv l ++ spareF)) (hl : l.length = n) (hk : k < l.length) :
    w.cell? ⟨g, k * 2, none⟩ = some (.int .u8 ((l[k]).1.toNat : Int)) ∧ w.cell? ⟨g, k * 2 + 1, none⟩ = some (.string (l[k]).2) := by
  constructor
  · rw [h.cellAt (k * 2) (by omega), List.getElem?_append_left (by rw [fv_length]; omega), fv_get0 l k hk]
  · rw [h.cellAt (k * 2 + 1) (by omega), List.getElem?_append_left (by rw [fv_length]; omega), fv_get1 l k hk]
theorem flags_spare {w : World} {B g n : Nat} {l : List Flag2} (h : w.ownsRow B 33 2 (.slice (some ⟨g, 0, none⟩) (n + 1) (n + 1)) (n + 1) (fv l ++ spareF)) (hl : l.length = n) :
    w.cell? ⟨g, n * 2, none⟩ = some (.int .u8 0) ∧ w.cell? ⟨g, n * 2 + 1, none⟩ = some (.string ⟨#[115, 112, 97, 114, 101]⟩) := by
  constructor
  · rw [h.cellAt (n * 2) (by omega), List.getElem?_append_right (by rw [fv_length]; omega), fv_length, hl, Nat.sub_self]; rfl
  · rw [h.cellAt (n * 2 + 1) (by omega), List.getElem?_append_right (by rw [fv_length]; omega), fv_length, hl, show n * 2 + 1 - n * 2 = 1 from by omega]; rfl
theorem twinF_reads {w : World} {B B' g n : Nat} {l : List Flag2} (h : w.ownsRow B' 33 2 (.slice (some ⟨g, 0, none⟩) (n + 1) (n + 1)) (n + 1) (fv l ++ spareF)) (hl : l.length = n) (hB : g < B) : Reads w B 2 (some ⟨g, 0, none⟩) n (fv l) :=
  ⟨by rw [fv_length]; omega, fun _ => ⟨_, rfl, hB, fun j u hu => by
    have hj : j < l.length * 2 := by have := (List.getElem?_eq_some_iff.1 hu).1; rw [fv_length] at this; exact this
    rw [Addr.add_lit, Nat.zero_add, h.cellAt j (by omega), List.getElem?_append_left (by rw [fv_length]; exact hj)]
    exact hu⟩⟩

set_option maxHeartbeats 400000 in
theorem leftFlags_any (A : Option Addr) (g n c B' : Nat) (l : List Flag2) (w : World) (hr : Reads w w.heap.size 2 A n (fv l)) (hn : n ≤ 2097152)
    (hown : w.ownsRow B' 33 2 (.slice (some ⟨g, 0, none⟩) (n + 1) (n + 1)) (n + 1) (fv l ++ spareF)) :
    Calls Try.prog 11 #[.slice (some ⟨g, 0, none⟩) n (n + 1), .slice A n c] w fun e w' => e = .returned (.bool true) ∧ Below w.heap.size w w' := by
  have hl : l.length = n := by have := hr.1; rw [fv_length] at this; omega
  have HL := Lib.hid hl
  clear hl
  go_enter Try.func11, Try.ntmps11
  go_wp2
  have hgw : g < w.heap.size := (hown.lt g rfl).2
  go_loopw [5] (fun i wr => ∃ k : Nat, k ≤ n ∧ i = .int .i64 k ∧ Below w.heap.size w wr) (fun i _ => n - (intOf i).toNat)
  case atStart => exact ⟨0, Nat.zero_le _, rfl, Below.refl _ _⟩
  case round =>
    obtain ⟨k, hk, rfl, hb⟩ := hrel
    by_cases hlt : k < n
    · have hkl : k < l.length := by rw [HL.out]; exact hlt
      obtain ⟨hd0, hd1⟩ := flags_cells (own_below hown hb) HL.out hkl
      obtain ⟨ad, rfl, had, hc0, hc1⟩ := (hr.below hb).flag hlt HL.out
      clear hown hr
      go_wp2
      go_quiet (fail)
      go_wp2
      go_roundw
      case rel => exact ⟨k + 1, by omega, by go_num, below_drewN hb _⟩
      case measure => simp [intOf]; omega
    · have hkn : k = n := by omega
      subst hkn
      obtain ⟨hs0, hs1⟩ := flags_spare (own_below hown hb) HL.out
      clear hown hr
      go_wp2
      go_ret
      exact ⟨rfl, hb.alloc hb.size _⟩

/-- How often a letter stands among flags. -/
def fhas (l : List Flag2) (c : UInt8) : Nat := (l.filter fun x => x.1 = c).length
theorem fhas_snoc (l : List Flag2) (k : Nat) (h : k < l.length) (c : UInt8) : fhas (l.take (k + 1)) c = fhas (l.take k) c + if (l[k]).1 = c then 1 else 0 := by
  unfold fhas
  rw [List.take_succ_eq_append_getElem h, List.filter_append, List.length_append]
  by_cases e : (l[k]).1 = c <;> simp [e]
theorem fhas_le (l : List Flag2) (c : UInt8) : fhas l c ≤ l.length := List.length_filter_le _ _
theorem u8_beq_true {a b : UInt8} (h : a = b) : (((a.toNat : Nat) : Int) == ((b.toNat : Nat) : Int)) = true := by subst h; simp
theorem u8_beq_false {a b : UInt8} (h : ¬ a = b) : (((a.toNat : Nat) : Int) == ((b.toNat : Nat) : Int)) = false := by
  simp only [beq_eq_false_iff_ne]
  intro e
  exact h (UInt8.toNat_inj.1 (by omega))

set_option maxHeartbeats 400000 in
theorem has_any (A : Option Addr) (n c : Nat) (l : List Flag2) (x : UInt8) (w : World) (hr : Reads w w.heap.size 2 A n (fv l)) (hn : n ≤ 2097152) :
    Calls Try.prog 9 #[.slice A n c, .int .u8 (x.toNat : Int)] w fun e w' => e = .returned (.int .i64 (fhas l x : Nat)) ∧ Below w.heap.size w w' := by
  have hl : l.length = n := by have := hr.1; rw [fv_length] at this; omega
  have HL := Lib.hid hl
  clear hl
  go_enter Try.func9, Try.ntmps9
  go_wp2
  go_loopw [4, 9] (fun s i wr => ∃ k : Nat, k ≤ n ∧ i = .int .i64 k ∧ s = .int .i64 (fhas (l.take k) x : Nat) ∧ Below w.heap.size w wr) (fun _ i _ => n - (intOf i).toNat)
  case atStart => exact ⟨0, Nat.zero_le _, rfl, rfl, Below.refl _ _⟩
  case round =>
    obtain ⟨k, hk, rfl, rfl, hb⟩ := hrel
    have hle := fhas_le (l.take k) x
    have hle2 : (l.take k).length ≤ k := List.length_take_le _ _
    by_cases hlt : k < n
    · have hkl : k < l.length := by rw [HL.out]; exact hlt
      obtain ⟨ad, rfl, had, hc0, hc1⟩ := (hr.below hb).flag hlt HL.out
      have hsn := fhas_snoc l k hkl x
      have hbs := hb.size
      clear hr
      obtain ⟨z, hz⟩ : ∃ z, z = fhas (l.take k) x := ⟨_, rfl⟩
      rw [← hz] at hle hsn ⊢
      clear hz
      by_cases hx : (l[k]).1 = x
      · have hq := u8_beq_true hx
        rw [if_pos hx] at hsn
        have Hsn := Lib.hid hsn
        clear hsn hx
        go_wp2
        go_roundw
        case rel => exact ⟨k + 1, by omega, by go_num, by rw [Hsn.out]; go_num, hb.alloc hbs _⟩
        case measure => simp [intOf]; omega
      · have hq := u8_beq_false hx
        rw [if_neg hx] at hsn
        have Hsn := Lib.hid hsn
        clear hsn hx
        go_wp2
        go_roundw
        case rel => exact ⟨k + 1, by omega, by go_num, by rw [Hsn.out]; go_num, hb.alloc hbs _⟩
        case measure => simp [intOf]; omega
    · go_wp2
      go_ret
      exact ⟨ret_int (by rw [List.take_of_length_le (by rw [HL.out]; omega)]), hb⟩

set_option maxHeartbeats 400000 in
theorem refHas_any (A : Option Addr) (n c B : Nat) (l : List Flag2) (x : UInt8) (w : World) (hr : Reads w B 2 A n (fv l)) (hn : n ≤ 2097152) :
    Calls Try.prog 10 #[.slice A n c, .int .u8 (x.toNat : Int)] w fun e w' => e = .returned (.int .i64 (fhas l x : Nat)) ∧ w = w' := by
  have hl : l.length = n := by have := hr.1; rw [fv_length] at this; omega
  have HL := Lib.hid hl
  clear hl
  go_enter Try.func10, Try.ntmps10
  go_wp2
  go_loop [5, 6] (fun s i => ∃ k : Nat, k ≤ n ∧ i = .int .i64 k ∧ s = .int .i64 (fhas (l.take k) x : Nat)) (fun _ i => n - (intOf i).toNat)
  case atStart => exact ⟨0, Nat.zero_le _, rfl, rfl⟩
  case round =>
    obtain ⟨k, hk, rfl, rfl⟩ := hrel
    have hle := fhas_le (l.take k) x
    have hle2 : (l.take k).length ≤ k := List.length_take_le _ _
    by_cases hlt : k < n
    · have hkl : k < l.length := by rw [HL.out]; exact hlt
      obtain ⟨ad, rfl, had, hc0, hc1⟩ := hr.flag hlt HL.out
      have hsn := fhas_snoc l k hkl x
      clear hr
      obtain ⟨z, hz⟩ : ∃ z, z = fhas (l.take k) x := ⟨_, rfl⟩
      rw [← hz] at hle hsn ⊢
      clear hz
      by_cases hx : (l[k]).1 = x
      · have hq := u8_beq_true hx
        rw [if_pos hx] at hsn
        have Hsn := Lib.hid hsn
        clear hsn hx
        go_wp2
        go_round
        case rel => exact ⟨k + 1, by omega, by go_num, by rw [Hsn.out]; go_num⟩
        case measure => simp [intOf]; omega
      · have hq := u8_beq_false hx
        rw [if_neg hx] at hsn
        have Hsn := Lib.hid hsn
        clear hsn hx
        go_wp2
        go_round
        case rel => exact ⟨k + 1, by omega, by go_num, by rw [Hsn.out]; go_num⟩
        case measure => simp [intOf]; omega
    · go_wp2
      go_ret
      exact ⟨ret_int (by rw [List.take_of_length_le (by rw [HL.out]; omega)]), rfl⟩
end Go.Proofs.Ytgjpongoenebaaa
