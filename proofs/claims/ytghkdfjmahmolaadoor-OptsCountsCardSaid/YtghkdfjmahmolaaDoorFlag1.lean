/-
  Lists of flags: how they read; toolchestlaw01's FlagsSize; opts.Has: contracts.
-/
import Derived.Test.YtghkdfjmahmolaaDoorBytes
namespace Go.Proofs.YtghkdfjmahmolaaDoor
open Go.RowKit

abbrev Flag2 := UInt8 × ByteArray
def fl1 (x : Flag2) : List Value := [.int .u8 (x.1.toNat : Int), .string x.2]
def fv (l : List Flag2) : List Value := l.flatMap fl1
theorem fv_length (l : List Flag2) : (fv l).length = l.length * 2 := by
  induction l with
  | nil => rfl
  | cons x l ih => simp only [fv, List.flatMap_cons, List.length_append] at ih ⊢; rw [ih]; simp [fl1]; omega
theorem fv_append (l m : List Flag2) : fv (l ++ m) = fv l ++ fv m := by simp [fv]
theorem fv_get0 (l : List Flag2) : ∀ (k : Nat) (h : k < l.length), (fv l)[k * 2]? = some (.int .u8 ((l[k]).1.toNat : Int)) := by
  induction l with
  | nil => intro k h; simp at h
  | cons x l ih =>
    intro k h
    have e : fv (x :: l) = fl1 x ++ fv l := by simp [fv]
    rw [e]
    cases k with
    | zero => rfl
    | succ k =>
      rw [List.getElem?_append_right (by simp [fl1]; omega)]
      have := ih k (by simpa using h)
      rw [show (k + 1) * 2 - (fl1 x).length = k * 2 from by simp [fl1]; omega, this]
      rfl
theorem fv_get1 (l : List Flag2) : ∀ (k : Nat) (h : k < l.length), (fv l)[k * 2 + 1]? = some (.string (l[k]).2) := by
  induction l with
  | nil => intro k h; simp at h
  | cons x l ih =>
    intro k h
    have e : fv (x :: l) = fl1 x ++ fv l := by simp [fv]
    rw [e]
    cases k with
    | zero => rfl
    | succ k =>
      rw [List.getElem?_append_right (by simp [fl1]; omega)]
      have := ih k (by simpa using h)
      rw [show (k + 1) * 2 + 1 - (fl1 x).length = k * 2 + 1 from by simp [fl1]; omega, this]
      rfl
theorem fv_snoc (l : List Flag2) (k : Nat) (h : k < l.length) : fv (l.take (k + 1)) = fv (l.take k) ++ [.int .u8 ((l[k]).1.toNat : Int), .string (l[k]).2] := by
  rw [List.take_succ_eq_append_getElem h, fv_append]; rfl
/-- The two cells of a flag of a list. -/
theorem Reads.flag {w : World} {B n k : Nat} {A : Option Addr} {l : List Flag2} (h : Reads w B 2 A n (fv l)) (hk : k < n) (hl : l.length = n) :
    ∃ ad, A = some ad ∧ ad.block < B ∧ w.cell? (ad.add (k * 2)) = some (.int .u8 ((l[k]).1.toNat : Int)) ∧ w.cell? ⟨(ad.add (k * 2)).block, (ad.add (k * 2)).off + 1, none⟩ = some (.string (l[k]).2) := by
  obtain ⟨ad, e, hb, hc⟩ := h.2 (by omega)
  refine ⟨ad, e, hb, hc _ _ (fv_get0 l k (by omega)), ?_⟩
  rw [show (⟨(ad.add (k * 2)).block, (ad.add (k * 2)).off + 1, none⟩ : Addr) = (ad.add (k * 2)).add 1 from rfl, add_of_add]
  exact hc _ _ (fv_get1 l k (by omega))

def fsize (l : List Flag2) : Nat := l.length + (l.map fun x => x.2.size).sum
/-- What FlagsSize answers: it stops once it is beyond. -/
theorem infoFlag : (Tryd.prog.info? 38).map (fun i => (i.zero, i.size, i.bytes)) = some (some (.agg #[.int .u8 0, .string ⟨#[]⟩]), 2, 24) := by kernel_rfl

set_option maxHeartbeats 400000 in
theorem flagsSize_any (A : Option Addr) (n c B : Nat) (l : List Flag2) (w : World) (hr : Reads w B 2 A n (fv l)) (hn : n ≤ 140737488351232) (hs : ∀ k (h : k < l.length), (l[k]).2.size ≤ 140737488351232) :
    Calls Tryd.prog 20 #[.slice A n c] w fun e w' => (∃ z : Nat, e = .returned (.int .i64 z) ∧ z ≤ 281474976710656 ∧ (z ≤ 1048576 → n ≤ 1048576 ∧ ∀ k (h : k < l.length), (l[k]).2.size ≤ 1048576)) ∧ w = w' := by
  have hl : l.length = n := by have := hr.1; rw [fv_length] at this; omega
  have HL := Lib.hid hl
  clear hl
  have HS := Lib.hid hs
  clear hs
  go_enter Tryd.func20, Tryd.ntmps20
  go_wp2
  go_loop [3, 4] (fun s i => ∃ k z : Nat, k ≤ n ∧ i = .int .i64 k ∧ s = .int .i64 z ∧ z ≤ 140737489399808 ∧ n ≤ z ∧ ∀ j (h : j < l.length), j < k → (l[j]).2.size ≤ z) (fun _ i => n - (intOf i).toNat)
  case atStart => exact ⟨0, n, Nat.zero_le _, rfl, rfl, by omega, Nat.le_refl _, fun j _ h => by omega⟩
  case round =>
    obtain ⟨k, z, hk, rfl, rfl, hz, hnz, hj⟩ := hrel
    have Hj := Lib.hid hj
    clear hj
    by_cases hlt : k < n
    · by_cases hz2 : z ≤ 1048576
      · obtain ⟨ad, rfl, had, hc0, hc1⟩ := hr.flag hlt HL.out
        have hkl : k < l.length := by rw [HL.out]; exact hlt
        have hx := HS.out k hkl
        go_wp2
        go_round
        case rel =>
          refine ⟨k + 1, z + (l[k]).2.size, by omega, by go_num, by go_num, by omega, by omega, fun j hj hjk => ?_⟩
          rcases Nat.lt_succ_iff_lt_or_eq.1 hjk with h | h
          · have := Hj.out j hj h; omega
          · subst h; omega
        case measure => simp [intOf]; omega
      · go_wp2
        go_ret
        exact ⟨⟨z, rfl, by omega, fun h => absurd h hz2⟩, rfl⟩
    · go_wp2
      go_ret
      refine ⟨⟨z, rfl, by omega, fun h => ⟨by omega, fun j hj => ?_⟩⟩, rfl⟩
      have := Hj.out j hj (by rw [HL.out] at hj; omega)
      omega

theorem fl1_one (x : Flag2) : ∀ u ∈ fl1 x, u.oneCell' = true := by
  intro u hu
  simp [fl1] at hu
  rcases hu with rfl | rfl <;> rfl
def spareF : List Value := [.int .u8 0, .string ⟨#[115, 112, 97, 114, 101]⟩]

/-- How often a letter stands among flags. -/
def fhas (l : List Flag2) (c : UInt8) : Nat := (l.filter fun x => x.1 = c).length
theorem fhas_snoc (l : List Flag2) (k : Nat) (h : k < l.length) (c : UInt8) : fhas (l.take (k + 1)) c = fhas (l.take k) c + if (l[k]).1 = c then 1 else 0 := by
  unfold fhas
  rw [List.take_succ_eq_append_getElem h, List.filter_append, List.length_append]
  by_cases e : (l[k]).1 = c <;> simp [e]
theorem fhas_le (l : List Flag2) (c : UInt8) : fhas l c ≤ l.length := List.length_filter_le _ _
set_option maxHeartbeats 400000 in
theorem has_any (A : Option Addr) (n c : Nat) (l : List Flag2) (x : UInt8) (w : World) (hr : Reads w w.heap.size 2 A n (fv l)) (hn : n ≤ 2097152) :
    Calls Tryd.prog 22 #[.slice A n c, .int .u8 (x.toNat : Int)] w fun e w' => e = .returned (.int .i64 (fhas l x : Nat)) ∧ Below w.heap.size w w' := by
  have hl : l.length = n := by have := hr.1; rw [fv_length] at this; omega
  have HL := Lib.hid hl
  clear hl
  go_enter Tryd.func22, Tryd.ntmps22
  go_wp2
  go_loopw [4, 9] (fun s i wr => ∃ k : Nat, k ≤ n ∧ i = .int .i64 k ∧ s = .int .i64 (fhas (l.take k) x : Nat) ∧ Below w.heap.size w wr) (fun _ i _ => n - (intOf i).toNat)
  case atStart => exact ⟨0, Nat.zero_le _, rfl, rfl, Below.refl _ _⟩
  case round =>
    obtain ⟨k, hk, rfl, rfl, hb⟩ := hrel
    have hle := fhas_le (l.take k) x
    have hle2 : (l.take k).length ≤ k := List.length_take_le _ _
    by_cases hlt : k < n
    · have hkl : k < l.length := by rw [HL.out]; exact hlt
      obtain ⟨ad, rfl, had, hc0, hc1⟩ := (hr.below hb).flag hlt HL.out
      have hsn := fhas_snoc l k hkl x
      have hbs := hb.size
      clear hr
      obtain ⟨z, hz⟩ : ∃ z, z = fhas (l.take k) x := ⟨_, rfl⟩
      rw [← hz] at hle hsn ⊢
      clear hz
      by_cases hx : (l[k]).1 = x
      · have hq := u8_beq_true hx
        rw [if_pos hx] at hsn
        have Hsn := Lib.hid hsn
        clear hsn hx
        go_wp2
        go_roundw
        case rel => exact ⟨k + 1, by omega, by go_num, by rw [Hsn.out]; go_num, hb.alloc hbs _⟩
        case measure => simp [intOf]; omega
      · have hq := u8_beq_false hx
        rw [if_neg hx] at hsn
        have Hsn := Lib.hid hsn
        clear hsn hx
        go_wp2
        go_roundw
        case rel => exact ⟨k + 1, by omega, by go_num, by rw [Hsn.out]; go_num, hb.alloc hbs _⟩
        case measure => simp [intOf]; omega
    · go_wp2
      go_ret
      exact ⟨ret_int (by rw [List.take_of_length_le (by rw [HL.out]; omega)]), hb⟩

end Go.Proofs.YtghkdfjmahmolaaDoor
