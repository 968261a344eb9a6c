/-
  ModesBack: the law's walk.
-/
import Derived.Test.YtnpaddakkniliaaDoorModeOct
import Derived.Test.YtnpaddakkniliaaDoorModeLaws
import Derived.Test.YtnpaddakkniliaaDoorModeAlive
namespace Go.Proofs.YtnpaddakkniliaaDoor
open Go.RowKit

theorem ref61 : ∀ (b r : Fin 8), refDig 61 true b.val 0 r.val = b.val := by decide +kernel
theorem set_one (who b : Nat) (mask : Int) (dir : Bool) (r0 r1 r2 : Nat) (h0 : r0 < 8) (h1 : r1 < 8) (h2 : r2 < 8) (hw : who < 8) (hw0 : 0 < who) (hb : b < 8) :
    chgMode ⟨who, 61, b, 0, false⟩ mask dir (oct r0 r1 r2) = oct (if who / 4 % 2 = 1 then b else r0) (if who / 2 % 2 = 1 then b else r1) (if who % 2 = 1 then b else r2) := by
  have hm : oct r0 r1 r2 < 512 := by unfold oct; omega
  rw [chg_same _ mask dir _ hm, refMode_oct _ mask dir r0 r1 r2 h0 h1 h2]
  have hwho : chgWho ⟨who, 61, b, 0, false⟩ = who := by
    unfold chgWho
    rw [if_neg (by show ¬ ((who : Int) % 8 = 0); omega)]
    show ((who : Int) % 8).toNat = who
    omega
  have hst : ∀ k, stayOf ⟨who, 61, b, 0, false⟩ mask k = 0 := fun k => by
    unfold stayOf
    rw [if_neg (by show ¬ ((who : Int) % 8 = 0); omega)]
  have hbt : ∀ x y z, refBits ⟨who, 61, b, 0, false⟩ x y z dir = b := fun x y z => by
    unfold refBits
    simp
    omega
  rw [hwho, hbt, hst, hst, hst]
  have dg : ∀ (k r : Nat), r < 8 → refDig 61 (k == 1) b 0 r = if k = 1 then b else r := fun k r hr => by
    by_cases hk : k = 1
    · rw [if_pos hk, hk]
      exact ref61 ⟨b, hb⟩ ⟨r, hr⟩
    · rw [if_neg hk]
      have : (k == 1) = false := by simpa using hk
      rw [this]
      rfl
  show oct (refDig 61 _ b 0 r0) (refDig 61 _ b 0 r1) (refDig 61 _ b 0 r2) = _
  rw [dg _ _ h0, dg _ _ h1, dg _ _ h2]
/-- An octal number's changes make that mode of any other one. -/
theorem octC_sets (n : Nat) (hn : n < 512) (mask : Int) (dir : Bool) (m : Nat) (hm : m < 512) : chgAll (octC n) mask dir m = n := by
  obtain ⟨r0, r1, r2, h0, h1, h2, rfl⟩ := oct_of m hm
  have a0 : n / 64 % 8 < 8 := by omega
  have a1 : n / 8 % 8 < 8 := by omega
  have a2 : n % 8 < 8 := by omega
  show chgMode ⟨1, 61, (n % 8 : Nat), 0, false⟩ mask dir (chgMode ⟨2, 61, (n / 8 % 8 : Nat), 0, false⟩ mask dir (chgMode ⟨4, 61, (n / 64 % 8 : Nat), 0, false⟩ mask dir (oct r0 r1 r2))) = n
  have e1 := set_one 4 (n / 64 % 8) mask dir r0 r1 r2 h0 h1 h2 (by decide) (by decide) a0
  have e2 := set_one 2 (n / 8 % 8) mask dir (n / 64 % 8) r1 r2 a0 h1 h2 (by decide) (by decide) a1
  have e3 := set_one 1 (n % 8) mask dir (n / 64 % 8) (n / 8 % 8) r2 a0 a1 h2 (by decide) (by decide) a2
  have f1 : chgMode ⟨4, 61, (n / 64 % 8 : Nat), 0, false⟩ mask dir (oct r0 r1 r2) = oct (n / 64 % 8) r1 r2 := e1
  have f2 : chgMode ⟨2, 61, (n / 8 % 8 : Nat), 0, false⟩ mask dir (oct (n / 64 % 8) r1 r2) = oct (n / 64 % 8) (n / 8 % 8) r2 := e2
  have f3 : chgMode ⟨1, 61, (n % 8 : Nat), 0, false⟩ mask dir (oct (n / 64 % 8) (n / 8 % 8) r2) = oct (n / 64 % 8) (n / 8 % 8) (n % 8) := e3
  rw [f1, f2, f3]
  unfold oct
  omega
theorem oct_read : ∀ m : Fin 512, readV [digC (m.val / 64), digC (m.val / 8 % 8), digC (m.val % 8)] = some m.val ∧ readV [48, digC (m.val / 64), digC (m.val / 8 % 8), digC (m.val % 8)] = some m.val := by decide +kernel
theorem octL_read (mode : Int) : readV (octL mode) = some (mode % 512).toNat ∧ readV (48 :: octL mode) = some (mode % 512).toNat := oct_read ⟨(mode % 512).toNat, by omega⟩
theorem read_is (B : Nat) (s : List UInt8) (n : Nat) (w : World) (hE : EnvM B w) (hr : readV s = some n) :
    Calls Tryd.prog 14 #[.string (str s)] w fun e w' => e = .returned (.tuple #[.int .i64 (n : Int), .bool true]) ∧ Below w.heap.size w w' := by
  refine (read_any B s w (by have := (readV_le hr).2; omega) hE).mono ?_
  rintro e w' ⟨he, hB⟩
  unfold ReadIs at he
  rw [hr] at he
  exact ⟨he, hB⟩
set_option maxRecDepth 100000 in
set_option maxHeartbeats 1000000 in
theorem by_oct (B : Nat) (L : List UInt8) (n : Nat) (mode mask : Int) (dir : Bool) (w : World) (hE : EnvM B w) (hr : readV L = some n) :
    Calls Tryd.prog 16 #[.string (str L), .agg #[.int .i64 mode, .int .i64 mask, .bool dir]] w fun e w' => e = .returned (.int .i64 (n : Int)) ∧ Below w.heap.size w w' := by
  have hset := Lib.hid (octC_sets n (by have := (readV_le hr).1; omega) mask dir (mode % 512).toNat (by omega))
  have b0 : Below w.heap.size w (w.alloc (.cells #[.int .i64 mode, .int .i64 mask, .bool dir] 27)) := (Below.refl _ _).alloc (Nat.le_refl _) _
  have k0 := Blk.new w 27 #[.int .i64 mode, .int .i64 mask, .bool dir]
  have E0 := hE.up b0
  go_enter Tryd.func16, Tryd.ntmps16
  go_wp2_with fail
  refine (mparse_oct B L n _ E0 hr).mono ?_
  rintro e w1 ⟨⟨v, rfl, ho⟩, hB1⟩
  obtain ⟨A, c, rfl⟩ := own_slice ho
  have hrd := Reads.of_own ho
  have k1 := k0.below hB1 (by simp)
  have b1 := below_then b0 b0.size hB1
  have f0 : w1.cell? ⟨w.heap.size, 0, none⟩ = some (.int .i64 mode) := k1.cell 0
  have f1 : w1.cell? ⟨w.heap.size, 1, none⟩ = some (.int .i64 mask) := k1.cell 1
  have f2 : w1.cell? ⟨w.heap.size, 2, none⟩ = some (.bool dir) := k1.cell 2
  have HR := Lib.hid hrd
  clear hrd hB1 k0 k1 E0 b0 ho
  go_wp2_with fail
  refine (apply_any A 3 c (octC n) mode mask dir w1 HR.out (by omega)).mono ?_
  rintro e w2 ⟨rfl, hB2⟩
  rw [hset.out]
  go_wp2_with fail
  go_ret
  exact ⟨rfl, below_then b1 b1.size hB2⟩

set_option maxRecDepth 100000 in
set_option maxHeartbeats 4000000 in
theorem modesBack_walk (B : Nat) (m0 mode mask : Int) (dir : Bool) (w : World) (hE : EnvM B w) :
    Calls Tryd.prog 4 #[.int .i64 m0, .agg #[.int .i64 mode, .int .i64 mask, .bool dir]] w fun e w' => e = .returned (.bool true) ∧ Below w.heap.size w w' := by
  have b0 : Below w.heap.size w (w.alloc (.cells #[.int .i64 mode, .int .i64 mask, .bool dir] 27)) := (Below.refl _ _).alloc (Nat.le_refl _) _
  have k0 := Blk.new w 27 #[.int .i64 mode, .int .i64 mask, .bool dir]
  have E0 := hE.up b0
  have a5 := and511 m0
  obtain ⟨hr1, hr2⟩ := octL_read m0
  obtain ⟨m, hm⟩ : ∃ m : Nat, m = (m0 % 512).toNat := ⟨_, rfl⟩
  rw [← hm] at hr1 hr2
  rw [show m0 % 512 = (m : Int) from by omega] at a5
  obtain ⟨L, hL⟩ : ∃ L, L = octL m0 := ⟨_, rfl⟩
  rw [← hL] at hr1 hr2
  have hl3 : (str L).size = 3 := by rw [str_size, hL]; rfl
  have HL := Lib.hid hL
  have HR1 := Lib.hid hr1
  have HR2 := Lib.hid hr2
  have HC := Lib.hid (show ({ data := #[48] } : ByteArray) ++ str L = str (48 :: L) from by
    apply ByteArray.ext
    apply Array.ext'
    rw [ByteArray.data_append]
    simp [str])
  clear hL hr1 hr2 hm
  go_enter Tryd.func4, Tryd.ntmps4
  go_wp2_with fail
  refine (octal_any m0 _ E0.tz (Nat.le_trans E0.big E0.sz)).mono ?_
  rw [← HL.out]
  rintro e w1 ⟨rfl, hB1⟩
  have k1 := k0.below hB1 (by simp)
  have b1 := below_then b0 b0.size hB1
  have E1 := Lib.hid (E0.up hB1)
  have hs1 : w.heap.size < w1.heap.size := by have := hB1.size; simp at this; omega
  clear b0 k0 E0 hB1 HL
  go_wp2_with fail
  refine (read_is B L m w1 E1.out HR1.out).mono ?_
  rintro e w2 ⟨rfl, hB2⟩
  have k2 := k1.below hB2 hs1
  have b2 := below_then b1 b1.size hB2
  have E2 := Lib.hid (E1.out.up hB2)
  have hs2 : w.heap.size < w2.heap.size := by have := hB2.size; omega
  clear b1 k1 E1 hB2 hs1
  go_wp2_with fail
  rw [HC.out]
  refine (read_is B (48 :: L) m w2 E2.out HR2.out).mono ?_
  rintro e w3 ⟨rfl, hB3⟩
  have k3 := k2.below hB3 hs2
  have b3 := below_then b2 b2.size hB3
  have E3 := Lib.hid (E2.out.up hB3)
  have hs3 : w.heap.size < w3.heap.size := by have := hB3.size; omega
  clear b2 k2 E2 hB3 hs2
  go_wp2_with fail
  refine (malive_any B w3 E3.out).mono ?_
  rintro e w4 ⟨rfl, hB4⟩
  have k4 := k3.below hB4 hs3
  have b4 := below_then b3 b3.size hB4
  have E4 := Lib.hid (E3.out.up hB4)
  clear b3 k3 E3 hB4 hs3
  have c0 : w4.cell? ⟨w.heap.size, 0, none⟩ = some (.int .i64 mode) := k4.cell 0
  have c1 : w4.cell? ⟨w.heap.size, 1, none⟩ = some (.int .i64 mask) := k4.cell 1
  have c2 : w4.cell? ⟨w.heap.size, 2, none⟩ = some (.bool dir) := k4.cell 2
  clear k4
  go_wp2_with fail
  refine (by_oct B L m mode mask dir w4 E4.out HR1.out).mono ?_
  rintro e w5 ⟨rfl, hB5⟩
  go_wp2_with fail
  go_ret
  exact ⟨rfl, below_then b4 b4.size hB5⟩
end Go.Proofs.YtnpaddakkniliaaDoor
