/-
  ModesMask: the law's walk.
-/
import Derived.Test.YtnpaddakkniliaaDoorModesOneWalk
namespace Go.Proofs.YtnpaddakkniliaaDoor
open Go.RowKit

theorem and_below (a : Int) (k : Nat) (hk : k < 512) : bits .and .i64 a (k : Int) = (((a % 512).toNat &&& k : Nat) : Int) := by
  have e1 : BitVec.ofInt 64 (k : Int) = BitVec.ofInt 64 (k : Int) &&& BitVec.ofInt 64 511 := by
    apply BitVec.eq_of_toNat_eq
    rw [BitVec.toNat_and, ofInt_i64 k (by omega), show (511 : Int) = ((511 : Nat) : Int) from rfl, ofInt_i64 511 (by decide), show (511 : Nat) = 2 ^ 9 - 1 from rfl, Nat.and_two_pow_sub_one_eq_mod, Nat.mod_eq_of_lt (by omega)]
  have h511 := and511 a
  have hm : (a % 512) = (((a % 512).toNat : Nat) : Int) := by omega
  have hlt : (a % 512).toNat < 512 := by omega
  have h2 : IntKind.i64.wrap ((BitVec.ofInt 64 a &&& BitVec.ofInt 64 511).toNat : Int) = (((a % 512).toNat : Nat) : Int) := by rw [← hm]; exact h511
  have h3 : (BitVec.ofInt 64 a &&& BitVec.ofInt 64 511).toNat = (a % 512).toNat := by
    have hx : (BitVec.ofInt 64 a &&& BitVec.ofInt 64 511).toNat < 512 := by
      rw [BitVec.toNat_and, show (511 : Int) = ((511 : Nat) : Int) from rfl, ofInt_i64 511 (by decide), show (511 : Nat) = 2 ^ 9 - 1 from rfl, Nat.and_two_pow_sub_one_eq_mod]
      exact Nat.mod_lt _ (by decide)
    rw [IntKind.wrap_i64] at h2
    omega
  show IntKind.i64.wrap ((BitVec.ofInt 64 a &&& BitVec.ofInt 64 (k : Int)).toNat : Int) = _
  have h4 : (BitVec.ofInt 64 a &&& BitVec.ofInt 64 (k : Int)).toNat = (a % 512).toNat &&& k := by
    rw [e1, show BitVec.ofInt 64 a &&& (BitVec.ofInt 64 (k : Int) &&& BitVec.ofInt 64 511) = (BitVec.ofInt 64 a &&& BitVec.ofInt 64 511) &&& BitVec.ofInt 64 (k : Int) by rw [BitVec.and_comm (BitVec.ofInt 64 (k : Int)), BitVec.and_assoc], BitVec.toNat_and, h3, ofInt_i64 k (by omega)]
  rw [h4, IntKind.wrap_i64]
  have : (a % 512).toNat &&& k < 512 := Nat.lt_of_le_of_lt Nat.and_le_right hk
  omega

set_option maxRecDepth 100000 in
set_option maxHeartbeats 8000000 in
theorem modesMask_walk (B : Nat) (x : Chg) (mode mask : Int) (dir : Bool) (w : World) (hE : EnvM B w) :
    Calls Tryd.prog 8 #[.agg #[.int .i64 x.who, .int .u8 (x.op.toNat : Int), .int .i64 x.bits, .int .u8 (x.copy.toNat : Int), .bool x.dirs], .agg #[.int .i64 mode, .int .i64 mask, .bool dir]] w fun e w' => e = .returned (.bool true) ∧ Below w.heap.size w w' := by
  obtain ⟨wh, op, bt, cp, dr⟩ := x
  go_enter Tryd.func8, Tryd.ntmps8
  have kC := ((Blk.new w 36 #[.int .i64 0, .int .u8 (op.toNat : Int), .int .i64 bt, .int .u8 (cp.toNat : Int), .bool dr]).alloc (.cells #[.int .i64 mode, .int .i64 mask, .bool dir] 27)).alloc (.cells #[.int .i64 0, .int .u8 (op.toNat : Int), .int .i64 bt, .int .u8 (cp.toNat : Int), .bool dr] 36)
  have kA := (Blk.new (w.alloc (.cells #[.int .i64 0, .int .u8 (op.toNat : Int), .int .i64 bt, .int .u8 (cp.toNat : Int), .bool dr] 36)) 27 #[.int .i64 mode, .int .i64 mask, .bool dir]).alloc (.cells #[.int .i64 0, .int .u8 (op.toNat : Int), .int .i64 bt, .int .u8 (cp.toNat : Int), .bool dr] 36)
  have rS := reads_rowM ((w.alloc (.cells #[.int .i64 0, .int .u8 (op.toNat : Int), .int .i64 bt, .int .u8 (cp.toNat : Int), .bool dr] 36)).alloc (.cells #[.int .i64 mode, .int .i64 mask, .bool dir] 27)) 36 5 1 #[.int .i64 0, .int .u8 (op.toNat : Int), .int .i64 bt, .int .u8 (cp.toNat : Int), .bool dr] (chgv [⟨0, op, bt, cp, dr⟩]) rfl rfl
  have b3 : Below w.heap.size w (((w.alloc (.cells #[.int .i64 0, .int .u8 (op.toNat : Int), .int .i64 bt, .int .u8 (cp.toNat : Int), .bool dr] 36)).alloc (.cells #[.int .i64 mode, .int .i64 mask, .bool dir] 27)).alloc (.cells #[.int .i64 0, .int .u8 (op.toNat : Int), .int .i64 bt, .int .u8 (cp.toNat : Int), .bool dr] 36)) := (((Below.refl _ _).alloc (Nat.le_refl _) _).alloc (by simp) _).alloc (by simp; omega) _
  have z1 : (w.alloc (.cells #[.int .i64 0, .int .u8 (op.toNat : Int), .int .i64 bt, .int .u8 (cp.toNat : Int), .bool dr] 36)).heap.size = w.heap.size + 1 := by simp
  have z2 : ((w.alloc (.cells #[.int .i64 0, .int .u8 (op.toNat : Int), .int .i64 bt, .int .u8 (cp.toNat : Int), .bool dr] 36)).alloc (.cells #[.int .i64 mode, .int .i64 mask, .bool dir] 27)).heap.size = w.heap.size + 1 + 1 := by simp
  have z3 : (((w.alloc (.cells #[.int .i64 0, .int .u8 (op.toNat : Int), .int .i64 bt, .int .u8 (cp.toNat : Int), .bool dr] 36)).alloc (.cells #[.int .i64 mode, .int .i64 mask, .bool dir] 27)).alloc (.cells #[.int .i64 0, .int .u8 (op.toNat : Int), .int .i64 bt, .int .u8 (cp.toNat : Int), .bool dr] 36)).heap.size = w.heap.size + 1 + 1 + 1 := by simp
  rw [z1] at kA
  rw [z2] at rS
  obtain ⟨m, hm⟩ : ∃ m : Nat, m = (mode % 512).toNat := ⟨_, rfl⟩
  have hm5 : m < 512 := by omega
  obtain ⟨M, hM⟩ : ∃ M : Nat, M = (mask % 512).toNat := ⟨_, rfl⟩
  have hM5 : M < 512 := by omega
  obtain ⟨a, ha⟩ : ∃ a, a = chgMode ⟨0, op, bt, cp, dr⟩ mask dir m := ⟨_, rfl⟩
  obtain ⟨b, hb⟩ : ∃ b, b = chgMode ⟨7, op, bt, cp, dr⟩ mask dir m := ⟨_, rfl⟩
  have ha5 : a < 512 := by rw [ha]; exact chgMode_lt _ _ _ _ hm5
  have hb5 : b < 512 := by rw [hb]; exact chgMode_lt _ _ _ _ hm5
  obtain ⟨hq1, hq2⟩ := chgMask ⟨0, op, bt, cp, dr⟩ mask dir m hm5
  have hq1' : a &&& M = m &&& M := by rw [ha, hM]; exact hq1
  have hq2' : a &&& (511 - M) = b &&& (511 - M) := by rw [ha, hb, hM]; exact hq2
  have e1 : bits .and .i64 mask 511 = (M : Int) := by rw [and511]; omega
  have e2 : bits .and .i64 (a : Int) (M : Int) = ((m &&& M : Nat) : Int) := by rw [i64_and_nat a M (by omega) (by omega), hq1']
  have e3 : bits .and .i64 mode (M : Int) = ((m &&& M : Nat) : Int) := by rw [and_below mode M hM5, ← hm]
  have p9 : ((2 ^ 9 : Nat) : Int) = 512 := by decide
  have e4 : bits .andNot .i64 (a : Int) mask = ((b &&& (511 - M) : Nat) : Int) := by rw [i64_andNot_low mask 9 (by omega) a (by omega), ← hq2', p9, ← hM]
  have e5 : bits .andNot .i64 (b : Int) mask = ((b &&& (511 - M) : Nat) : Int) := by rw [i64_andNot_low mask 9 (by omega) b (by omega), p9, ← hM]
  obtain ⟨y, hy⟩ : ∃ y, y = m &&& M := ⟨_, rfl⟩
  obtain ⟨z, hz⟩ : ∃ z, z = b &&& (511 - M) := ⟨_, rfl⟩
  rw [← hy] at e2 e3
  rw [← hz] at e4 e5
  have HA := Lib.hid (show chgAll [⟨0, op, bt, cp, dr⟩] mask dir (mode % 512).toNat = a by rw [← hm, ha]; rfl)
  have HB := Lib.hid (show chgAll [⟨7, op, bt, cp, dr⟩] mask dir (mode % 512).toNat = b by rw [← hm, hb]; rfl)
  clear hm hM ha hb hq1 hq2 hq1' hq2' hy hz p9
  go_wp2_with fail
  refine (apply_any (some ⟨w.heap.size + 1 + 1, 0, none⟩) 1 1 [⟨0, op, bt, cp, dr⟩] mode mask dir _ (rS.more (by rw [z3]; exact Nat.le_refl _)) (by omega)).mono ?_
  rintro e w4 ⟨rfl, hB4⟩
  rw [HA.out]
  have kC4 := kC.below hB4 (by rw [z3]; omega)
  have kA4 := kA.below hB4 (by rw [z3]; omega)
  have b4 := below_then b3 b3.size hB4
  have hs4 := hB4.size
  rw [z3] at hs4
  clear kC kA rS b3 z1 z2 z3 hB4
  have c0 : w4.cell? ⟨w.heap.size, 0, none⟩ = some (.int .i64 0) := kC4.cell 0
  have c1 : w4.cell? ⟨w.heap.size, 1, none⟩ = some (.int .u8 (op.toNat : Int)) := kC4.cell 1
  have c2 : w4.cell? ⟨w.heap.size, 2, none⟩ = some (.int .i64 bt) := kC4.cell 2
  have c3 : w4.cell? ⟨w.heap.size, 3, none⟩ = some (.int .u8 (cp.toNat : Int)) := kC4.cell 3
  have c4 : w4.cell? ⟨w.heap.size, 4, none⟩ = some (.bool dr) := kC4.cell 4
  have cf := kC4.frozen 0
  have kA5 := Blk.far kA4 (p := ⟨w.heap.size, 0, none⟩) (by show w.heap.size + 1 ≠ w.heap.size; omega) (.int .i64 7)
  have b5 := b4.setCell (p := ⟨w.heap.size, 0, none⟩) (Nat.le_refl _) (.int .i64 7)
  have hz5 : (w4.setCell ⟨w.heap.size, 0, none⟩ (.int .i64 7)).heap.size = w4.heap.size := by simp [World.setCell]
  have a0 : (w4.setCell ⟨w.heap.size, 0, none⟩ (.int .i64 7)).cell? ⟨w.heap.size + 1, 0, none⟩ = some (.int .i64 mode) := kA5.cell 0
  have a1 : (w4.setCell ⟨w.heap.size, 0, none⟩ (.int .i64 7)).cell? ⟨w.heap.size + 1, 1, none⟩ = some (.int .i64 mask) := kA5.cell 1
  have a2 : (w4.setCell ⟨w.heap.size, 0, none⟩ (.int .i64 7)).cell? ⟨w.heap.size + 1, 2, none⟩ = some (.bool dir) := kA5.cell 2
  have o0 : ((w4.setCell ⟨w.heap.size, 0, none⟩ (.int .i64 7)).alloc (.cells #[.int .i64 7, .int .u8 (op.toNat : Int), .int .i64 bt, .int .u8 (cp.toNat : Int), .bool dr] 36)).cell? ⟨w.heap.size + 1, 0, none⟩ = some (.int .i64 mode) := (kA5.alloc _).cell 0
  have o1 : ((w4.setCell ⟨w.heap.size, 0, none⟩ (.int .i64 7)).alloc (.cells #[.int .i64 7, .int .u8 (op.toNat : Int), .int .i64 bt, .int .u8 (cp.toNat : Int), .bool dr] 36)).cell? ⟨w.heap.size + 1, 1, none⟩ = some (.int .i64 mask) := (kA5.alloc _).cell 1
  have o2 : ((w4.setCell ⟨w.heap.size, 0, none⟩ (.int .i64 7)).alloc (.cells #[.int .i64 7, .int .u8 (op.toNat : Int), .int .i64 bt, .int .u8 (cp.toNat : Int), .bool dr] 36)).cell? ⟨w.heap.size + 1, 2, none⟩ = some (.bool dir) := (kA5.alloc _).cell 2
  have rS := reads_rowM (w4.setCell ⟨w.heap.size, 0, none⟩ (.int .i64 7)) 36 5 1 #[.int .i64 7, .int .u8 (op.toNat : Int), .int .i64 bt, .int .u8 (cp.toNat : Int), .bool dr] (chgv [⟨7, op, bt, cp, dr⟩]) rfl rfl
  rw [hz5] at rS
  have b6 := b5.alloc b5.size (.cells #[.int .i64 7, .int .u8 (op.toNat : Int), .int .i64 bt, .int .u8 (cp.toNat : Int), .bool dr] 36)
  have kA6 := kA5.alloc (.cells #[.int .i64 7, .int .u8 (op.toNat : Int), .int .i64 bt, .int .u8 (cp.toNat : Int), .bool dr] 36)
  go_wp2_with fail
  refine (apply_any (some ⟨w4.heap.size, 0, none⟩) 1 1 [⟨7, op, bt, cp, dr⟩] mode mask dir _ (rS.more (by simp [World.setCell])) (by omega)).mono ?_
  rintro e w7 ⟨rfl, hB7⟩
  rw [HB.out]
  have kA7 := kA6.below hB7 (by simp [World.setCell]; omega)
  have b7 := below_then b6 b6.size hB7
  have hs7 : w.heap.size + 2 ≤ w7.heap.size := by have := hB7.size; simp [World.setCell] at this; omega
  clear kC4 kA4 kA5 kA6 rS b4 b5 b6 hB7 a0 a1 a2 o0 o1 o2 c0 c1 c2 c3 c4 cf hz5
  go_wp2_with fail
  refine (malive_any B w7 (hE.up b7)).mono ?_
  rintro e w8 ⟨rfl, hB8⟩
  have kA8 := kA7.below hB8 (by omega)
  have b8 := below_then b7 b7.size hB8
  have a0 : w8.cell? ⟨w.heap.size + 1, 0, none⟩ = some (.int .i64 mode) := kA8.cell 0
  have a1 : w8.cell? ⟨w.heap.size + 1, 1, none⟩ = some (.int .i64 mask) := kA8.cell 1
  clear kA7 kA8 b7 hB8
  go_wp2_with fail
  go_ret
  exact ⟨rfl, b8⟩
end Go.Proofs.YtnpaddakkniliaaDoor
