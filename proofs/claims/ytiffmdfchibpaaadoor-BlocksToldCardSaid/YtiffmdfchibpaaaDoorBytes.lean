/-
  Lists of bytes as cells. No condition of a claim stands here.
-/
import Derived.Test.YtiffmdfchibpaaaDoorBase
import Derived.Test.YtiffmdfchibpaaaDoorChecked
namespace Go.Proofs.YtiffmdfchibpaaaDoor
open Go.RowKit

def bv (l : List UInt8) : List Value := l.map fun b => .int .u8 (b.toNat : Int)
theorem bv_length (l : List UInt8) : (bv l).length = l.length := by simp [bv]
theorem bv_one (l : List UInt8) : ∀ u ∈ bv l, u.oneCell' = true := by
  intro u hu
  obtain ⟨_, _, rfl⟩ := List.mem_map.1 hu
  rfl
theorem infoU8 : (Tryd.prog.info? 5).map (fun i => (i.zero, i.size, i.bytes)) = some (some (.int .u8 0), 1, 1) := by kernel_rfl

theorem bv_get (l : List UInt8) (k : Nat) (h : k < l.length) : (bv l)[k]? = some (.int .u8 ((l[k]).toNat : Int)) := by
  simp [bv, List.getElem?_map, List.getElem?_eq_getElem h]
theorem bv_snoc (l : List UInt8) (k : Nat) (h : k < l.length) : bv (l.take (k + 1)) = bv (l.take k) ++ [.int .u8 ((l[k]).toNat : Int)] := by
  unfold bv; rw [List.take_succ_eq_append_getElem h, List.map_append]; rfl

theorem u8_beq_true {a b : UInt8} (h : a = b) : (((a.toNat : Nat) : Int) == ((b.toNat : Nat) : Int)) = true := by subst h; simp
theorem u8_beq_false {a b : UInt8} (h : ¬ a = b) : (((a.toNat : Nat) : Int) == ((b.toNat : Nat) : Int)) = false := by
  simp only [beq_eq_false_iff_ne]
  intro e
  exact h (UInt8.toNat_inj.1 (by omega))
end Go.Proofs.YtiffmdfchibpaaaDoor
