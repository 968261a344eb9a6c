/-
  Trim at the ten digits; what Atoi leaves of memory.
-/
import Derived.Test.YtiffmdfchibpaaaDoorOptsNumPlain
import Derived.Test.YtiffmdfchibpaaaDoorBytes
import Derived.Test.YtiffmdfchibpaaaDoorStr
import Derived.Test.YtiffmdfchibpaaaDoorShelf
import Derived.Shelf.Strings.SlTrimAscii
namespace Go.Proofs.YtiffmdfchibpaaaDoor
open Go.RowKit

theorem strN_isEmpty : (str []).toList.isEmpty = true := by rw [ByteArray.toList_eq]; rfl
theorem strN_some (a : List UInt8) (h : a ≠ []) : (str a).toList.isEmpty = false := by
  rw [ByteArray.toList_eq]
  cases a with
  | nil => exact absurd rfl h
  | cons _ _ => rfl
theorem ascii_digits : ∀ (j : Nat) b, (str digitsS).data.toList[j]? = some b → b.toNat < 128 := ascii_of_all (by decide)
/-- strings.Trim at the ten digits. -/
theorem trim_any (l : List UInt8) (w : World) (hl : l.length ≤ 2097152) :
    Calls Tryd.prog 22 #[.string (str l), .string { data := #[48, 49, 50, 51, 52, 53, 54, 55, 56, 57] }] w fun e w' => e = .returned (.string (str (Lib.trimS l digitsS))) ∧ Below w.heap.size w w' :=
  Any.strings_Trim_laid Tryd.lays160 (by kernel_rfl) (str l) (str digitsS) w (by rw [str_size]; omega) (by decide) ascii_digits
theorem atoi_below (w w' : World) (h : w' = w ∨ ∃ t, w' = Lib.bytesWorld w 5 t) : Below w.heap.size w w' := by
  rcases h with rfl | ⟨t, rfl⟩
  · exact Below.refl _ _
  · exact ⟨rfl, rfl, rfl, by rw [Lib.bytesWorld_size]; omega, fun k hk => Lib.bytesWorld_at_old w _ t k hk⟩
end Go.Proofs.YtiffmdfchibpaaaDoor
