/-
  Texts as lists: plain. (Beside texts that define str themselves, GlobThing and LstPlace, never import this.)
-/
import Derived.Test.YtiffmdfchibpaaaDoorBase
import Derived.Lib.PathFns
namespace Go.Proofs.YtiffmdfchibpaaaDoor

def str (l : List UInt8) : ByteArray := ⟨l.toArray⟩
theorem str_size (l : List UInt8) : (str l).size = l.length := List.size_toArray
theorem str_of (s : ByteArray) : s = str s.data.toList := by obtain ⟨⟨l⟩⟩ := s; rfl
theorem str_from (l : List UInt8) (k : Nat) : (str l).extract k (str l).size = str (l.drop k) := Go.Lib.Pa.extract_from (str l) k
theorem str_upto (l : List UInt8) (k : Nat) : (str l).extract 0 k = str (l.take k) := Go.Lib.Pa.extract_upto (str l) k
theorem str_get (L : List UInt8) (q : Nat) (a : UInt8) (h0 : L[q]? = some a) (h : q < (str L).size) : (str L)[q]'h = a := by
  have h2 : q < L.length := by rw [← str_size]; exact h
  rw [List.getElem?_eq_getElem h2] at h0
  injection h0
theorem u8_lit (c : UInt8) (n : Nat) (hn : n < 256) (h : c ≠ UInt8.ofNat n) : ((c.toNat : Int) == (n : Int)) = false := by
  rw [beq_eq_false_iff_ne]
  intro e
  exact h (UInt8.toNat_inj.1 (by simp; omega))
end Go.Proofs.YtiffmdfchibpaaaDoor
