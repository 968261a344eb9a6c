/-
  What Swap makes of a byte: plain lists, no program.
-/
import Derived.Test.YtknembfcbkcjkaaBase
namespace Go.Proofs.Ytknembfcbkcjkaa

def swapB (fr to : List UInt8) (c : UInt8) : UInt8 := if c ∈ fr then to.getD (min (fr.idxOf c) (to.length - 1)) 0 else c
def tabK (fr to : List UInt8) (k : Nat) (c : UInt8) : UInt8 := if c ∈ fr.drop k then to.getD (min (k + (fr.drop k).idxOf c) (to.length - 1)) 0 else c
theorem tabK_zero (fr to : List UInt8) (c : UInt8) : tabK fr to 0 c = swapB fr to c := by simp [tabK, swapB]
theorem tabK_end (fr to : List UInt8) (c : UInt8) : tabK fr to fr.length c = c := by simp [tabK]
theorem tabK_step (fr to : List UInt8) (k : Nat) (hk : k < fr.length) (c : UInt8) : tabK fr to k c = if c = fr[k] then to.getD (min k (to.length - 1)) 0 else tabK fr to (k + 1) c := by
  unfold tabK
  rw [List.drop_eq_getElem_cons hk]
  by_cases h : c = fr[k]
  · subst h
    simp only [List.mem_cons, true_or, if_true, List.idxOf_cons_self, Nat.add_zero]
  · have h' : ¬ fr[k] = c := fun e => h e.symm
    simp only [List.mem_cons, h, false_or, if_false]
    by_cases h2 : c ∈ fr.drop (k + 1)
    · rw [if_pos h2, if_pos h2, List.idxOf_cons]
      simp only [beq_iff_eq, h', cond_eq_ite, if_false]
      rw [show k + ((fr.drop (k + 1)).idxOf c + 1) = k + 1 + (fr.drop (k + 1)).idxOf c from by omega]
    · rw [if_neg h2, if_neg h2]
theorem u8_of (c : UInt8) : UInt8.ofNat c.toNat = c := by simp
theorem ofNat_toNat (j : Nat) (h : j < 256) : (UInt8.ofNat j).toNat = j := by simp; omega
theorem u8_inj {a b : UInt8} : a = b ↔ a.toNat = b.toNat := ⟨fun h => by rw [h], UInt8.toNat_inj.1⟩
/-- What Swap answers: the text, and the error's number. -/
def swS (fr to : List UInt8) (s : ByteArray) : ByteArray := if fr = [] then s else if to = [] then ⟨#[]⟩ else ⟨(s.data.toList.map (swapB fr to)).toArray⟩
def swE (fr to : List UInt8) : Int := if fr = [] then 0 else if to = [] then 1 else 0
theorem swapB_nil (to : List UInt8) : swapB [] to = id := by funext c; simp [swapB]
end Go.Proofs.Ytknembfcbkcjkaa
