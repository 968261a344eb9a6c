/-
  globs: the function values that a pattern's things hold, and what they answer.
-/
import Derived.Test.YtafiadlkfjacnaaGlobGreedy
import Derived.Test.YtafiadlkfjacnaaBytes
namespace Go.Proofs.Ytafiadlkfjacnaa
open Go.RowKit

/-- What a function value of a thing answers. -/
def FnIs (w : World) (v : Value) (p : UInt8 → Bool) : Prop :=
  (v = .func (.func 33) #[] #[] ∧ ∀ c, p c = true) ∨
  (∃ b x, v = .func (.func 37) #[] #[.pointer (some ⟨b, 0, none⟩)] ∧ Blk w b 5 #[.int .u8 ((x : UInt8).toNat : Int)] ∧ ∀ c, p c = (c == x)) ∨
  (∃ b nb cs neg, v = .func (.func 39) #[] #[.pointer (some ⟨b, 0, none⟩), .pointer (some ⟨nb, 0, none⟩)] ∧ Blk w b 51 cs ∧ Blk w nb 4 #[.bool neg] ∧
    ∃ f : UInt8 → Bool, (∀ c : UInt8, cs[c.toNat]? = some (.bool (f c))) ∧ ∀ c, p c = (f c != neg))
/-- What keeps them: nothing but one block of things changes. -/
def KeepT (w w' : World) : Prop := ∀ g t cs, Blk w g t cs → t ≠ 49 → Blk w' g t cs
theorem KeepT.refl (w : World) : KeepT w w := fun _ _ _ h _ => h
theorem KeepT.trans {a b c : World} (h : KeepT a b) (k : KeepT b c) : KeepT a c := fun g t cs x y => k g t cs (h g t cs x y) y
theorem KeepT.below {w w' : World} (h : Below w.heap.size w w') : KeepT w w' := fun _ _ _ x _ => x.below h x.lt
theorem KeepT.grown {w w' : World} {base n : Nat} {size : Nat} {v : Value} {xs : List Value} (h : w.ownsRow base 49 size v n xs) (hg : w.grownBy w' v.ownBlock) : KeepT w w' :=
  fun _ _ _ x hne => x.grown hg (fun e => own_blk_ne h x (fun e => hne e.symm) e.symm)
theorem FnIs.keep {w w' : World} {v : Value} {p : UInt8 → Bool} (h : FnIs w v p) (k : KeepT w w') : FnIs w' v p := by
  rcases h with h | ⟨b, x, h1, h2, h3⟩ | ⟨b, nb, cs, neg, h1, h2, h3, h4⟩
  · exact .inl h
  · exact .inr (.inl ⟨b, x, h1, k _ _ _ h2 (by decide), h3⟩)
  · exact .inr (.inr ⟨b, nb, cs, neg, h1, k _ _ _ h2 (by decide), k _ _ _ h3 (by decide), h4⟩)

set_option maxHeartbeats 400000 in
theorem any_any (c : UInt8) (w : World) : Calls Try.prog 33 #[.int .u8 (c.toNat : Int)] w fun e w' => e = .returned (.bool true) ∧ w = w' := by
  go_enter Try.func33, Try.ntmps33
  go_wp2
  go_ret
  exact ⟨rfl, rfl⟩
set_option maxHeartbeats 400000 in
theorem one_fn (b : Nat) (x c : UInt8) (w : World) (h : Blk w b 5 #[.int .u8 (x.toNat : Int)]) : Calls Try.prog 37 #[.int .u8 (c.toNat : Int), .pointer (some ⟨b, 0, none⟩)] w fun e w' => e = .returned (.bool (c == x)) ∧ w = w' := by
  have h0 : w.cell? ⟨b, 0, none⟩ = some (.int .u8 (x.toNat : Int)) := h.cell 0
  clear h
  go_enter Try.func37, Try.ntmps37
  go_wp2
  go_ret
  refine ⟨?_, rfl⟩
  by_cases e : c = x
  · subst e; simp
  · rw [u8_beq_false e]; simp [e]
set_option maxHeartbeats 400000 in
theorem bracket_fn (b nb : Nat) (cs : Array Value) (neg : Bool) (f : UInt8 → Bool) (c : UInt8) (w : World) (h : Blk w b 51 cs) (h2 : Blk w nb 4 #[.bool neg]) (hf : ∀ c : UInt8, cs[c.toNat]? = some (.bool (f c))) :
    Calls Try.prog 39 #[.int .u8 (c.toNat : Int), .pointer (some ⟨b, 0, none⟩), .pointer (some ⟨nb, 0, none⟩)] w fun e w' => e = .returned (.bool (f c != neg)) ∧ ∃ m, w' = w.drewN m := by
  have h0 : w.cell? ⟨b, c.toNat, none⟩ = some (.bool (f c)) := (h.cell _).trans (hf c)
  have h1 : w.cell? ⟨nb, 0, none⟩ = some (.bool neg) := h2.cell 0
  have hc : c.toNat < 256 := c.toNat_lt
  clear h h2 hf
  generalize f c = y at h0 ⊢
  go_enter Try.func39, Try.ntmps39
  go_wp2
  go_quiet (fail)
  go_wp2
  go_ret
  exact ⟨by cases y <;> cases neg <;> rfl, _, rfl⟩
end Go.Proofs.Ytafiadlkfjacnaa
