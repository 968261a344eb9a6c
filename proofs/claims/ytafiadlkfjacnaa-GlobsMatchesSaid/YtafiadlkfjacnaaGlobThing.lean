/-
  globs.one, globs.bracket: contracts.
-/
import Derived.Test.YtafiadlkfjacnaaGlobFns
import Derived.Test.YtafiadlkfjacnaaQuote
import Derived.Lib.PathFns
import Derived.Laws.EntriesVeiled
namespace Go.Proofs.Ytafiadlkfjacnaa
open Go.RowKit

theorem infoThing : (Try.prog.info? 49).map (fun i => (i.zero, i.size, i.bytes)) = some (some (.agg #[.int .i64 0, .nilFunc]), 2, 16) := by kernel_rfl
theorem infoThingSize (cs : Array Value) (h : cs.size = 2) : (Try.prog.info? 49).map (·.size) = some cs.size := by rw [h]; kernel_rfl
theorem makeFunc_run (fn : Fn) (first cap : Array Value) (w : World) : (Instr.makeFunc fn first cap).run Try.prog w = .ok (.func fn first cap) w := rfl
/-- A thing, as it lies: its kind, and its function value. -/
abbrev TV := Value × Value
def tcells (x : TV) : List Value := [x.1, x.2]
theorem tcells_len (x : TV) : (tcells x).length = 2 := rfl
def ThingIs (w : World) (x : TV) (t : Thing) : Prop := match t with
  | none => x = (.int .i64 0, .nilFunc)
  | some p => ∃ v, x = (.int .i64 1, v) ∧ FnIs w v p
theorem ThingIs.keep {w w' : World} {x : TV} {t : Thing} (h : ThingIs w x t) (k : KeepT w w') : ThingIs w' x t := by
  cases t with
  | none => exact h
  | some p => obtain ⟨v, h1, h2⟩ := h; exact ⟨v, h1, h2.keep k⟩

theorem KeepT.setT {w : World} {g : Nat} {cs : Array Value} (h : Blk w g 49 cs) (i : Nat) (v : Value) : KeepT w (w.setCell ⟨g, i, none⟩ v) :=
  fun _ _ _ hb hne => hb.far (p := ⟨g, i, none⟩) (hb.ne_ h hne) v
theorem KeepT.set2 {w : World} {g : Nat} {cs : Array Value} (h : Blk w g 49 cs) (v v' : Value) : KeepT w ((w.setCell ⟨g, 0, none⟩ v).setCell ⟨g, 1, none⟩ v') :=
  (KeepT.setT h 0 v).trans (KeepT.setT (h.set_ 0 v) 1 v')
/-! ### one -/
set_option maxHeartbeats 400000 in
theorem gone_any (x : UInt8) (w : World) :
    Calls Try.prog 34 #[.int .u8 (x.toNat : Int)] w fun e w' => (∃ b, e = .returned (.agg #[.int .i64 1, .func (.func 37) #[] #[.pointer (some ⟨b, 0, none⟩)]]) ∧ FnIs w' (.func (.func 37) #[] #[.pointer (some ⟨b, 0, none⟩)]) (· == x)) ∧ Below w.heap.size w w' := by
  have hmf := makeFunc_run
  go_enter Try.func34, Try.ntmps34
  go_wp2_with fail
  have hb := (Blk.new w 5 #[.int .u8 (x.toNat : Int)]).alloc (.cells #[.int .i64 1, .func (.func 37) #[] #[.pointer (some ⟨w.heap.size, 0, none⟩)]] 49)
  have hB := ((Below.refl w.heap.size w).alloc (Nat.le_refl _) (.cells #[.int .u8 (x.toNat : Int)] 5)).alloc (by simp) (.cells #[.int .i64 1, .func (.func 37) #[] #[.pointer (some ⟨w.heap.size, 0, none⟩)]] 49)
  have hr := heap_alloc_new (w.alloc (.cells #[.int .u8 (x.toNat : Int)] 5)) (.cells #[.int .i64 1, .func (.func 37) #[] #[.pointer (some ⟨w.heap.size, 0, none⟩)]] 49)
  rw [show (w.alloc (.cells #[.int .u8 (x.toNat : Int)] 5)).heap.size = w.heap.size + 1 from by simp] at hr
  refine bodyPost_ret (v := .agg #[.int .i64 1, .func (.func 37) #[] #[.pointer (some ⟨w.heap.size, 0, none⟩)]]) (by refine results_cell_row (p := 2) (ty := 49) ?_ _ _ (w.heap.size + 1) _ _ _ _ ?_ hr Try.underlying49 rfl (infoThingSize _ rfl) <;> rfl) rfl ⟨⟨_, rfl, .inr (.inl ⟨_, x, rfl, hb, fun c => rfl⟩)⟩, hB⟩

/-! ### bracket -/
def Tab (w : World) (g : Nat) (f : UInt8 → Bool) : Prop := ∃ cs : Array Value, Blk w g 51 cs ∧ cs.size = 256 ∧ ∀ c : UInt8, cs[c.toNat]? = some (.bool (f c))
section
variable {w w' : World} {g : Nat} {f f' : UInt8 → Bool}
theorem Tab.cell (h : Tab w g f) (c : UInt8) : w.cell? ⟨g, c.toNat, none⟩ = some (.bool (f c)) := by
  obtain ⟨cs, hb, _, hc⟩ := h
  exact (hb.cell _).trans (hc c)
theorem Tab.frozen (h : Tab w g f) (i : Nat) : w.frozen? ⟨g, i, none⟩ = false := by
  obtain ⟨cs, hb, _⟩ := h
  exact hb.frozen i
theorem Tab.congr (h : Tab w g f) (e : ∀ c, f c = f' c) : Tab w g f' := by
  obtain ⟨cs, hb, hs, hc⟩ := h
  exact ⟨cs, hb, hs, fun c => by rw [hc c, e c]⟩
theorem Tab.set (h : Tab w g f) (x : UInt8) (v : Bool) : Tab (w.setCell ⟨g, x.toNat, none⟩ (.bool v)) g (fun c => if c = x then v else f c) := by
  obtain ⟨cs, hb, hs, hc⟩ := h
  refine ⟨_, hb.set_ x.toNat (.bool v), by simpa using hs, fun c => ?_⟩
  rw [Array.getElem?_setIfInBounds]
  by_cases e : c = x
  · subst e
    have : c.toNat < cs.size := by have := c.toNat_lt; omega
    simp [this]
  · rw [if_neg (fun h => e (UInt8.toNat_inj.1 h.symm))]
    show cs[c.toNat]? = some (.bool (if c = x then v else f c))
    rw [if_neg e]
    exact hc c
theorem Tab.drewN (h : Tab w g f) (k : Nat) : Tab (w.drewN k) g f := h
theorem Tab.below {B : Nat} (h : Tab w g f) (hb : Below B w w') (hg : g < B) : Tab w' g f := by
  obtain ⟨cs, hb', r⟩ := h
  exact ⟨cs, hb'.below hb hg, r⟩
theorem Tab.lt (h : Tab w g f) : g < w.heap.size := by
  obtain ⟨cs, hb, _⟩ := h
  exact hb.lt
end
theorem brk_one (a : UInt8) (r : List UInt8) (c : UInt8) (h : ∀ b s, r ≠ 45 :: b :: s) : brk (a :: r) c = (a == c || brk r c) := by
  match r with
  | [] => simp [brk]
  | [x] => simp [brk]
  | x :: b :: s =>
    rw [brk, if_neg (fun e => h b s (by rw [e]))]
theorem brk_range (a b : UInt8) (r : List UInt8) (c : UInt8) : brk (a :: 45 :: b :: r) c = ((decide (a ≤ c) && decide (c ≤ b)) || brk r c) := by
  rw [brk, if_pos rfl]
/-- The text of a list. -/
def str (l : List UInt8) : ByteArray := ⟨l.toArray⟩
theorem str_size (l : List UInt8) : (str l).size = l.length := List.size_toArray
theorem str_empty : (str []).toList.isEmpty = true := by rw [ByteArray.toList_eq]; rfl
theorem str_cons (a : UInt8) (r : List UInt8) : (str (a :: r)).toList.isEmpty = false := by rw [ByteArray.toList_eq]; rfl
theorem str_list (l : List UInt8) : (str l).data.toList = l := rfl
theorem str_of (s : ByteArray) : s = str s.data.toList := by obtain ⟨⟨l⟩⟩ := s; rfl
theorem str_from (l : List UInt8) (k : Nat) : (str l).extract k (str l).size = str (l.drop k) := Go.Lib.Pa.extract_from (str l) k
theorem str_upto (l : List UInt8) (k : Nat) : (str l).extract 0 k = str (l.take k) := Go.Lib.Pa.extract_upto (str l) k

def rngF (f : UInt8 → Bool) (a : UInt8) (q : Nat) (c : UInt8) : Bool := f c || (decide (a.toNat ≤ c.toNat) && decide (c.toNat < q))
theorem rngF_zero (f : UInt8 → Bool) (a c : UInt8) : rngF f a a.toNat c = f c := by
  unfold rngF
  by_cases h : a.toNat ≤ c.toNat
  · rw [decide_eq_false (show ¬ c.toNat < a.toNat by omega)]; simp
  · rw [decide_eq_false h]; simp
theorem rngF_succ (f : UInt8 → Bool) (a : UInt8) (q : Nat) (h1 : a.toNat ≤ q) (h2 : q < 256) (c : UInt8) : rngF f a (q + 1) c = if c = UInt8.ofNat q then true else rngF f a q c := by
  by_cases e : c = UInt8.ofNat q
  · have : c.toNat = q := by rw [e]; simp; omega
    rw [if_pos e]
    unfold rngF
    rw [decide_eq_true (show a.toNat ≤ c.toNat by omega), decide_eq_true (show c.toNat < q + 1 by omega)]
    simp
  · rw [if_neg e]
    have hne : c.toNat ≠ q := fun h => e (UInt8.toNat_inj.1 (by simp; omega))
    unfold rngF
    have : decide (c.toNat < q + 1) = decide (c.toNat < q) := by
      by_cases h : c.toNat < q
      · rw [decide_eq_true h, decide_eq_true (by omega)]
      · rw [decide_eq_false h, decide_eq_false (by omega)]
    rw [this]
theorem rngF_end (f : UInt8 → Bool) (a b : UInt8) (q : Nat) (h1 : b.toNat < q) (h2 : q ≤ b.toNat + 1 ∨ q = a.toNat) (c : UInt8) : rngF f a q c = (f c || (decide (a ≤ c) && decide (c ≤ b))) := by
  unfold rngF
  have e1 : decide (a ≤ c) = decide (a.toNat ≤ c.toNat) := by simp [UInt8.le_iff_toNat_le]
  have e2 : decide (c ≤ b) = decide (c.toNat ≤ b.toNat) := by simp [UInt8.le_iff_toNat_le]
  rw [e1, e2]
  by_cases h : a.toNat ≤ c.toNat
  · rw [decide_eq_true h]
    by_cases h3 : c.toNat ≤ b.toNat
    · rw [decide_eq_true h3, decide_eq_true (by omega)]
    · rw [decide_eq_false h3, decide_eq_false (by omega)]
  · rw [decide_eq_false h]; simp
theorem Tab.set_q {w : World} {g : Nat} {f : UInt8 → Bool} {a : UInt8} {q : Nat} (h : Tab w g (rngF f a q)) (h1 : a.toNat ≤ q) (h2 : q < 256) : Tab (w.setCell ⟨g, q, none⟩ (.bool true)) g (rngF f a (q + 1)) := by
  have := h.set (UInt8.ofNat q) true
  rw [show (UInt8.ofNat q).toNat = q from by simp; omega] at this
  exact this.congr fun c => (rngF_succ f a q h1 h2 c).symm
theorem Tab.cell_q {w : World} {g : Nat} {f : UInt8 → Bool} {q : Nat} (h : Tab w g f) (h2 : q < 256) : w.cell? ⟨g, q, none⟩ = some (.bool (f (UInt8.ofNat q))) := by
  have := h.cell (UInt8.ofNat q)
  rwa [show (UInt8.ofNat q).toNat = q from by simp; omega] at this
theorem Tab.new (w : World) : Tab (w.alloc (.cells (Array.replicate 256 (.bool false)) 51)) w.heap.size (fun _ => false) :=
  ⟨_, Blk.new _ _ _, by simp, fun c => by rw [Array.getElem?_replicate, if_pos c.toNat_lt]⟩
end Go.Proofs.Ytafiadlkfjacnaa
