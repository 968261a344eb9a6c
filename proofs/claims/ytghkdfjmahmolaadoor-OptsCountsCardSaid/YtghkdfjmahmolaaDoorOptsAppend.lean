/-
  append of a slice that reads as a list; Beyond of two sizes. No condition of a claim stands here.
-/
import Derived.Test.YtghkdfjmahmolaaDoorOptsAlive
import Derived.Test.YtghkdfjmahmolaaDoorBeyond
import Derived.Laws.AppendOwnNone
namespace Go.Proofs.YtghkdfjmahmolaaDoor
open Go.RowKit

theorem wpList_append_reads {P : Program} {w : World} {ops : Array Oper} {rest : List Oper} {o : Oper} {a : Act} {Q : Exit → Act → World → Prop} (hgd : o.guard = none) (s x : Operand) (t : TypeId)
    (ho : o.op = .call { callee := .builtin .append, args := #[s, x], argTypes := #[t, t] })
    (base : Nat) (e : TypeId) (i : TypeInfo) (z : Value) (size bytes : Nat) (ht : P.underlying t = some (.slice e)) (hi : P.info? e = some i) (hz : i.zero = some z)
    (hsize : i.size = size) (hby : i.bytes = bytes) (hzs : z.cells.size = size) (hsz : 0 < size)
    (v : Value) (n : Nat) (xs : List Value) (hs : a.eval s = v) (hown : w.ownsRow base e size v n xs)
    (A : Option Addr) (m c B : Nat) (news : List Value) (hx : a.eval x = .slice A m c) (hr : Reads w B size A m news) (hnil : A = none → c = 0) (h1 : ∀ u ∈ news, u.oneCell' = true)
    (h63 : n + m ≤ maxLen) (hbytes : (n + m) * bytes ≤ 140737488355328) (hbase : base ≤ w.heap.size)
    (h : ∀ v' w', w'.ownsRow base e size v' (n + m) (xs ++ news) → w.grownBy w' v.ownBlock → wpList P ops Q rest (a.put o.dst v') w') : wpList P ops Q (o :: rest) a w := by
  cases A with
  | none =>
    have hc := hnil rfl
    subst hc
    have hm : m = 0 := by
      rcases Nat.eq_zero_or_pos m with h0 | h0
      · exact h0
      · obtain ⟨ad, e, _⟩ := hr.2 h0; cases e
    subst hm
    have hnw : news = [] := List.eq_nil_of_length_eq_zero (by rw [hr.1]; simp)
    subst hnw
    refine wpList_append_own_none hgd s x t ho base e i size ht hi v n xs hs hown hx (h v w ?_ (only_of_below (Below.refl _ _) _))
    rw [List.append_nil]
    exact hown
  | some ad =>
    refine wpList_append_own w hgd s x t ho base e i z size bytes ht hi hz hsize hby hzs hsz v n xs hs hown ad m c news hx hr.1 (fun j u hu => ?_) h1 h63 hbytes hbase (fun v' w' k1 k2 _ => h v' w' k1 k2)
    have hm : 0 < m := by
      rcases Nat.eq_zero_or_pos m with h0 | h0
      · subst h0
        have hnw : news = [] := List.eq_nil_of_length_eq_zero (by rw [hr.1]; simp)
        rw [hnw] at hu
        simp at hu
      · exact h0
    obtain ⟨ad', e', _, hc⟩ := hr.2 hm
    injection e' with e'
    subst e'
    exact hc j u hu
theorem beyond_two (y z : Nat) (c : Nat) (w : World) (hy : y ≤ 1125899906842624) (hz : z ≤ 1125899906842624) :
    Calls Tryd.prog 11 #[.slice (some ⟨w.heap.size, 0, none⟩) 2 c] (w.alloc (.cells #[.int .i64 (y : Int), .int .i64 (z : Int)] 3)) fun e w' => e = .returned (.bool (decide (1048576 < y + z))) ∧ w.alloc (.cells #[.int .i64 (y : Int), .int .i64 (z : Int)] 3) = w' := by
  have hr := reads_row w 3 1 2 #[.int .i64 (y : Int), .int .i64 (z : Int)] (iv [y, z]) rfl rfl
  refine (beyond_any (some ⟨w.heap.size, 0, none⟩) 2 c (w.heap.size + 1) [y, z] _ hr (fun k h => ?_) (by omega)).mono fun e w' h => ⟨?_, h.2⟩
  · match k, h with
    | 0, _ => exact hy
    | 1, _ => exact hz
  · rw [h.1]
    unfold bydB
    rw [show [y, z].sum = y + z by simp]
theorem own_cap_ {w : World} {base n c k : Nat} {e : TypeId} {A : Option Addr} {xs : List Value} (h : w.ownsRow base e k (.slice A n c) n xs) : n ≤ c ∧ c ≤ 9223372036854775807 := by
  rcases h.2 with ⟨e1, h0⟩ | ⟨g, cap, cur, hv, _, _, hnc, hcm, _⟩
  · injection e1 with _ h1 h2; omega
  · injection hv with _ _ h2; subst h2; exact ⟨hnc, hcm⟩
theorem parse_use2 (which : List UInt8) (args : List (List UInt8)) (fl : List FlagL) (rest : List (List UInt8)) (code : Nat) (hV : optsV which args = (fl, rest, code)) (A : Option Addr) (n c : Nat) (w : World) (hw : which.length ≤ 2097152) (hr : Reads w w.heap.size 1 A n (txv args)) (hnc : n ≤ c) (hn : n ≤ 140737488351232) (hS : Fits args) :
    Calls Tryd.prog 16 #[.string (str which), .slice A n c] w fun e w' => ∃ A1 c1 A2 c2, e = .returned (.tuple #[.slice A1 fl.length c1, .slice A2 rest.length c2, .int .i64 (code : Nat)]) ∧
      Reads w' w'.heap.size 2 A1 fl.length (flv fl) ∧ Reads w' w'.heap.size 1 A2 rest.length (txv rest) ∧ fl.length ≤ 9223372036854775807 ∧ Below w.heap.size w w' :=
  (optsParse_any which A n c args w hw hr hnc hn hS).mono fun e w' ⟨h, hB⟩ => by
    unfold OptsIs at h
    rw [hV] at h
    obtain ⟨v, v', he, h1, h2⟩ := h
    obtain ⟨A1, c1, rfl⟩ := own_slice h1
    obtain ⟨A2, c2, rfl⟩ := own_slice h2
    have hc := own_cap_ h1
    exact ⟨A1, c1, A2, c2, he, Reads.of_own h1, Reads.of_own h2, Nat.le_trans hc.1 hc.2, hB⟩
theorem parse_own (which : List UInt8) (args : List (List UInt8)) (fl : List FlagL) (rest : List (List UInt8)) (code : Nat) (hV : optsV which args = (fl, rest, code)) (A : Option Addr) (n c : Nat) (w : World) (hw : which.length ≤ 2097152) (hr : Reads w w.heap.size 1 A n (txv args)) (hnc : n ≤ c) (hn : n ≤ 140737488351232) (hS : Fits args) :
    Calls Tryd.prog 16 #[.string (str which), .slice A n c] w fun e w' => ∃ A1 c1 A2 c2, e = .returned (.tuple #[.slice A1 fl.length c1, .slice A2 rest.length c2, .int .i64 (code : Nat)]) ∧
      w'.ownsRow w.heap.size 38 2 (.slice A1 fl.length c1) fl.length (flv fl) ∧ w'.ownsRow w.heap.size 9 1 (.slice A2 rest.length c2) rest.length (txv rest) ∧ Below w.heap.size w w' :=
  (optsParse_any which A n c args w hw hr hnc hn hS).mono fun e w' ⟨h, hB⟩ => by
    unfold OptsIs at h
    rw [hV] at h
    obtain ⟨v, v', he, h1, h2⟩ := h
    obtain ⟨A1, c1, rfl⟩ := own_slice h1
    obtain ⟨A2, c2, rfl⟩ := own_slice h2
    exact ⟨A1, c1, A2, c2, he, h1, h2, hB⟩
/-- A row of a later call's own is none of an earlier one's. -/
theorem own_later {w w0 : World} {base base' n n' size size' : Nat} {e e' : TypeId} {v v' : Value} {xs xs' : List Value} (h : w.ownsRow base e size v n xs) (h' : w0.ownsRow base' e' size' v' n' xs') (hle : w0.heap.size ≤ base) : v.ownBlock = none ∨ v.ownBlock ≠ v'.ownBlock := by
  cases hv : v.ownBlock with
  | none => exact .inl rfl
  | some g =>
    refine .inr (fun e => ?_)
    have h1 := (h.lt g hv).1
    have h2 := (h'.lt g e.symm).2
    omega
end Go.Proofs.YtghkdfjmahmolaaDoor
