/-
  lists.Has, toolchestref03.Has, and what lists.Text asks of each range: contracts.
-/
import Derived.Test.YtgibhlpocmppjaaDoorLstRanges
import Derived.Test.YtgibhlpocmppjaaDoorListPlain
import Derived.Outline
namespace Go.Proofs.YtgibhlpocmppjaaDoor
open Go.RowKit

def inV (r : Rng) (n : Int) : Bool := decide (r.fr ≤ n) && (decide (r.to = 0) || decide (n ≤ r.to))
def hasV (l : List Rng) (n : Int) : Bool := l.any fun r => inV r n
theorem int_eq_true {a b : Int} (h : a = b) : (a == b) = true := by simp [h]
theorem int_eq_false {a b : Int} (h : ¬ a = b) : (a == b) = false := by simp [h]
set_option maxHeartbeats 400000 in
theorem in_any (fr to n : Int) (w : World) :
    Calls Tryd.prog 24 #[.agg #[.int .i64 fr, .int .i64 to], .int .i64 n] w fun e w' => e = .returned (.bool (inV ⟨fr, to⟩ n)) ∧ Below w.heap.size w w' := by
  have hB : Below w.heap.size w (w.alloc (.cells #[.int .i64 fr, .int .i64 to] 41)) := (Below.refl _ _).alloc (Nat.le_refl _) _
  have HB := Lib.hid hB
  clear hB
  by_cases h1 : fr ≤ n
  · by_cases h2 : to = 0
    · have q := int_eq_true h2
      have HR := Lib.hid (show inV ⟨fr, to⟩ n = true by unfold inV; simp [h1, h2])
      clear h2
      go_enter Tryd.func24, Tryd.ntmps24
      go_wp2
      go_ret
      exact ⟨ret_bool HR.out.symm, HB.out⟩
    · have q := int_eq_false h2
      by_cases h3 : n ≤ to
      · have HR := Lib.hid (show inV ⟨fr, to⟩ n = true by unfold inV; simp [h1, h3])
        go_enter Tryd.func24, Tryd.ntmps24
        go_wp2
        go_ret
        exact ⟨ret_bool (by rw [HR.out]), HB.out⟩
      · have HR := Lib.hid (show inV ⟨fr, to⟩ n = false by unfold inV; simp [h1, h2, h3])
        go_enter Tryd.func24, Tryd.ntmps24
        go_wp2
        go_ret
        exact ⟨ret_bool (by rw [HR.out]), HB.out⟩
  · have HR := Lib.hid (show inV ⟨fr, to⟩ n = false by unfold inV; simp [h1])
    go_enter Tryd.func24, Tryd.ntmps24
    go_wp2
    go_ret
    exact ⟨ret_bool (by rw [HR.out]), HB.out⟩
set_option maxHeartbeats 400000 in
theorem hasFn_any (fr to n : Int) (g : Nat) (w : World) (hg : Blk w g 3 #[.int .i64 n]) :
    Calls Tryd.prog 23 #[.agg #[.int .i64 fr, .int .i64 to], .pointer (some ⟨g, 0, none⟩)] w fun e w' => e = .returned (.bool (inV ⟨fr, to⟩ n)) ∧ Below w.heap.size w w' := by
  have hb := hg.alloc (.cells #[.int .i64 fr, .int .i64 to] 41)
  have hc : (w.alloc (.cells #[.int .i64 fr, .int .i64 to] 41)).cell? ⟨g, 0, none⟩ = some (.int .i64 n) := hb.cell 0
  have hB : Below w.heap.size w (w.alloc (.cells #[.int .i64 fr, .int .i64 to] 41)) := (Below.refl _ _).alloc (Nat.le_refl _) _
  have HB := Lib.hid hB
  clear hB hb
  go_enter Tryd.func23, Tryd.ntmps23
  go_wp2_with fail
  refine (in_any fr to n _).mono ?_
  rintro e w2 ⟨rfl, hB2⟩
  go_wp2_with fail
  go_ret
  exact ⟨rfl, below_then HB.out HB.out.size hB2⟩
/-- May a range not be told? -/
def badV (r : Rng) : Bool := !rngOk r
set_option maxHeartbeats 1000000 in
theorem badFn_any (fr to : Int) (w : World) :
    Calls Tryd.prog 20 #[.agg #[.int .i64 fr, .int .i64 to]] w fun e w' => e = .returned (.bool (badV ⟨fr, to⟩)) ∧ Below w.heap.size w w' := by
  have hB : Below w.heap.size w (w.alloc (.cells #[.int .i64 fr, .int .i64 to] 41)) := (Below.refl _ _).alloc (Nat.le_refl _) _
  have HB := Lib.hid hB
  clear hB
  have hrb : ∀ b : Bool, (b = true ↔ ¬ (1 ≤ fr ∧ fr ≤ 2147483647 ∧ to ≤ 2147483647 ∧ (to = 0 ∨ fr ≤ to))) → badV ⟨fr, to⟩ = b := fun b h => by
    unfold badV
    cases hr : rngOk ⟨fr, to⟩ with
    | true =>
      rw [rngOk_iff] at hr
      cases b with
      | true => exact absurd hr (h.1 rfl)
      | false => rfl
    | false =>
      have : ¬ rngOk ⟨fr, to⟩ = true := by rw [hr]; decide
      rw [rngOk_iff] at this
      exact (h.2 this).symm
  have HRB := Lib.hid hrb
  clear hrb
  by_cases h1 : fr < 1
  · have HR := HRB.out true (by simp; omega)
    have HR2 := Lib.hid HR
    clear HR
    go_enter Tryd.func20, Tryd.ntmps20
    go_wp2
    go_ret
    exact ⟨ret_bool HR2.out.symm, HB.out⟩
  by_cases h2 : 2147483647 < fr
  · have HR2 := Lib.hid (HRB.out true (by simp; omega))
    go_enter Tryd.func20, Tryd.ntmps20
    go_wp2
    go_ret
    exact ⟨ret_bool HR2.out.symm, HB.out⟩
  by_cases h3 : 2147483647 < to
  · have HR2 := Lib.hid (HRB.out true (by simp; omega))
    go_enter Tryd.func20, Tryd.ntmps20
    go_wp2
    go_ret
    exact ⟨ret_bool HR2.out.symm, HB.out⟩
  by_cases h4 : to < 0
  · have HR2 := Lib.hid (HRB.out true (by simp; omega))
    go_enter Tryd.func20, Tryd.ntmps20
    go_wp2
    go_ret
    exact ⟨ret_bool HR2.out.symm, HB.out⟩
  by_cases h5 : 0 < to
  · by_cases h6 : to < fr
    · have HR2 := Lib.hid (HRB.out true (by simp; omega))
      go_enter Tryd.func20, Tryd.ntmps20
      go_wp2
      go_ret
      exact ⟨ret_bool (by rw [HR2.out]), HB.out⟩
    · have HR2 := Lib.hid (HRB.out false (by simp; omega))
      go_enter Tryd.func20, Tryd.ntmps20
      go_wp2
      go_ret
      exact ⟨ret_bool (by rw [HR2.out]), HB.out⟩
  · have HR2 := Lib.hid (HRB.out false (by simp; omega))
    go_enter Tryd.func20, Tryd.ntmps20
    go_wp2
    go_ret
    exact ⟨ret_bool (by rw [HR2.out]), HB.out⟩

/-! ### A search through a slice -/
def idxV (p : Rng → Bool) (l : List Rng) : Int := match l.findIdx? p with
  | some i => (i : Int)
  | none => -1
theorem idxV_at (p : Rng → Bool) (l : List Rng) (q : Nat) (hq : q < l.length) (h : p l[q] = true) (hno : ∀ j (hj : j < l.length), j < q → p l[j] = false) : idxV p l = (q : Int) := by
  have : l.findIdx? p = some q := by
    rw [List.findIdx?_eq_some_iff_getElem]
    exact ⟨hq, h, fun j hj => by simpa using hno j (by omega) hj⟩
  unfold idxV
  rw [this]
theorem idxV_none (p : Rng → Bool) (l : List Rng) (hno : ∀ j (hj : j < l.length), p l[j] = false) : idxV p l = -1 := by
  have : l.findIdx? p = none := by
    rw [List.findIdx?_eq_none_iff]
    intro x hx
    obtain ⟨j, hj, rfl⟩ := List.getElem_of_mem hx
    exact hno j hj
  unfold idxV
  rw [this]
theorem idxV_any (p : Rng → Bool) (l : List Rng) : (idxV p l = -1 ∧ l.any p = false) ∨ (0 ≤ idxV p l ∧ l.any p = true) := by
  unfold idxV
  cases h : l.findIdx? p with
  | none =>
    rw [List.findIdx?_eq_none_iff] at h
    exact .inl ⟨rfl, List.any_eq_false.2 fun x hx => by rw [h x hx]; decide⟩
  | some i =>
    rw [List.findIdx?_eq_some_iff_getElem] at h
    obtain ⟨hi, hp, _⟩ := h
    exact .inr ⟨by show 0 ≤ (i : Int); omega, List.any_eq_true.2 ⟨l[i], List.getElem_mem hi, hp⟩⟩
set_option maxHeartbeats 1000000 in
theorem indexHas_any (A : Option Addr) (n c : Nat) (l : List Rng) (x : Int) (g : Nat) (w : World) (hr : Reads w w.heap.size 2 A n (rngv l)) (hn : n ≤ 140737488351232) (hg : Blk w g 3 #[.int .i64 x]) (hgl : g < w.heap.size) :
    Calls Tryd.prog 27 #[.slice A n c, .func (.func 23) #[] #[.pointer (some ⟨g, 0, none⟩)]] w fun e w' => e = .returned (.int .i64 (idxV (fun r => inV r x) l)) ∧ Below w.heap.size w w' := by
  have hl : l.length = n := by have := hr.1; rw [sv_length _ 2 rng1_len] at this; omega
  have HL := Lib.hid hl
  clear hl
  go_enter Tryd.func27, Tryd.ntmps27
  go_wp2_with fail
  go_loopw [8] (fun i wr => ∃ q : Nat, q ≤ n ∧ i = .int .i64 q ∧ Below w.heap.size w wr ∧ Hid (∀ j (hj : j < l.length), j < q → (fun r => inV r x) l[j] = false)) (fun i _ => n - (intOf i).toNat)
  case atStart => exact ⟨0, Nat.zero_le _, rfl, Below.refl _ _, hide fun j _ h => absurd h (by omega)⟩
  case round =>
    obtain ⟨q, hq, rfl, hB, hno⟩ := hrel
    have hBsz := hB.size
    by_cases hlt : q < n
    · have hql : q < l.length := by rw [HL.out]; exact hlt
      obtain ⟨ad, rfl, had, hce0, hce1⟩ := (hr.below hB).elem rng1_len hlt HL.out (by omega)
      have c0 := hce0 _ rfl
      have c1 := hce1 0 _ rfl
      obtain ⟨r, hre⟩ : ∃ r, r = l[q] := ⟨_, rfl⟩
      rw [← hre] at c0 c1
      have HRE := Lib.hid hre
      clear hce0 hce1 hre
      go_wp2_with fail
      refine (hasFn_any r.fr r.to x g wr (hg.below hB hgl)).mono ?_
      rintro e w2 ⟨rfl, hB2⟩
      have hB3 := below_then hB hBsz hB2
      cases hv : inV ⟨r.fr, r.to⟩ x with
      | true =>
        have HI := Lib.hid (idxV_at (fun r => inV r x) l q hql (by rw [← HRE.out]; exact hv) (fun j hj h => hno.out j hj h))
        clear hv
        go_wp2_with fail
        go_ret
        exact ⟨by rw [HI.out]; rfl, hB3⟩
      | false =>
        have HV := Lib.hid hv
        clear hv
        go_wp2_with fail
        go_roundw
        case rel =>
          exact ⟨q + 1, by omega, by go_num, hB3, hide fun j hj hjk => by
            by_cases e : j = q
            · subst e
              rw [← HRE.out]
              exact HV.out
            · exact hno.out j hj (by omega)⟩
        case measure => simp [intOf]; omega
    · obtain rfl : q = n := by omega
      have HI := Lib.hid (idxV_none (fun r => inV r x) l (fun j hj => hno.out j hj (by rw [← HL.out]; exact hj)))
      go_wp2_with fail
      go_ret
      exact ⟨by rw [HI.out]; rfl, hB⟩
set_option maxHeartbeats 400000 in
theorem containsHas_any (A : Option Addr) (n c : Nat) (l : List Rng) (x : Int) (g : Nat) (w : World) (hr : Reads w w.heap.size 2 A n (rngv l)) (hn : n ≤ 140737488351232) (hg : Blk w g 3 #[.int .i64 x]) (hgl : g < w.heap.size) :
    Calls Tryd.prog 19 #[.slice A n c, .func (.func 23) #[] #[.pointer (some ⟨g, 0, none⟩)]] w fun e w' => e = .returned (.bool (l.any (fun r => inV r x))) ∧ Below w.heap.size w w' := by
  have hi := idxV_any (fun r => inV r x) l
  have HI := Lib.hid hi
  clear hi
  go_enter Tryd.func19, Tryd.ntmps19
  go_wp2_with fail
  refine (indexHas_any A n c l x g w hr hn hg hgl).mono ?_
  rintro e w2 ⟨rfl, hB2⟩
  obtain ⟨z, hz⟩ : ∃ z, z = idxV (fun r => inV r x) l := ⟨_, rfl⟩
  rw [← hz] at HI ⊢
  clear hz
  rcases HI.out with ⟨h1, h2⟩ | ⟨h1, h2⟩
  · have H2 := Lib.hid h2
    subst h1
    clear h2
    go_wp2_with fail
    go_ret
    exact ⟨by rw [H2.out]; rfl, hB2⟩
  · have H2 := Lib.hid h2
    clear h2
    have hd : decide (0 ≤ z) = true := decide_eq_true h1
    go_wp2_with fail
    go_ret
    exact ⟨by rw [H2.out]; rfl, hB2⟩

set_option maxHeartbeats 1000000 in
theorem indexBad_any (A : Option Addr) (n c : Nat) (l : List Rng) (w : World) (hr : Reads w w.heap.size 2 A n (rngv l)) (hn : n ≤ 140737488351232) :
    Calls Tryd.prog 27 #[.slice A n c, .func (.func 20) #[] #[]] w fun e w' => e = .returned (.int .i64 (idxV badV l)) ∧ Below w.heap.size w w' := by
  have hl : l.length = n := by have := hr.1; rw [sv_length _ 2 rng1_len] at this; omega
  have HL := Lib.hid hl
  clear hl
  go_enter Tryd.func27, Tryd.ntmps27
  go_wp2_with fail
  go_loopw [8] (fun i wr => ∃ q : Nat, q ≤ n ∧ i = .int .i64 q ∧ Below w.heap.size w wr ∧ Hid (∀ j (hj : j < l.length), j < q → badV l[j] = false)) (fun i _ => n - (intOf i).toNat)
  case atStart => exact ⟨0, Nat.zero_le _, rfl, Below.refl _ _, hide fun j _ h => absurd h (by omega)⟩
  case round =>
    obtain ⟨q, hq, rfl, hB, hno⟩ := hrel
    have hBsz := hB.size
    by_cases hlt : q < n
    · have hql : q < l.length := by rw [HL.out]; exact hlt
      obtain ⟨ad, rfl, had, hce0, hce1⟩ := (hr.below hB).elem rng1_len hlt HL.out (by omega)
      have c0 := hce0 _ rfl
      have c1 := hce1 0 _ rfl
      obtain ⟨r, hre⟩ : ∃ r, r = l[q] := ⟨_, rfl⟩
      rw [← hre] at c0 c1
      have HRE := Lib.hid hre
      clear hce0 hce1 hre
      go_wp2_with fail
      refine (badFn_any r.fr r.to wr).mono ?_
      rintro e w2 ⟨rfl, hB2⟩
      have hB3 := below_then hB hBsz hB2
      cases hv : badV ⟨r.fr, r.to⟩ with
      | true =>
        have HI := Lib.hid (idxV_at badV l q hql (by rw [← HRE.out]; exact hv) (fun j hj h => hno.out j hj h))
        clear hv
        go_wp2_with fail
        go_ret
        exact ⟨by rw [HI.out]; rfl, hB3⟩
      | false =>
        have HV := Lib.hid hv
        clear hv
        go_wp2_with fail
        go_roundw
        case rel =>
          exact ⟨q + 1, by omega, by go_num, hB3, hide fun j hj hjk => by
            by_cases e : j = q
            · subst e
              rw [← HRE.out]
              exact HV.out
            · exact hno.out j hj (by omega)⟩
        case measure => simp [intOf]; omega
    · obtain rfl : q = n := by omega
      have HI := Lib.hid (idxV_none badV l (fun j hj => hno.out j hj (by rw [← HL.out]; exact hj)))
      go_wp2_with fail
      go_ret
      exact ⟨by rw [HI.out]; rfl, hB⟩
set_option maxHeartbeats 400000 in
theorem containsBad_any (A : Option Addr) (n c : Nat) (l : List Rng) (w : World) (hr : Reads w w.heap.size 2 A n (rngv l)) (hn : n ≤ 140737488351232) :
    Calls Tryd.prog 19 #[.slice A n c, .func (.func 20) #[] #[]] w fun e w' => e = .returned (.bool (l.any badV)) ∧ Below w.heap.size w w' := by
  have hi := idxV_any badV l
  have HI := Lib.hid hi
  clear hi
  go_enter Tryd.func19, Tryd.ntmps19
  go_wp2_with fail
  refine (indexBad_any A n c l w hr hn).mono ?_
  rintro e w2 ⟨rfl, hB2⟩
  obtain ⟨z, hz⟩ : ∃ z, z = idxV badV l := ⟨_, rfl⟩
  rw [← hz] at HI ⊢
  clear hz
  rcases HI.out with ⟨h1, h2⟩ | ⟨h1, h2⟩
  · have H2 := Lib.hid h2
    subst h1
    clear h2
    go_wp2_with fail
    go_ret
    exact ⟨by rw [H2.out]; rfl, hB2⟩
  · have H2 := Lib.hid h2
    clear h2
    have hd : decide (0 ≤ z) = true := decide_eq_true h1
    go_wp2_with fail
    go_ret
    exact ⟨by rw [H2.out]; rfl, hB2⟩

set_option maxHeartbeats 400000 in
theorem has_any (A : Option Addr) (n c : Nat) (l : List Rng) (x : Int) (w : World) (hr : Reads w w.heap.size 2 A n (rngv l)) (hn : n ≤ 140737488351232) :
    Calls Tryd.prog 12 #[.slice A n c, .int .i64 x] w fun e w' => e = .returned (.bool (hasV l x)) ∧ Below w.heap.size w w' := by
  have hmf : ∀ (fn : Fn) (first cap : Array Value) (w : World), (Instr.makeFunc fn first cap).run Tryd.prog w = .ok (.func fn first cap) w := fun _ _ _ _ => rfl
  have hB : Below w.heap.size w (w.alloc (.cells #[.int .i64 x] 3)) := (Below.refl _ _).alloc (Nat.le_refl _) _
  have HB := Lib.hid hB
  clear hB
  go_enter Tryd.func12, Tryd.ntmps12
  go_wp2_with fail
  refine (containsHas_any A n c l x w.heap.size _ ((hr.below HB.out).more HB.out.size) hn (Blk.new w _ _) (by simp)).mono ?_
  rintro e w2 ⟨rfl, hB2⟩
  go_wp2_with fail
  go_ret
  exact ⟨rfl, below_then HB.out HB.out.size hB2⟩
set_option maxHeartbeats 1000000 in
theorem refHas_any (A : Option Addr) (n c B : Nat) (l : List Rng) (x : Int) (w : World) (hr : Reads w B 2 A n (rngv l)) (hn : n ≤ 140737488351232) :
    Calls Tryd.prog 13 #[.slice A n c, .int .i64 x] w fun e w' => e = .returned (.bool (hasV l x)) ∧ w = w' := by
  have hl : l.length = n := by have := hr.1; rw [sv_length _ 2 rng1_len] at this; omega
  have HL := Lib.hid hl
  clear hl
  go_enter Tryd.func13, Tryd.ntmps13
  go_wp2_with fail
  go_loop [5] (fun i => ∃ q : Nat, q ≤ n ∧ i = .int .i64 q ∧ Hid (∀ j (hj : j < l.length), j < q → inV l[j] x = false)) (fun i => n - (intOf i).toNat)
  case atStart => exact ⟨0, Nat.zero_le _, rfl, hide fun j _ h => absurd h (by omega)⟩
  case round =>
    obtain ⟨q, hq, rfl, hno⟩ := hrel
    by_cases hlt : q < n
    · have hql : q < l.length := by rw [HL.out]; exact hlt
      obtain ⟨ad, rfl, had, hce0, hce1⟩ := hr.elem rng1_len hlt HL.out (by omega)
      have c0 := hce0 _ rfl
      have c1 := hce1 0 _ rfl
      obtain ⟨r, hre⟩ : ∃ r, r = l[q] := ⟨_, rfl⟩
      rw [← hre] at c0 c1
      have HRE := Lib.hid hre
      clear hce0 hce1 hre
      obtain ⟨fr, to⟩ := r
      simp only at c0 c1
      have key : ∀ b : Bool, inV ⟨fr, to⟩ x = b → (b = true → hasV l x = true) ∧ (b = false → ∀ j (hj : j < l.length), j < q + 1 → inV l[j] x = false) := fun b hb => by
        refine ⟨fun h => ?_, fun h j hj hjk => ?_⟩
        · unfold hasV
          rw [List.any_eq_true]
          exact ⟨l[q], List.getElem_mem hql, by rw [← HRE.out, hb, h]⟩
        · by_cases e : j = q
          · subst e
            rw [← HRE.out, hb, h]
          · exact hno.out j hj (by omega)
      have KEY := Lib.hid (fun (b : Bool) (hb : inV ⟨fr, to⟩ x = b) => key b hb)
      clear key
      by_cases h1 : fr ≤ x
      · by_cases h2 : to = 0
        · have q1 := int_eq_true h2
          have HT := Lib.hid ((KEY.out true (by unfold inV; simp [h1, h2])).1 rfl)
          clear h2
          go_wp2_with fail
          go_ret
          exact ⟨by rw [HT.out]; rfl, rfl⟩
        · have q1 := int_eq_false h2
          by_cases h3 : x ≤ to
          · have HT := Lib.hid ((KEY.out true (by unfold inV; simp [h1, h3])).1 rfl)
            go_wp2_with fail
            go_ret
            exact ⟨by rw [HT.out]; rfl, rfl⟩
          · have HT := Lib.hid ((KEY.out false (by unfold inV; simp [h1, h2, h3])).2 rfl)
            go_wp2_with fail
            go_round
            case rel => exact ⟨q + 1, by omega, by go_num, HT.out⟩
            case measure => simp [intOf]; omega
      · have HT := Lib.hid ((KEY.out false (by unfold inV; simp [h1])).2 rfl)
        go_wp2_with fail
        go_round
        case rel => exact ⟨q + 1, by omega, by go_num, HT.out⟩
        case measure => simp [intOf]; omega
    · obtain rfl : q = n := by omega
      have HT := Lib.hid (show hasV l x = false by
        unfold hasV
        rw [List.any_eq_false]
        intro r hr
        obtain ⟨j, hj, rfl⟩ := List.getElem_of_mem hr
        rw [hno.out j hj (by rw [← HL.out]; exact hj)]
        decide)
      go_wp2_with fail
      go_ret
      exact ⟨by rw [HT.out]; rfl, rfl⟩
end Go.Proofs.YtgibhlpocmppjaaDoor
