/-
  Blocks: the laws of what a plan makes of a text: plain, no program.
-/
import Derived.Test.YtiffmdfchibpaaaDoorBlkPlain
set_option linter.unusedVariables false
set_option linter.unusedSimpArgs false
namespace Go.Proofs.YtiffmdfchibpaaaDoor

theorem textV_bare (p : PlanV) (g : List UInt8) (h : p.seek = 0) : textV p g [] = g := by
  unfold textV
  simp [h]
theorem runV_yes (p : PlanV) (s out : List UInt8) (hp : p.ok) (hs : s.length ≤ 1048576) (ho : out.length ≤ 1048576) (hg : p.seek.toNat * p.out.toNat + (goesV p s).length ≤ 1048576) :
    runV p s out = ⟨textV p (goesV p s) out, wholes p.k (chunks p.k (takenV p s)), parts p.k (chunks p.k (takenV p s)), (goesV p s).length / p.out.toNat, min ((goesV p s).length % p.out.toNat) 1, 0⟩ := by
  unfold runV
  rw [if_neg (fun h => h hp), if_neg (by omega)]
  show (if 1048576 < p.seek.toNat * p.out.toNat + (goesV p s).length then _ else _) = _
  rw [if_neg (by omega)]
  rfl
theorem ok_k (p : PlanV) (hp : p.ok) : 1 ≤ p.k ∧ p.k ≤ 65536 ∧ (p.k : Int) = p.inn := by
  obtain ⟨⟨h1, h2⟩, _⟩ := hp
  unfold PlanV.k
  omega
theorem takenV_len (p : PlanV) (s : List UInt8) : (takenV p s).length ≤ s.length := by
  unfold takenV limV
  split
  · rw [List.length_drop]; omega
  · rw [List.length_take, List.length_drop]; omega
theorem goesV_len (p : PlanV) (hp : p.ok) (s : List UInt8) : (goesV p s).length ≤ s.length + 65535 := by
  obtain ⟨h1, h2, _⟩ := ok_k p hp
  have := (goes_len p h1 (takenV p s)).1
  have := takenV_len p s
  unfold goesV
  omega
/-- A plan that changes nothing. -/
theorem blkV_plain (p : PlanV) (h1 : p.swab = false) (h2 : p.upper = false) (h3 : p.lower = false) (h4 : p.sync = false) (s : List UInt8) : blkV p s = s := by
  unfold blkV lowerV raiseV turnV fillV
  rw [h1, h2, h3, h4]
  rfl
theorem goesL_plain (p : PlanV) (h : ∀ s, blkV p s = s) (l : List (List UInt8)) : goesL p l = l.flatten := by
  unfold goesL
  rw [show (blkV p) = id from funext h, List.map_id]
theorem takenV_all (p : PlanV) (s : List UInt8) (h1 : p.skip = 0) (h2 : p.count < 0) : takenV p s = s := by
  unfold takenV limV
  rw [if_pos h2, h1]
  simp
def planP (a b : Nat) (keep : Bool) : PlanV := ⟨(a : Int) + 1, (b : Int) + 1, 0, -1, 0, keep, false, false, false, false⟩
theorem planP_ok (a b : Nat) (keep : Bool) (ha : a < 65536) (hb : b < 65536) : (planP a b keep).ok := by
  unfold PlanV.ok planP
  refine ⟨⟨?_, ?_⟩, ⟨?_, ?_⟩, ⟨?_, ?_⟩, ⟨?_, ?_⟩, rfl⟩ <;> simp <;> omega
theorem planP_run (a b : Nat) (keep : Bool) (s out : List UInt8) (ha : a < 65536) (hb : b < 65536) (hs : s.length ≤ 100000) (ho : out.length ≤ 100000) :
    (runV (planP a b keep) s out).err = 0 ∧ (runV (planP a b keep) s out).text = if keep = true then s ++ out.drop s.length else s := by
  have hp := planP_ok a b keep ha hb
  obtain ⟨hk1, hk2, _⟩ := ok_k _ hp
  have hg : goesV (planP a b keep) s = s := by
    unfold goesV
    rw [goesL_plain _ (blkV_plain _ rfl rfl rfl rfl), chunks_flat _ hk1, takenV_all _ _ rfl (by show (-1 : Int) < 0; decide)]
  rw [runV_yes _ _ _ hp (by omega) (by omega) (by rw [hg]; show 0 * _ + _ ≤ _; omega), hg]
  refine ⟨rfl, ?_⟩
  show textV _ _ _ = _
  unfold textV
  simp [planP]

/-! ### Cut at a block -/
def planC (p : PlanV) (skip count : Int) : PlanV := { p with skip := skip, count := count, seek := 0 }
theorem planC_ok (p : PlanV) (hp : p.ok) (skip count : Int) (h1 : 0 ≤ skip) (h2 : skip ≤ 2147483647) : (planC p skip count).ok :=
  ⟨hp.1, hp.2.1, ⟨h1, h2⟩, ⟨by show (0 : Int) ≤ 0; decide, by show (0 : Int) ≤ 2147483647; decide⟩, hp.2.2.2.2⟩
theorem planC_run (p : PlanV) (hp : p.ok) (skip count : Int) (h1 : 0 ≤ skip) (h2 : skip ≤ 2147483647) (s : List UInt8) (hs : s.length ≤ 50000) :
    runV (planC p skip count) s [] = ⟨goesV (planC p skip count) s, wholes p.k (chunks p.k (takenV (planC p skip count) s)), parts p.k (chunks p.k (takenV (planC p skip count) s)), (goesV (planC p skip count) s).length / p.out.toNat, min ((goesV (planC p skip count) s).length % p.out.toNat) 1, 0⟩ := by
  have hq := planC_ok p hp skip count h1 h2
  have hl := goesV_len _ hq s
  rw [runV_yes _ _ _ hq (by omega) (by simp) (by show 0 * _ + _ ≤ _; omega), textV_bare _ _ rfl]
  rfl
theorem goesC (p : PlanV) (skip count : Int) (s : List UInt8) : goesV (planC p skip count) s = goesL p (chunks p.k (takenV (planC p skip count) s)) := rfl
theorem parts_law (p : PlanV) (hp : p.ok) (at_ : Nat) (ha : at_ < 65536) (s : List UInt8) (hs : s.length ≤ 50000) :
    let a := runV (planC p 0 (-1)) s []
    let b := runV (planC p 0 at_) s []
    let c := runV (planC p at_ (-1)) s []
    a.err = 0 ∧ b.err = 0 ∧ c.err = 0 ∧ b.text ++ c.text = a.text ∧ b.n0 + c.n0 = a.n0 ∧ b.n1 + c.n1 = a.n1 := by
  obtain ⟨hk1, hk2, _⟩ := ok_k p hp
  have t1 : takenV (planC p 0 (-1)) s = s := takenV_all _ _ rfl (by show (-1 : Int) < 0; decide)
  have t2 : takenV (planC p 0 at_) s = s.take (at_ * p.k) := by
    unfold takenV limV
    rw [if_neg (by show ¬ ((at_ : Nat) : Int) < 0; omega)]
    show ((s.drop (0 * _)).take ((((at_ : Nat) : Int).toNat - 0) * p.k)) = _
    simp
  have t3 : takenV (planC p at_ (-1)) s = s.drop (at_ * p.k) := by
    unfold takenV limV
    rw [if_pos (by show (-1 : Int) < 0; decide)]
    show s.drop (((at_ : Nat) : Int).toNat * p.k) = _
    simp
  have hc := chunks_cut p.k hk1 at_ s
  rw [planC_run p hp 0 (-1) (by decide) (by decide) s hs, planC_run p hp 0 at_ (by decide) (by decide) s hs, planC_run p hp at_ (-1) (by omega) (by omega) s hs]
  simp only [goesC, t1, t2, t3]
  refine ⟨trivial, trivial, trivial, ?_, ?_, ?_⟩
  · rw [← goesL_append, ← hc]
  · rw [← wholes_append, ← hc]
  · rw [← parts_append, ← hc]

/-! ### Twice -/
theorem chunks_map (k : Nat) (hk : 1 ≤ k) (f : List UInt8 → List UInt8) (hf : ∀ x, (f x).length = x.length) : ∀ s, chunks k ((chunks k s).map f).flatten = (chunks k s).map f :=
  chunks_ind k hk _ rfl fun s hs ih => by
    rw [chunks_cons k hk s hs, List.map_cons, List.flatten_cons]
    have hl : 1 ≤ s.length := by
      cases s with
      | nil => exact absurd rfl hs
      | cons _ _ => simp
    have hft : (f (s.take k)).length = min k s.length := by rw [hf, List.length_take]
    have hne : f (s.take k) ++ ((chunks k (s.drop k)).map f).flatten ≠ [] := fun h => by
      have h2 := congrArg List.length h
      rw [List.length_append, hft, List.length_nil] at h2
      omega
    rw [chunks_cons k hk _ hne]
    by_cases hks : k ≤ s.length
    · rw [List.take_left' (by omega), List.drop_left' (by omega), ih]
    · have h0 : chunks k (s.drop k) = [] := by rw [List.drop_eq_nil_of_le (by omega)]; rfl
      rw [h0]
      simp only [List.map_nil, List.flatten_nil, List.append_nil]
      rw [List.take_of_length_le (by omega), List.drop_eq_nil_of_le (by omega), chunks_nil]
def planT (k : Nat) (swab upper lower : Bool) : PlanV := ⟨(k : Int) + 1, 7, 0, -1, 0, false, swab, upper, lower, false⟩
theorem planT_ok (k : Nat) (hk : k < 65536) (a b c : Bool) (h : (b && c) = false) : (planT k a b c).ok := by
  unfold PlanV.ok planT
  refine ⟨⟨?_, ?_⟩, ⟨?_, ?_⟩, ⟨?_, ?_⟩, ⟨?_, ?_⟩, h⟩ <;> simp <;> omega
theorem planT_run (k : Nat) (hk : k < 65536) (a b c : Bool) (h : (b && c) = false) (s : List UInt8) (hs : s.length ≤ 50000) :
    (runV (planT k a b c) s []).err = 0 ∧ (runV (planT k a b c) s []).text = goesL (planT k a b c) (chunks (k + 1) s) := by
  have hp := planT_ok k hk a b c h
  have hl := goesV_len _ hp s
  rw [runV_yes _ _ _ hp (by omega) (by simp) (by show 0 * _ + _ ≤ _; omega), textV_bare _ _ rfl]
  refine ⟨rfl, ?_⟩
  show goesL _ (chunks _ (takenV _ s)) = _
  rw [takenV_all _ _ rfl (by show (-1 : Int) < 0; decide)]
  have : (planT k a b c).k = k + 1 := by show ((k : Int) + 1).toNat = k + 1; omega
  rw [this]
theorem lo_up : ∀ n : Fin 256, loB (upB (UInt8.ofNat n.val)) = loB (UInt8.ofNat n.val) := by decide +kernel
theorem lo_upB (c : UInt8) : loB (upB c) = loB c := by
  have h := lo_up ⟨c.toNat, c.toNat_lt⟩
  simpa using h
theorem twice_law (k : Nat) (hk : k < 65536) (s : List UInt8) (hs : s.length ≤ 50000) :
    let a := runV (planT k true false false) s []
    let b := runV (planT k true false false) a.text []
    let c := runV (planT k false true false) s []
    let d := runV (planT k false false true) c.text []
    let x := runV (planT k false false true) s []
    a.err = 0 ∧ b.err = 0 ∧ c.err = 0 ∧ d.err = 0 ∧ x.err = 0 ∧ b.text = s ∧ d.text = x.text ∧ a.text.length = s.length ∧ x.text.length = s.length ∧ c.text.length = s.length := by
  have hk1 : 1 ≤ k + 1 := by omega
  have hsw : ∀ x, blkV (planT k true false false) x = swabV x := fun x => rfl
  have hup : ∀ x, blkV (planT k false true false) x = x.map upB := fun x => rfl
  have hlo : ∀ x, blkV (planT k false false true) x = x.map loB := fun x => rfl
  have gs : ∀ l, goesL (planT k true false false) l = (l.map swabV).flatten := fun l => rfl
  have gu : ∀ l, goesL (planT k false true false) l = l.flatten.map upB := fun l => by
    rw [List.map_flatten]; rfl
  have gl : ∀ l, goesL (planT k false false true) l = l.flatten.map loB := fun l => by
    rw [List.map_flatten]; rfl
  have fl : ∀ l : List (List UInt8), (l.map swabV).flatten.length = l.flatten.length := fun l => by
    induction l with
    | nil => rfl
    | cons x l ih => simp [swabV_len] at ih ⊢; omega
  obtain ⟨ea, ta⟩ := planT_run k hk true false false rfl s hs
  obtain ⟨ec, tc⟩ := planT_run k hk false true false rfl s hs
  obtain ⟨ex, tx⟩ := planT_run k hk false false true rfl s hs
  rw [gs] at ta
  rw [gu, chunks_flat _ hk1] at tc
  rw [gl, chunks_flat _ hk1] at tx
  have la : (runV (planT k true false false) s []).text.length = s.length := by rw [ta, fl, chunks_flat _ hk1]
  have lc : (runV (planT k false true false) s []).text.length = s.length := by rw [tc, List.length_map]
  have lx : (runV (planT k false false true) s []).text.length = s.length := by rw [tx, List.length_map]
  obtain ⟨eb, tb⟩ := planT_run k hk true false false rfl (runV (planT k true false false) s []).text (by omega)
  obtain ⟨ed, td⟩ := planT_run k hk false false true rfl (runV (planT k false true false) s []).text (by omega)
  refine ⟨ea, eb, ec, ed, ex, ?_, ?_, la, lx, lc⟩
  · rw [tb, gs, ta, chunks_map _ hk1 swabV swabV_len, List.map_map, show swabV ∘ swabV = id from funext swabV_twice, List.map_id, chunks_flat _ hk1]
  · rw [td, gl, chunks_flat _ hk1, tc, tx, List.map_map, show loB ∘ upB = loB from funext lo_upB]

/-! ### The four numbers -/
theorem chunks_count (k : Nat) (hk : 1 ≤ k) : ∀ s : List UInt8, wholes k (chunks k s) = s.length / k ∧ parts k (chunks k s) = min (s.length % k) 1 ∧ (chunks k s).length = wholes k (chunks k s) + parts k (chunks k s) :=
  chunks_ind k hk _ (by refine ⟨?_, ?_, rfl⟩ <;> simp [chunks_nil, wholes, parts]) fun s hs ih => by
    rw [chunks_cons k hk s hs, wholes_cons, parts_cons, List.length_cons, ih.2.2, ih.1, ih.2.1, List.length_take, List.length_drop]
    by_cases hks : k ≤ s.length
    · rw [if_pos (by omega), if_pos (by omega), Nat.div_eq_sub_div (by omega) hks, Nat.mod_eq_sub_mod hks]
      refine ⟨by omega, by omega, by omega⟩
    · have hl : 1 ≤ s.length := by
        cases s with
        | nil => exact absurd rfl hs
        | cons _ _ => simp
      rw [if_neg (by omega), if_neg (by omega), show s.length - k = 0 from by omega, Nat.zero_div, Nat.zero_mod, Nat.div_eq_of_lt (by omega), Nat.mod_eq_of_lt (show s.length < k by omega)]
      refine ⟨by omega, by omega, by omega⟩
theorem goesL_len (p : PlanV) (l : List (List UInt8)) (h : ∀ x ∈ l, x.length ≤ p.k) : (goesL p l).length = if p.sync = true then l.length * p.k else l.flatten.length := by
  induction l with
  | nil => simp [goesL]
  | cons x l ih =>
    rw [goesL_cons, List.length_append, blkV_len p x (h x (List.mem_cons_self ..)), ih (fun y hy => h y (List.mem_cons_of_mem _ hy)), List.length_cons, List.flatten_cons, List.length_append]
    split
    · rw [Nat.succ_mul]; omega
    · rfl
theorem takenV_mod (p : PlanV) (s : List UInt8) (h : (takenV p s).length % p.k ≠ 0) : (takenV p s).length % p.k = s.length % p.k := by
  have hd : (s.drop (p.skip.toNat * p.k)).length % p.k ≠ 0 → (s.drop (p.skip.toNat * p.k)).length % p.k = s.length % p.k := fun h => by
    rw [List.length_drop] at h ⊢
    by_cases hl : p.skip.toNat * p.k ≤ s.length
    · have e : s.length = (s.length - p.skip.toNat * p.k) + p.skip.toNat * p.k := by omega
      conv => rhs; rw [e, Nat.add_mul_mod_self_right]
    · rw [show s.length - p.skip.toNat * p.k = 0 from by omega] at h
      exact absurd (Nat.zero_mod _) h
  unfold takenV limV at h ⊢
  split at h
  · rename_i hc
    rw [if_pos hc]
    exact hd h
  · rename_i hc
    rw [if_neg hc]
    rw [List.length_take] at h ⊢
    by_cases hm : (p.count.toNat - 0) * p.k ≤ (s.drop (p.skip.toNat * p.k)).length
    · rw [Nat.min_eq_left hm, Nat.mul_mod_left] at h
      exact absurd rfl h
    · rw [Nat.min_eq_right (by omega)] at h ⊢
      exact hd h
theorem takenV_count (p : PlanV) (s : List UInt8) (h : ¬ p.count < 0) : (takenV p s).length ≤ p.count.toNat * p.k := by
  unfold takenV limV
  rw [if_neg h, List.length_take, Nat.sub_zero]
  omega
theorem counts_law (p : PlanV) (hp : p.ok) (hi : p.inn ≤ 100) (hz : p.seek = 0) (s : List UInt8) (hs : s.length ≤ 5000) :
    let r := runV p s []
    r.err = 0 ∧ r.n1 ≤ 1 ∧ r.n2 = r.text.length / p.out.toNat ∧ r.n3 = (r.text.length % p.out.toNat + p.out.toNat - 1) / p.out.toNat ∧ r.n3 ≤ 1 ∧ r.text.length ≤ 5100 ∧ r.n0 ≤ 5100 ∧ r.n2 ≤ 5100 ∧
      (if p.sync = true then r.text.length = (r.n0 + r.n1) * p.k else r.text.length = r.n0 * p.k + (if r.n1 = 1 then s.length % p.k else 0) ∧ (p.count < 0 ∨ r.n0 + r.n1 ≤ p.count.toNat)) := by
  obtain ⟨hk1, hk2, hk3⟩ := ok_k p hp
  have ho : 1 ≤ p.out.toNat := by have := hp.2.1.1; omega
  have hgl := (goes_len p hk1 (takenV p s)).1
  have htl := takenV_len p s
  have hg : (goesV p s).length ≤ 5100 := by unfold goesV; omega
  rw [runV_yes _ _ _ hp (by omega) (by simp) (by rw [hz]; show 0 * _ + _ ≤ _; omega), textV_bare _ _ hz]
  obtain ⟨c1, c2, c3⟩ := chunks_count p.k hk1 (takenV p s)
  have gl := goesL_len p (chunks p.k (takenV p s)) fun x hx => (chunks_len p.k hk1 _ x hx).1
  rw [chunks_flat _ hk1] at gl
  have hn3 : min ((goesV p s).length % p.out.toNat) 1 = ((goesV p s).length % p.out.toNat + p.out.toNat - 1) / p.out.toNat := by
    have hlt := Nat.mod_lt (goesV p s).length (show 0 < p.out.toNat by omega)
    generalize (goesV p s).length % p.out.toNat = x at hlt
    by_cases hx : x = 0
    · subst hx
      rw [Nat.zero_add, Nat.div_eq_of_lt (by omega)]
      rfl
    · have h1 : (x + p.out.toNat - 1) / p.out.toNat = 1 := by
        rw [show x + p.out.toNat - 1 = (x - 1) + p.out.toNat from by omega, Nat.add_div_right _ (by omega), Nat.div_eq_of_lt (by omega)]
      omega
  have hw : wholes p.k (chunks p.k (takenV p s)) ≤ 5100 := by
    rw [c1]
    have := Nat.div_le_self (takenV p s).length p.k
    omega
  have h2 : (goesV p s).length / p.out.toNat ≤ 5100 := Nat.le_trans (Nat.div_le_self _ _) hg
  refine ⟨rfl, by show parts _ _ ≤ 1; rw [c2]; omega, rfl, hn3, by show min _ 1 ≤ 1; omega, hg, hw, h2, ?_⟩
  show if p.sync = true then (goesV p s).length = (wholes _ _ + parts _ _) * p.k else (goesV p s).length = wholes _ _ * p.k + (if parts _ _ = 1 then _ else _) ∧ _
  split
  · rename_i hy
    rw [if_pos hy] at gl
    rw [← c3]
    exact gl
  · rename_i hy
    rw [if_neg hy] at gl
    refine ⟨?_, ?_⟩
    · show (goesL p (chunks p.k (takenV p s))).length = _
      rw [gl, c1, c2]
      have hdm := Nat.div_add_mod (takenV p s).length p.k
      rw [Nat.mul_comm] at hdm
      by_cases hm : (takenV p s).length % p.k = 0
      · rw [hm, if_neg (by decide)]
        omega
      · rw [if_pos (by omega), ← takenV_mod p s hm]
        omega
    · by_cases hc : p.count < 0
      · exact .inl hc
      · refine .inr ?_
        have hcl := takenV_count p s hc
        show wholes _ _ + parts _ _ ≤ _
        rw [c1, c2]
        have hdm := Nat.div_add_mod (takenV p s).length p.k
        by_cases hm : (takenV p s).length % p.k = 0
        · rw [hm]
          have := Nat.div_le_of_le_mul (k := p.k) (m := (takenV p s).length) (n := p.count.toNat) (by rw [Nat.mul_comm]; exact hcl)
          omega
        · have h5 : (takenV p s).length / p.k < p.count.toNat := by
            rw [Nat.div_lt_iff_lt_mul (by omega)]
            have h6 : (p.count.toNat * p.k) % p.k = 0 := Nat.mul_mod_left _ _
            rcases Nat.lt_or_eq_of_le hcl with h | h
            · exact h
            · rw [h] at hm
              exact absurd h6 hm
          omega

/-! ### What is put where -/
def planS (p : PlanV) (seek : Int) (keep : Bool) : PlanV := { p with seek := seek, out := p.out % 50 + 1, keep := keep }
theorem planS_ok (p : PlanV) (hp : p.ok) (seek : Int) (keep : Bool) (h1 : 0 ≤ seek) (h2 : seek < 50) : (planS p seek keep).ok :=
  ⟨hp.1, ⟨by show 1 ≤ p.out % 50 + 1; omega, by show p.out % 50 + 1 ≤ 65536; omega⟩, hp.2.2.1, ⟨h1, by show seek ≤ _; omega⟩, hp.2.2.2.2⟩
theorem seeks_law (p : PlanV) (hp : p.ok) (hi : p.inn ≤ 100) (s out : List UInt8) (hs : s.length ≤ 5000) (ho : out.length ≤ 5000) :
    let g := goesV p s
    let at_ := (p.seek % 50).toNat * (p.out % 50 + 1).toNat
    let t := out.take at_ ++ List.replicate (at_ - out.length) 0 ++ g
    (runV (planS p 0 false) s []).err = 0 ∧ (runV (planS p 0 false) s []).text = g ∧ (runV (planS p (p.seek % 50) true) s out).err = 0 ∧ (runV (planS p (p.seek % 50) true) s out).text = t ++ out.drop t.length ∧
      (runV (planS p (p.seek % 50) false) s out).err = 0 ∧ (runV (planS p (p.seek % 50) false) s out).text = t ∧ g.length ≤ 5100 ∧ at_ ≤ 2500 ∧ t.length = at_ + g.length := by
  obtain ⟨hk1, hk2, hk3⟩ := ok_k p hp
  have hgl := (goes_len p hk1 (takenV p s)).1
  have htl := takenV_len p s
  have hg : (goesV p s).length ≤ 5100 := by unfold goesV; omega
  have hge : ∀ seek keep, goesV (planS p seek keep) s = goesV p s := fun _ _ => rfl
  have hat : (p.seek % 50).toNat * (p.out % 50 + 1).toNat ≤ 2500 := Nat.le_trans (Nat.mul_le_mul (show (p.seek % 50).toNat ≤ 49 by omega) (show (p.out % 50 + 1).toNat ≤ 50 by omega)) (by decide)
  have e0 := runV_yes (planS p 0 false) s [] (planS_ok p hp 0 false (by decide) (by decide)) (by omega) (by simp) (by rw [hge]; show 0 * _ + _ ≤ _; omega)
  have e1 := runV_yes (planS p (p.seek % 50) true) s out (planS_ok p hp _ true (by omega) (by omega)) (by omega) (by omega) (by rw [hge]; show (p.seek % 50).toNat * (p.out % 50 + 1).toNat + _ ≤ _; omega)
  have e2 := runV_yes (planS p (p.seek % 50) false) s out (planS_ok p hp _ false (by omega) (by omega)) (by omega) (by omega) (by rw [hge]; show (p.seek % 50).toNat * (p.out % 50 + 1).toNat + _ ≤ _; omega)
  intro g at_ t
  refine ⟨by rw [e0], by rw [e0]; exact textV_bare (planS p 0 false) _ rfl, by rw [e1], by rw [e1]; rfl, by rw [e2], by rw [e2]; rfl, hg, hat, ?_⟩
  show (_ ++ _ ++ _ : List UInt8).length = _
  rw [List.length_append, List.length_append, List.length_take, List.length_replicate]
  omega
end Go.Proofs.YtiffmdfchibpaaaDoor
