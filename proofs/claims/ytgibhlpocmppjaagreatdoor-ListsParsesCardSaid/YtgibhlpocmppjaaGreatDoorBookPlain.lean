/-
  What a Book's walks rest on: own rows that are written, marks, an append that leaves the elder slice. No program's walk.
-/
import Derived.Test.YtgibhlpocmppjaaGreatDoorKept
import Derived.Test.YtgibhlpocmppjaaGreatDoorLstRanges
import Derived.OwnWalk
import Derived.ArgAppend
import Derived.Laws.OwnMore
import Derived.Deep.Onto
namespace Go.Proofs.YtgibhlpocmppjaaGreatDoor
open Go.RowKit

section
variable {w : World} {base n cap g size : Nat} {e : TypeId} {xs : List Value}
theorem own_cell (h : w.ownsRow base e size (.slice (some ⟨g, 0, none⟩) n cap) n xs) {k : Nat} {u : Value} (hu : xs[k]? = some u) : w.cell? ⟨g, k, none⟩ = some u := by
  have := h.cells (g := g) rfl k u hu
  rwa [Addr.add_lit, Nat.zero_add] at this
theorem own_parts (h : w.ownsRow base e size (.slice (some ⟨g, 0, none⟩) n cap) n xs) : ∃ cur, Blk w g e cur ∧ n ≤ cap ∧ cap ≤ maxLen ∧ cur.size = cap * size ∧ cur.toList.take (n * size) = xs ∧ base ≤ g := by
  rcases h.2 with ⟨e1, _⟩ | ⟨g', cap', cur, hv, hb, hh, hnc, hcm, hcs, htk⟩
  · cases e1
  · injection hv with hA _ hcc
    injection hA with hA
    injection hA with hgg
    subst hgg hcc
    exact ⟨cur, hh, hnc, hcm, hcs, htk, hb⟩
theorem own_frozen (h : w.ownsRow base e size (.slice (some ⟨g, 0, none⟩) n cap) n xs) (k : Nat) : w.frozen? ⟨g, k, none⟩ = false := by
  obtain ⟨cur, hb, _⟩ := own_parts h
  exact hb.frozen k
theorem own_set (h : w.ownsRow base e size (.slice (some ⟨g, 0, none⟩) n cap) n xs) (k : Nat) (u : Value) : (w.setCell ⟨g, k, none⟩ u).ownsRow base e size (.slice (some ⟨g, 0, none⟩) n cap) n (xs.set k u) := by
  obtain ⟨cur, hb, hnc, hcm, hcs, htk, hbg⟩ := own_parts h
  refine ⟨by simpa using h.1, .inr ⟨g, cap, _, rfl, hbg, hb.set_ k u, hnc, hcm, by simpa using hcs, ?_⟩⟩
  rw [Array.toList_setIfInBounds, List.take_set, htk]
theorem own_head {v : Value} (h : w.ownsRow base e size v n xs) (hn : 0 < n) : ∃ g cap, v = .slice (some ⟨g, 0, none⟩) n cap := by
  rcases h.2 with ⟨_, h0⟩ | ⟨g, cap, cur, hv, _⟩
  · omega
  · exact ⟨g, cap, hv⟩
end

/-! ### Marks -/
def mk1 (K : Nat) : List Value := [.int .i64 (-1000 - (K : Int)), .int .i64 0]
def rep (K n : Nat) : List Value := sv (fun _ : Unit => mk1 K) (List.replicate n ())
theorem mk1_len (K : Nat) : ∀ _ : Unit, (mk1 K).length = 2 := fun _ => rfl
theorem mk1_one (K : Nat) : ∀ u ∈ mk1 K, u.oneCell' = true := by
  intro u hu
  simp [mk1] at hu
  rcases hu with rfl | rfl <;> rfl
theorem rep_length (K n : Nat) : (rep K n).length = n * 2 := by
  unfold rep
  rw [sv_length _ 2 (mk1_len K), List.length_replicate]
theorem rep_succ (K n : Nat) : rep K (n + 1) = rep K n ++ mk1 K := by
  unfold rep
  rw [List.replicate_succ', sv_append]
  simp [sv]
theorem rep_get (K n i : Nat) (hi : i < n) (j : Nat) (hj : j < 2) : (rep K n)[i * 2 + j]? = (mk1 K)[j]? := by
  unfold rep
  exact sv_get _ 2 (mk1_len K) _ i (by rw [List.length_replicate]; exact hi) j hj
theorem rep_add (K n m : Nat) : rep K (n + m) = rep K n ++ rep K m := by
  unfold rep
  rw [← sv_append, List.replicate_append_replicate]
/-- A row of which the first k are marked. -/
def fl (K k : Nat) (xs : List Value) : List Value := rep K k ++ xs.drop (k * 2)
theorem fl_zero (K : Nat) (xs : List Value) : fl K 0 xs = xs := by simp [fl, rep, sv]
theorem fl_end (K n : Nat) (xs : List Value) (h : xs.length = n * 2) : fl K n xs = rep K n := by
  unfold fl
  rw [List.drop_of_length_le (by omega), List.append_nil]
theorem fl_next (K k n : Nat) (xs : List Value) (h : xs.length = n * 2) (hk : k < n) : ((fl K k xs).set (k * 2) (.int .i64 (-1000 - (K : Int)))).set (k * 2 + 1) (.int .i64 0) = fl K (k + 1) xs := by
  have hl := rep_length K k
  have hd : xs.drop (k * 2) = xs[k * 2]'(by omega) :: xs[k * 2 + 1]'(by omega) :: xs.drop ((k + 1) * 2) := by
    rw [List.drop_eq_getElem_cons (by omega), List.drop_eq_getElem_cons (i := k * 2 + 1) (by omega), show k * 2 + 1 + 1 = (k + 1) * 2 from by omega]
  unfold fl
  rw [hd, List.set_append_right (k * 2) _ (show (rep K k).length ≤ k * 2 by omega), hl, Nat.sub_self, List.set_cons_zero, List.set_append_right (k * 2 + 1) _ (show (rep K k).length ≤ k * 2 + 1 by omega), hl, show k * 2 + 1 - k * 2 = 1 from by omega, List.set_cons_succ, List.set_cons_zero, rep_succ]
  simp [mk1]
theorem fl_at (K k n : Nat) (xs : List Value) (h : xs.length = n * 2) (hk : k < n) (j : Nat) (hj : j < 2) : ∃ u, (fl K k xs)[k * 2 + j]? = some u := by
  have hl := rep_length K k
  refine ⟨_, List.getElem?_eq_getElem ?_⟩
  unfold fl
  rw [List.length_append, List.length_drop]
  omega

/-! ### append: the elder slice reads as it did -/
section
variable {P : Program} (w : World)
theorem run_append_elder (base : Nat) (t ty e : TypeId) (i : TypeInfo) (z : Value) (size bytes : Nat) (ht : P.underlying t = some (.slice e)) (hi : P.info? e = some i) (hz : i.zero = some z)
    (hsize : i.size = size) (hby : i.bytes = bytes) (hzs : z.cells.size = size) (hsz : 0 < size)
    (v : Value) (n : Nat) (xs : List Value) (hown : w.ownsRow base e size v n xs)
    (ad : Addr) (m c : Nat) (news : List Value) (hn : news.length = m * size) (hc : ∀ j u, news[j]? = some u → w.cell? (ad.add j) = some u) (h1 : ∀ u ∈ news, u.oneCell' = true)
    (h63 : n + m ≤ maxLen) (hbytes : (n + m) * bytes ≤ 140737488355328) (hbase : base ≤ w.heap.size) :
    ∃ v' w', (Builtin.append_ #[t, t] ty #[v, .slice (some ad) m c]).run P w = .ok v' w' ∧ w'.ownsRow base e size v' (n + m) (xs ++ news) ∧ w.grownBy w' v.ownBlock ∧
      (v'.ownBlock = v.ownBlock ∨ v'.ownBlock = some w.heap.size) ∧ ∀ g, v.ownBlock = some g → Reads w' w'.heap.size size (some ⟨g, 0, none⟩) n xs := by
  obtain ⟨v', w', hrun, h2, h3, _, h5⟩ := run_append_own_at (P := P) w base t ty e i z size bytes ht hi hz hsize hby hzs hsz v n xs hown ad m c news hn hc h1 h63 hbytes hbase
  rcases hown.2 with ⟨rfl, rfl⟩ | ⟨g, cap, cur, rfl, hb, hh, hnc, hcm, hcs, htk⟩
  · exact ⟨v', w', hrun, h2, h3, h5, fun g hg => by simp [Value.ownBlock] at hg⟩
  · by_cases hroom : n + m ≤ cap
    · obtain ⟨w2, hrun2, r1, r2⟩ := run_append_fits (P := P) w base t ty e i size ht hi hsize g n cap xs hown ad m c news hn hc h1 hroom
      refine ⟨_, w2, hrun2, r1, r2, .inl rfl, fun g' hg' => ?_⟩
      have : g = g' := by simpa [Value.ownBlock] using hg'
      subst this
      refine ⟨hown.1, fun _ => ⟨_, rfl, (r1.lt g rfl).2, fun j u hu => r1.cells (g := g) rfl j u ?_⟩⟩
      rw [List.getElem?_append_left (List.getElem?_eq_some_iff.1 hu).1]
      exact hu
    · obtain ⟨v3, w3, hrun3, r1, r2⟩ := run_append_arg_grows (P := P) w t ty e i z size bytes ht hi hz hsize hby hzs hsz ⟨g, 0, none⟩ n cap xs hown.1 (hown.cells rfl) ad m c news hn hc (by omega) h63 hbytes
      have e0 := hrun.symm.trans hrun3
      injection e0 with e1 e2
      subst e1 e2
      refine ⟨v', w', hrun, h2, h3, h5, fun g' hg' => ?_⟩
      have : g = g' := by simpa [Value.ownBlock] using hg'
      subst this
      exact Reads.of_own (hown.kept r2 (.inr (by simp [Value.ownBlock])))
theorem wpList_append_elder {ops : Array Oper} {rest : List Oper} {o : Oper} {a : Act} {Q : Exit → Act → World → Prop} (hgd : o.guard = none) (s x : Operand) (t : TypeId)
    (ho : o.op = .call { callee := .builtin .append, args := #[s, x], argTypes := #[t, t] })
    (base : Nat) (e : TypeId) (i : TypeInfo) (z : Value) (size bytes : Nat) (ht : P.underlying t = some (.slice e)) (hi : P.info? e = some i) (hz : i.zero = some z)
    (hsize : i.size = size) (hby : i.bytes = bytes) (hzs : z.cells.size = size) (hsz : 0 < size)
    (v : Value) (n : Nat) (xs : List Value) (hs : a.eval s = v) (hown : w.ownsRow base e size v n xs)
    (ad : Addr) (m c : Nat) (news : List Value) (hx : a.eval x = .slice (some ad) m c) (hn : news.length = m * size) (hc : ∀ j u, news[j]? = some u → w.cell? (ad.add j) = some u) (h1 : ∀ u ∈ news, u.oneCell' = true)
    (h63 : n + m ≤ maxLen) (hbytes : (n + m) * bytes ≤ 140737488355328) (hbase : base ≤ w.heap.size)
    (h : ∀ v' w', w'.ownsRow base e size v' (n + m) (xs ++ news) → w.grownBy w' v.ownBlock → (v'.ownBlock = v.ownBlock ∨ v'.ownBlock = some w.heap.size) →
      (∀ g, v.ownBlock = some g → Reads w' w'.heap.size size (some ⟨g, 0, none⟩) n xs) → wpList P ops Q rest (a.put o.dst v') w') : wpList P ops Q (o :: rest) a w := by
  refine wpList_plain hgd fun K hK => ?_
  obtain ⟨v', w', hrun, h2, h3, h4, h5⟩ := run_append_elder (P := P) w base t o.type e i z size bytes ht hi hz hsize hby hzs hsz v n xs hown ad m c news hn hc h1 h63 hbytes hbase
  unfold Oper.wp execOp
  simp only [ho, resolve, invoke, builtin, Sem.run_bind, Sem.run_pure, Result.andThen_ok, List.map_toArray, List.map_cons, List.map_nil, hs, hx, hrun]
  exact hK _ _ (h v' w' h2 h3 h4 h5)
end
end Go.Proofs.YtgibhlpocmppjaaGreatDoor
