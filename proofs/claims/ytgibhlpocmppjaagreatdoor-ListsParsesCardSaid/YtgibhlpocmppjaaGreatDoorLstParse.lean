/-
  lists.Parse: its contract.
-/
import Derived.Test.YtgibhlpocmppjaaGreatDoorLstItem
import Derived.Test.YtgibhlpocmppjaaGreatDoorKept
namespace Go.Proofs.YtgibhlpocmppjaaGreatDoor
open Go.RowKit

def allItems : List (List UInt8) → Option (List Rng)
  | [] => some []
  | x :: r => match itemV x with
    | none => none
    | some y => (allItems r).map (y :: ·)
theorem allItems_snoc (p : List (List UInt8)) (x : List UInt8) : allItems (p ++ [x]) = match allItems p with
    | none => none
    | some rs => (itemV x).map fun y => rs ++ [y] := by
  induction p with
  | nil =>
    show (match itemV x with | none => none | some y => (allItems []).map (y :: ·)) = _
    cases itemV x <;> rfl
  | cons a p ih =>
    rw [List.cons_append, allItems, ih, allItems]
    cases itemV a with
    | none => rfl
    | some y =>
      cases allItems p with
      | none => rfl
      | some rs => cases itemV x <;> simp
theorem allItems_none (p m : List (List UInt8)) (h : allItems p = none) : allItems (p ++ m) = none := by
  induction p with
  | nil => simp [allItems] at h
  | cons a p ih =>
    rw [List.cons_append, allItems]
    rw [allItems] at h
    cases hi : itemV a with
    | none => rfl
    | some y =>
      rw [hi] at h
      cases hp : allItems p with
      | none => simp only; rw [ih hp]; rfl
      | some rs => rw [hp] at h; cases h
theorem allItems_len : ∀ (p : List (List UInt8)) (rs : List Rng), allItems p = some rs → rs.length = p.length
  | [], rs, h => by simp [allItems] at h; simp [← h]
  | a :: p, rs, h => by
    rw [allItems] at h
    cases hi : itemV a with
    | none => rw [hi] at h; cases h
    | some y =>
      rw [hi] at h
      cases hp : allItems p with
      | none => rw [hp] at h; cases h
      | some ys =>
        rw [hp] at h
        simp at h
        rw [← h]
        simp [allItems_len p ys hp]
def parseV (L : List UInt8) : Option (List Rng) := allItems (splitC 44 L)
def ParseIs (L : List UInt8) (base : Nat) (w' : World) (e : Ending) : Prop :=
  if 4096 < L.length then e = .returned (.tuple #[.slice none 0 0, .int .i64 3])
  else match parseV L with
    | none => e = .returned (.tuple #[.slice none 0 0, .int .i64 5])
    | some rs => ∃ v, e = .returned (.tuple #[v, .int .i64 0]) ∧ w'.ownsRow base 49 2 v rs.length (rngv rs)
theorem split_str (L : List UInt8) : (Lib.splitB { data := #[44] } 0 (Lib.countB (str L) { data := #[44] }) (str L)) = (splitC 44 L).map str := by
  have h := Lib.splitB_data { data := #[44] } 0 (Lib.countB (str L) { data := #[44] }) (str L)
  have hc : Lib.countB (str L) { data := #[44] } = L.count 44 := Lib.count_one 44 L
  rw [hc] at h ⊢
  have h2 : Lib.splitK [44] 0 (L.count 44) L = splitC 44 L := split_comma _ L rfl
  have h3 : (Lib.splitB { data := #[44] } 0 (L.count 44) (str L)).map (·.data.toList) = splitC 44 L := h.trans h2
  rw [← h3, List.map_map]
  conv => lhs; rw [← List.map_id (Lib.splitB _ _ _ _)]
  apply List.map_congr_left
  intro a _
  exact str_of a
theorem splitC_count (L : List UInt8) : (splitC 44 L).length = Lib.countB (str L) { data := #[44] } + 1 := by
  have h := congrArg List.length (split_str L)
  rw [List.length_map] at h
  rw [← h]
  exact Lib.splitB_all _ (by decide) 0 _ _ rfl
theorem mem_le_sum : ∀ (l : List Nat) (x : Nat), x ∈ l → x ≤ l.sum
  | [], x, h => by simp at h
  | a :: l, x, h => by
    rw [List.sum_cons]
    rcases List.mem_cons.1 h with rfl | h
    · omega
    · have := mem_le_sum l x h
      omega
theorem splitC_piece (L : List UInt8) (q : Nat) (h : q < (splitC 44 L).length) : (splitC 44 L)[q].length ≤ L.length := by
  have hs := splitC_len 44 L
  have := mem_le_sum _ ((splitC 44 L)[q].length + 1) (List.mem_map.2 ⟨_, List.getElem_mem h, rfl⟩ : (splitC 44 L)[q].length + 1 ∈ (splitC 44 L).map fun x => x.length + 1)
  omega

theorem ItemIs.cases_ {l : List UInt8} {e : Ending} (h : ItemIs l e) : (itemV l = none ∧ ∃ a b : Int, e = .returned (.tuple #[.agg #[.int .i64 a, .int .i64 b], .bool false])) ∨
    (∃ r, itemV l = some r ∧ e = .returned (.tuple #[.agg #[.int .i64 r.fr, .int .i64 r.to], .bool true])) := by
  unfold ItemIs at h
  cases hi : itemV l with
  | none => rw [hi] at h; exact .inl ⟨rfl, h⟩
  | some r => rw [hi] at h; exact .inr ⟨r, rfl, h⟩

set_option maxRecDepth 100000 in
set_option maxHeartbeats 2000000 in
theorem parse_any (B : Nat) (L : List UInt8) (w : World) (hE : Env B w) :
    Calls Tryz.prog 5 #[.string (str L)] w fun e w' => ParseIs L w.heap.size w' e ∧ Below w.heap.size w w' := by
  obtain ⟨i0, hi0, hz0, hz1, hz2⟩ := info_parts infoRng
  have hs0 : (str L).size = L.length := str_size L
  by_cases hbig : 4096 < L.length
  · go_enter Tryz.func5, Tryz.ntmps5
    go_wp2_with fail
    go_ret2
    refine ⟨?_, Below.refl _ _⟩
    unfold ParseIs
    rw [if_pos hbig]
    rfl
  · obtain ⟨m, hm⟩ := hE.mx
    have HM := Lib.hid hm
    have HE := Lib.hid hE
    clear hm hE
    go_enter Tryz.func5, Tryz.ntmps5
    go_wp2_with fail
    refine (Go.Proofs.Tryz.strings_Split (str L) { data := #[44] } m w (by rw [hs0]; omega) HM.out (by decide)).mono ?_
    rintro e w1 ⟨rfl, hw1⟩
    rw [split_str] at hw1
    rw [← splitC_count]
    obtain ⟨P, hP⟩ : ∃ P, P = splitC 44 L := ⟨_, rfl⟩
    rw [← hP] at hw1 ⊢
    have hPn : 1 ≤ P.length := by rw [hP, splitC_count]; omega
    have hPm : P.length ≤ L.length + 1 := by
      rw [hP, splitC_count]
      have := Lib.countB_le { data := #[44] } (by decide) _ (str L) (Nat.le_refl _)
      rw [hs0] at this
      omega
    have hPp : ∀ q (h : q < P.length), P[q].length ≤ L.length := fun q h => by subst hP; exact splitC_piece L q h
    have hg : Blk w1 w.heap.size 9 ((P.map str).map Value.string).toArray := by rw [hw1]; exact Blk.new w _ _
    have hB1 : Below w.heap.size w w1 := by rw [hw1]; exact (Below.refl _ _).alloc (Nat.le_refl _) _
    have hE1 := HE.out.up hB1
    have hg1 := hg.lt
    have HP := Lib.hid hP
    have HPP := Lib.hid hPp
    have HG := Lib.hid hg
    have HE1 := Lib.hid hE1
    clear hw1 hP hPp hg hE1 hs0
    go_wp2_with fail
    go_loopw [4, 15] (fun v i wr => ∃ (q : Nat) (rs : List Rng), q ≤ P.length ∧ i = .int .i64 q ∧ rs.length = q ∧ Hid (allItems (P.take q) = some rs) ∧ wr.ownsRow w1.heap.size 49 2 v q (rngv rs) ∧ Below w1.heap.size w1 wr) (fun _ i _ => P.length - (intOf i).toNat)
    case atStart => exact ⟨0, [], Nat.zero_le _, rfl, rfl, hide rfl, World.ownsRow_nil _ _ _ _, Below.refl _ _⟩
    case round =>
      obtain ⟨q, rs, hq, rfl, hrl, hrs, hown, hBr⟩ := hrel
      have hBsz := hBr.size
      have HRL := Lib.hid hrl
      have HRS := hrs
      clear hrl hrs
      by_cases hlt : q < P.length
      · have hc : wr.cell? ⟨w.heap.size, q, none⟩ = some (.string (str P[q])) := by
          rw [(HG.out.below hBr hg1).cell q]
          simp [hlt]
        obtain ⟨x, hx⟩ : ∃ x, x = P[q] := ⟨_, rfl⟩
        have hxl : x.length ≤ L.length := by rw [hx]; exact HPP.out q hlt
        rw [← hx] at hc
        have hsn := allItems_snoc (P.take q) x
        rw [show P.take q ++ [x] = P.take (q + 1) from by rw [hx, List.take_succ_eq_append_getElem hlt], HRS.out] at hsn
        have HSN := Lib.hid hsn
        clear hx hsn
        go_wp2_with fail
        refine (item_any B x wr (HE1.out.up hBr) (by omega)).mono ?_
        rintro e w2 ⟨hI, hB2⟩
        have hB2s := hB2.size
        have hBf := below_then hBr hBsz hB2
        have hown2 := own_below hown hB2
        rcases hI.cases_ with ⟨hi, a, b, rfl⟩ | ⟨r, hi, rfl⟩
        · have hno : parseV L = none := by
            unfold parseV
            rw [← HP.out]
            have h1 := HSN.out
            rw [hi] at h1
            have h2 := allItems_none (P.take (q + 1)) (P.drop (q + 1)) h1
            rwa [List.take_append_drop] at h2
          have HNO := Lib.hid hno
          clear hno hi hI
          go_wp2_with fail
          go_ret2
          refine ⟨?_, (below_then hB1 hB1.size hBf).alloc (by have := hB1.size; omega) _⟩
          unfold ParseIs
          rw [if_neg hbig, HNO.out]
          rfl
        · have h1 := HSN.out
          rw [hi] at h1
          have HN := Lib.hid (show allItems (P.take (q + 1)) = some (rs ++ [r]) from h1)
          clear h1 hi hI
          have hown3 := hown2.alloc (.cells #[.int .i64 r.fr, .int .i64 r.to] 49)
          go_wp2_with (at_builtin; refine wpList_append_own _ rfl (.tmp 26) (.tmp 28) 23 rfl w1.heap.size 49 i0 (.agg #[.int .i64 0, .int .i64 0]) 2 16 Tryz.underlying23 hi0 hz0 hz1 hz2 rfl (by decide) _ _ _ rfl (hown3.alloc _) ⟨w2.heap.size + 1, 0, none⟩ 1 1 (rng1 r) rfl rfl (by have h := cells_new (w2.alloc (.cells #[.int .i64 r.fr, .int .i64 r.to] 49)) #[.int .i64 r.fr, .int .i64 r.to] 49; rw [show (w2.alloc (.cells #[.int .i64 r.fr, .int .i64 r.to] 49)).heap.size = w2.heap.size + 1 from by simp] at h; exact h) (rng1_one r) (by unfold maxLen; omega) (by omega) (by simp; omega) ?_; intro v4 w4 hown4 hg4 _)
          have hB4 : Below w1.heap.size w1 w4 := ((hBf.alloc (by omega) _).alloc (by simp; omega) _).grown hg4 (by simp; omega) (own_ge hown)
          go_roundw
          case rel => exact ⟨q + 1, rs ++ [r], by omega, by go_num, by simp [HRL.out], HN.out, by rw [show rngv (rs ++ [r]) = rngv rs ++ rng1 r from by simp [sv_append, sv]]; exact hown4, hB4⟩
          case measure => simp [intOf]; omega
      · obtain rfl : q = P.length := by omega
        have hall : parseV L = some rs := by
          unfold parseV
          rw [← HP.out]
          have := HRS.out
          rwa [List.take_of_length_le (Nat.le_refl _)] at this
        have HALL := Lib.hid hall
        clear hall
        go_wp2_with fail
        go_ret2
        refine ⟨?_, below_then hB1 hB1.size hBr⟩
        unfold ParseIs
        rw [if_neg hbig, HALL.out]
        exact ⟨_, rfl, by rw [HRL.out]; exact ownsRow_mono hown hB1.size⟩
end Go.Proofs.YtgibhlpocmppjaaGreatDoor
