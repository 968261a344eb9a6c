/-
  GlobsStars: the law's walk.
-/
import Derived.Test.YtafiadlkfjacnaaGlobAlive
import Derived.Test.YtafiadlkfjacnaaGlobsPlainWalk
namespace Go.Proofs.Ytafiadlkfjacnaa
open Go.RowKit

/-- Does a pattern match a beginning of fewer than k bytes? -/
def begF (l o : List UInt8) (k : Nat) : Bool := (List.range k).any fun j => matchP l (o.take j)
theorem begF_succ (l o : List UInt8) (k : Nat) : begF l o (k + 1) = (begF l o k || matchP l (o.take k)) := by
  unfold begF
  rw [List.range_succ, List.any_append]
  simp
theorem matchP_of (l s : List UInt8) (T : List Thing) (h : l.length ≤ 4096) (hp : parse l = some T) : matchP l s = gm T s := by
  unfold matchP
  rw [decide_eq_true h, hp]
  rfl
theorem okP_iff (l : List UInt8) (h : okP l = true) : ∃ T, parse l = some T := by
  unfold okP at h
  rw [Bool.and_eq_true, Option.isSome_iff_exists] at h
  exact h.2
theorem okP_no (l s : List UInt8) (h : okP l = false) : matchP l s = false := by
  unfold okP at h
  unfold matchP
  cases hp : parse l with
  | none => simp
  | some T => rw [hp] at h; simp at h; simp; omega
theorem star_beg (l o : List UInt8) (us : List UInt8) (U : List Thing) (hl : l.length ≤ 100) (hus : us.length ≤ 100) (hb : ∀ c ∈ l, c ≠ 91) (ho : okP l = true) (hU : parse us = some U) (hall : ∀ s, gm U s = true) : matchP (l ++ us) o = begF l o (o.length + 1) := by
  obtain ⟨T, hT⟩ := okP_iff l ho
  have hp : parse (l ++ us) = some (T ++ U) := by
    rw [parse_append us l.length l T (Nat.le_refl _) hb hT, hU]; rfl
  rw [matchP_of _ _ _ (by simp; omega) hp, Bool.eq_iff_iff, gm_star_behind T U hall]
  unfold begF
  rw [List.any_eq_true]
  constructor
  · rintro ⟨j, hj, h⟩
    exact ⟨j, List.mem_range.2 (by omega), by rw [matchP_of _ _ _ (by omega) hT]; exact h⟩
  · rintro ⟨j, hj, h⟩
    exact ⟨j, by have := List.mem_range.1 hj; omega, by rw [matchP_of _ _ _ (by omega) hT] at h; exact h⟩
theorem str_append (a b : List UInt8) : str a ++ str b = str (a ++ b) := by
  apply ByteArray.ext
  simp [str]

set_option maxHeartbeats 2000000 in
set_option maxRecDepth 100000 in
theorem globsStars_walk (a b : ByteArray) (w : World) (ha : a.size ≤ 140737488351232) (hb : b.size ≤ 140737488351232) :
    Calls Try.prog 6 #[.string a, .string b] w fun e w' => e = .returned (.bool true) ∧ Below w.heap.size w w' := by
  obtain ⟨l, rfl⟩ : ∃ l, a = str l := ⟨_, str_of a⟩
  obtain ⟨o, rfl⟩ : ∃ o, b = str o := ⟨_, str_of b⟩
  have hsl := str_size l
  have hso := str_size o
  rw [hsl] at ha
  rw [hso] at hb
  by_cases h1 : 100 < l.length
  · go_enter Try.func6, Try.ntmps6
    go_wp2_with fail
    refine (alive_any w).mono ?_
    rintro e w1 ⟨rfl, hB1⟩
    go_wp2_with fail
    refine (alive_any w1).mono ?_
    rintro e w2 ⟨rfl, hB2⟩
    go_wp2_with fail
    go_ret
    exact ⟨rfl, below_then hB1 hB1.size hB2⟩
  by_cases h2 : 100 < o.length
  · go_enter Try.func6, Try.ntmps6
    go_wp2_with fail
    refine (alive_any w).mono ?_
    rintro e w1 ⟨rfl, hB1⟩
    go_wp2_with fail
    refine (alive_any w1).mono ?_
    rintro e w2 ⟨rfl, hB2⟩
    go_wp2_with fail
    go_ret
    exact ⟨rfl, below_then hB1 hB1.size hB2⟩
  go_enter Try.func6, Try.ntmps6
  go_wp2_with fail
  refine (alive_any w).mono ?_
  rintro e w1 ⟨rfl, hB1⟩
  go_wp2_with fail
  go_loop [5] (fun i => ∃ k : Nat, k ≤ l.length ∧ i = .int .i64 k ∧ Hid (∀ j (h : j < l.length), j < k → l[j] ≠ 91)) (fun i => l.length - (intOf i).toNat)
  case atStart => exact ⟨0, Nat.zero_le _, rfl, hide fun j _ h => absurd h (by omega)⟩
  case round =>
    obtain ⟨k, hk, rfl, hno⟩ := hrel
    by_cases hlt : k < l.length
    · obtain ⟨ch, hch⟩ : ∃ ch, ch = l[k] := ⟨_, rfl⟩
      have hg : ∀ h : k < (str l).size, (str l)[k]'h = ch := fun _ => hch.symm
      have HCH := Lib.hid hch
      clear hch
      by_cases hs : ch = 91
      · subst hs
        clear HCH
        go_wp2_with fail
        go_ret
        exact ⟨rfl, hB1⟩
      · have q1 := u8_beq_lit (n := 91) (by omega) hs
        have HS := Lib.hid hs
        clear hs
        simp only [Int.cast_ofNat_Int] at q1
        go_wp2_with fail
        go_round
        case rel =>
          exact ⟨k + 1, by omega, by go_num, hide fun j hj hjk => by
            by_cases e : j = k
            · subst e
              rw [← HCH.out]
              exact HS.out
            · exact hno.out j hj (by omega)⟩
        case measure => simp [intOf]; omega
    · obtain rfl : k = l.length := by omega
      have hall : ∀ c ∈ l, c ≠ 91 := fun c hc => by
        obtain ⟨j, hj, rfl⟩ := List.getElem_of_mem hc
        exact hno.out j hj hj
      have HA := Lib.hid hall
      clear hall hno
      go_wp2_with fail
      refine (check_any l w1 (by omega)).mono ?_
      rintro e w2 ⟨rfl, hB2⟩
      have hB02 := below_then hB1 hB1.size hB2
      cases hok : okP l with
      | false =>
        have HM := Lib.hid (okP_no l o hok)
        clear hok
        go_wp2_with fail
        refine (match_any l o w2 (by omega) (by omega)).mono ?_
        rintro e w3 ⟨rfl, hB3⟩
        rw [HM.out]
        go_wp2_with fail
        go_ret
        exact ⟨rfl, below_then hB02 hB02.size hB3⟩
      | true =>
        have H1 := Lib.hid (star_beg l o [42] [none] (by omega) (by decide) HA.out hok rfl gm_only_star)
        have H2 := Lib.hid (star_beg l o [42, 42] [none, none] (by omega) (by decide) HA.out hok rfl gm_two_stars)
        clear hok
        go_wp2_with fail
        go_loopw [6, 7] (fun x i wr => ∃ k : Nat, k ≤ o.length + 1 ∧ i = .int .i64 k ∧ x = .bool (begF l o k) ∧ Below w2.heap.size w2 wr) (fun _ i _ => o.length + 1 - (intOf i).toNat)
        case atStart => exact ⟨0, Nat.zero_le _, rfl, rfl, Below.refl _ _⟩
        case round =>
          obtain ⟨k, hk, rfl, rfl, hBr⟩ := hrel
          have HS := Lib.hid (begF_succ l o k)
          by_cases hlt : k ≤ o.length
          · obtain ⟨bb, hbb⟩ : ∃ bb, bb = begF l o k := ⟨_, rfl⟩
            rw [← hbb] at HS ⊢
            clear hbb
            have hx : (str o).extract 0 k = str (o.take k) := str_upto o k
            cases bb with
            | true =>
              go_wp2_with fail
              go_roundw
              case rel => exact ⟨k + 1, by omega, by go_num, by rw [HS.out]; rfl, hBr⟩
              case measure => simp [intOf]; omega
            | false =>
              go_wp2_with fail
              refine (match_any l (o.take k) wr (by omega) (by rw [List.length_take]; omega)).mono ?_
              rintro e w3 ⟨rfl, hB3⟩
              go_wp2_with fail
              go_roundw
              case rel => exact ⟨k + 1, by omega, by go_num, by rw [HS.out]; simp, below_then hBr hBr.size hB3⟩
              case measure => simp [intOf]; omega
          · obtain rfl : k = o.length + 1 := by omega
            obtain ⟨bb, hbb⟩ : ∃ bb, bb = begF l o (o.length + 1) := ⟨_, rfl⟩
            rw [← hbb] at H1 H2 ⊢
            clear hbb HS
            have hB0r := below_then hB02 hB02.size hBr
            go_wp2_with fail
            rw [show str l ++ ({ data := #[42] } : ByteArray) = str (l ++ [42]) from str_append l [42]]
            refine (match_any (l ++ [42]) o wr (by simp; omega) (by omega)).mono ?_
            rintro e w3 ⟨rfl, hB3⟩
            rw [H1.out]
            have h13 := below_then hB0r hB0r.size hB3
            cases bb
            all_goals
              go_wp2_with fail
              rw [show str l ++ ({ data := #[42, 42] } : ByteArray) = str (l ++ [42, 42]) from str_append l [42, 42]]
              refine (match_any (l ++ [42, 42]) o w3 (by simp; omega) (by omega)).mono ?_
              rintro e w4 ⟨rfl, hB4⟩
              rw [H2.out]
              go_wp2_with fail
              refine (match_any [42] o w4 (by decide) (by omega)).mono ?_
              rintro e w5 ⟨rfl, hB5⟩
              rw [matchP_of [42] o [none] (by decide) rfl, gm_only_star]
              go_wp2_with fail
              go_ret
              have h14 := below_then h13 h13.size hB4
              exact ⟨rfl, below_then h14 h14.size hB5⟩
end Go.Proofs.Ytafiadlkfjacnaa
