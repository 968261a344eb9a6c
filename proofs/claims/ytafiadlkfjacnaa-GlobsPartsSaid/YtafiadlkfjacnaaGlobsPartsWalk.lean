/-
  GlobsParts: the law's walk.
-/
import Derived.Test.YtafiadlkfjacnaaGlobAlive
import Derived.Test.YtafiadlkfjacnaaGlobsStarsWalk
namespace Go.Proofs.Ytafiadlkfjacnaa
open Go.RowKit

/-- Can the name be parted ahead of place k? -/
def partF (p q o : List UInt8) (k : Nat) : Bool := (List.range k).any fun j => matchP p (o.take j) && matchP q (o.drop j)
theorem partF_succ (p q o : List UInt8) (k : Nat) : partF p q o (k + 1) = (partF p q o k || (matchP p (o.take k) && matchP q (o.drop k))) := by
  unfold partF
  rw [List.range_succ, List.any_append]
  simp
theorem parted (p q o : List UInt8) (hp : p.length ≤ 60) (hq : q.length ≤ 60) (hb : ∀ c ∈ p, c ≠ 91) (ho : okP p = true) (ho2 : okP q = true) : matchP (p ++ q) o = partF p q o (o.length + 1) := by
  obtain ⟨T, hT⟩ := okP_iff p ho
  obtain ⟨U, hU⟩ := okP_iff q ho2
  have h : parse (p ++ q) = some (T ++ U) := by
    rw [parse_append q p.length p T (Nat.le_refl _) hb hT, hU]; rfl
  rw [matchP_of _ _ _ (by simp; omega) h, Bool.eq_iff_iff, gm_append]
  unfold partF
  rw [List.any_eq_true]
  constructor
  · rintro ⟨j, hj, h1, h2⟩
    exact ⟨j, List.mem_range.2 (by omega), by rw [matchP_of _ _ _ (by omega) hT, matchP_of _ _ _ (by omega) hU, h1, h2]; rfl⟩
  · rintro ⟨j, hj, h⟩
    rw [matchP_of _ _ _ (by omega) hT, matchP_of _ _ _ (by omega) hU, Bool.and_eq_true] at h
    exact ⟨j, by have := List.mem_range.1 hj; omega, h.1, h.2⟩

set_option maxHeartbeats 2000000 in
set_option maxRecDepth 100000 in
theorem globsParts_walk (a b c : ByteArray) (w : World) (ha : a.size ≤ 140737488351232) (hb : b.size ≤ 140737488351232) (hc : c.size ≤ 140737488351232) :
    Calls Try.prog 7 #[.string a, .string b, .string c] w fun e w' => e = .returned (.bool true) ∧ Below w.heap.size w w' := by
  obtain ⟨p, rfl⟩ : ∃ l, a = str l := ⟨_, str_of a⟩
  obtain ⟨q, rfl⟩ : ∃ l, b = str l := ⟨_, str_of b⟩
  obtain ⟨o, rfl⟩ : ∃ o, c = str o := ⟨_, str_of c⟩
  have hsp := str_size p
  have hsq := str_size q
  have hso := str_size o
  rw [hsp] at ha
  rw [hsq] at hb
  rw [hso] at hc
  by_cases h1 : 60 < p.length
  · go_enter Try.func7, Try.ntmps7
    go_wp2_with fail
    refine (alive_any w).mono ?_
    rintro e w1 ⟨rfl, hB1⟩
    go_wp2_with fail
    refine (alive_any w1).mono ?_
    rintro e w2 ⟨rfl, hB2⟩
    go_wp2_with fail
    go_ret
    exact ⟨rfl, below_then hB1 hB1.size hB2⟩
  by_cases h2 : 60 < q.length
  · go_enter Try.func7, Try.ntmps7
    go_wp2_with fail
    refine (alive_any w).mono ?_
    rintro e w1 ⟨rfl, hB1⟩
    go_wp2_with fail
    refine (alive_any w1).mono ?_
    rintro e w2 ⟨rfl, hB2⟩
    go_wp2_with fail
    go_ret
    exact ⟨rfl, below_then hB1 hB1.size hB2⟩
  by_cases h3 : 60 < o.length
  · go_enter Try.func7, Try.ntmps7
    go_wp2_with fail
    refine (alive_any w).mono ?_
    rintro e w1 ⟨rfl, hB1⟩
    go_wp2_with fail
    refine (alive_any w1).mono ?_
    rintro e w2 ⟨rfl, hB2⟩
    go_wp2_with fail
    go_ret
    exact ⟨rfl, below_then hB1 hB1.size hB2⟩
  go_enter Try.func7, Try.ntmps7
  go_wp2_with fail
  refine (alive_any w).mono ?_
  rintro e w1 ⟨rfl, hB1⟩
  go_wp2_with fail
  go_loop [7] (fun i => ∃ k : Nat, k ≤ p.length ∧ i = .int .i64 k ∧ Hid (∀ j (h : j < p.length), j < k → p[j] ≠ 91)) (fun i => p.length - (intOf i).toNat)
  case atStart => exact ⟨0, Nat.zero_le _, rfl, hide fun j _ h => absurd h (by omega)⟩
  case round =>
    obtain ⟨k, hk, rfl, hno⟩ := hrel
    by_cases hlt : k < p.length
    · obtain ⟨ch, hch⟩ : ∃ ch, ch = p[k] := ⟨_, rfl⟩
      have hg : ∀ h : k < (str p).size, (str p)[k]'h = ch := fun _ => hch.symm
      have HCH := Lib.hid hch
      clear hch
      by_cases hs : ch = 91
      · subst hs
        clear HCH
        go_wp2_with fail
        go_ret
        exact ⟨rfl, hB1⟩
      · have q1 := u8_beq_lit (n := 91) (by omega) hs
        have HS := Lib.hid hs
        clear hs
        simp only [Int.cast_ofNat_Int] at q1
        go_wp2_with fail
        go_round
        case rel =>
          exact ⟨k + 1, by omega, by go_num, hide fun j hj hjk => by
            by_cases e : j = k
            · subst e
              rw [← HCH.out]
              exact HS.out
            · exact hno.out j hj (by omega)⟩
        case measure => simp [intOf]; omega
    · obtain rfl : k = p.length := by omega
      have hall : ∀ c ∈ p, c ≠ 91 := fun c hc => by
        obtain ⟨j, hj, rfl⟩ := List.getElem_of_mem hc
        exact hno.out j hj hj
      have HA := Lib.hid hall
      clear hall hno
      go_wp2_with fail
      refine (check_any p w1 (by omega)).mono ?_
      rintro e w2 ⟨rfl, hB2⟩
      have hB02 := below_then hB1 hB1.size hB2
      cases hok : okP p with
      | false =>
        clear hok
        go_wp2_with fail
        go_ret
        exact ⟨rfl, hB02⟩
      | true =>
        have HOK := Lib.hid hok
        clear hok
        go_wp2_with fail
        refine (check_any q w2 (by omega)).mono ?_
        rintro e w3 ⟨rfl, hB3⟩
        have hB03 := below_then hB02 hB02.size hB3
        cases hok2 : okP q with
        | false =>
          clear hok2
          go_wp2_with fail
          go_ret
          exact ⟨rfl, hB03⟩
        | true =>
          have H1 := Lib.hid (parted p q o (by omega) (by omega) HA.out HOK.out hok2)
          clear hok2
          go_wp2_with fail
          go_loopw [8, 9] (fun x i wr => ∃ k : Nat, k ≤ o.length + 1 ∧ i = .int .i64 k ∧ x = .bool (partF p q o k) ∧ Below w3.heap.size w3 wr) (fun _ i _ => o.length + 1 - (intOf i).toNat)
          case atStart => exact ⟨0, Nat.zero_le _, rfl, rfl, Below.refl _ _⟩
          case round =>
            obtain ⟨k, hk, rfl, rfl, hBr⟩ := hrel
            have HS := Lib.hid (partF_succ p q o k)
            by_cases hlt : k ≤ o.length
            · obtain ⟨bb, hbb⟩ : ∃ bb, bb = partF p q o k := ⟨_, rfl⟩
              rw [← hbb] at HS ⊢
              clear hbb
              have hx : (str o).extract 0 k = str (o.take k) := str_upto o k
              have hx2 : (str o).extract k o.length = str (o.drop k) := by rw [← str_from, str_size]
              cases bb with
              | true =>
                go_wp2_with fail
                go_roundw
                case rel => exact ⟨k + 1, by omega, by go_num, by rw [HS.out]; rfl, hBr⟩
                case measure => simp [intOf]; omega
              | false =>
                go_wp2_with fail
                refine (match_any p (o.take k) wr (by omega) (by rw [List.length_take]; omega)).mono ?_
                rintro e w4 ⟨rfl, hB4⟩
                have hBr4 := below_then hBr hBr.size hB4
                obtain ⟨m1, hm1⟩ : ∃ m1, m1 = matchP p (o.take k) := ⟨_, rfl⟩
                rw [← hm1] at HS ⊢
                clear hm1
                cases m1 with
                | false =>
                  go_wp2_with fail
                  go_roundw
                  case rel => exact ⟨k + 1, by omega, by go_num, by rw [HS.out]; rfl, hBr4⟩
                  case measure => simp [intOf]; omega
                | true =>
                  go_wp2_with fail
                  refine (match_any q (o.drop k) w4 (by omega) (by rw [List.length_drop]; omega)).mono ?_
                  rintro e w5 ⟨rfl, hB5⟩
                  go_wp2_with fail
                  go_roundw
                  case rel => exact ⟨k + 1, by omega, by go_num, by rw [HS.out]; simp, below_then hBr4 hBr4.size hB5⟩
                  case measure => simp [intOf]; omega
            · obtain rfl : k = o.length + 1 := by omega
              obtain ⟨bb, hbb⟩ : ∃ bb, bb = partF p q o (o.length + 1) := ⟨_, rfl⟩
              rw [← hbb] at H1 ⊢
              clear hbb HS
              have hB0r := below_then hB03 hB03.size hBr
              go_wp2_with fail
              rw [str_append p q]
              refine (match_any (p ++ q) o wr (by simp; omega) (by omega)).mono ?_
              rintro e w4 ⟨rfl, hB4⟩
              rw [H1.out]
              go_wp2_with fail
              go_ret
              exact ⟨ret_bool (by simp), below_then hB0r hB0r.size hB4⟩
end Go.Proofs.Ytafiadlkfjacnaa
