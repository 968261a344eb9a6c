/-
  opts.letters: its contract.
-/
import Derived.Test.YtghkdfjmahmolaaDoorOptsPlain
import Derived.Test.YtghkdfjmahmolaaDoorMaps2
import Derived.Test.YtghkdfjmahmolaaDoorBytes
import Derived.Test.YtghkdfjmahmolaaDoorStr
import Derived.Test.YtghkdfjmahmolaaDoorKept
namespace Go.Proofs.YtghkdfjmahmolaaDoor
open Go.RowKit

def tv (es : Told) : List (Int × Value) := es.map fun x => ((x.1.toNat : Int), Value.bool x.2)
theorem u8_eq (a b : UInt8) : ((a.toNat : Int) = (b.toNat : Int)) ↔ a = b := by
  rw [← UInt8.toNat_inj]; omega
theorem find_tv (c : UInt8) : ∀ es : Told, findI (tv es) (c.toNat : Int) = (look es c).map Value.bool
  | [] => rfl
  | x :: es => by
    show (if (c.toNat : Int) = (x.1.toNat : Int) then some (Value.bool x.2) else findI (tv es) (c.toNat : Int)) = (if c = x.1 then some x.2 else look es c).map Value.bool
    by_cases h : c = x.1
    · rw [if_pos h, if_pos ((u8_eq _ _).2 h)]; rfl
    · rw [if_neg h, if_neg (fun e => h ((u8_eq _ _).1 e)), find_tv c es]
theorem set_tv (c : UInt8) : ∀ es : Told, setI (tv es) (c.toNat : Int) (.bool true) = tv (setTold es c)
  | [] => rfl
  | x :: es => by
    show (if (c.toNat : Int) = (x.1.toNat : Int) then ((x.1.toNat : Int), Value.bool true) :: tv es else ((x.1.toNat : Int), Value.bool x.2) :: setI (tv es) (c.toNat : Int) (.bool true)) = tv (if c = x.1 then (x.1, true) :: es else x :: setTold es c)
    by_cases h : c = x.1
    · rw [if_pos h, if_pos ((u8_eq _ _).2 h)]; rfl
    · rw [if_neg h, if_neg (fun e => h ((u8_eq _ _).1 e)), set_tv c es]; rfl
theorem put_new (es : Told) (c : UInt8) (v : Bool) (h : look es c = none) : putI (tv es) (c.toNat : Int) (.bool v) = tv (es ++ [(c, v)]) := by
  unfold putI
  rw [if_pos (by rw [find_tv, h]; rfl)]
  simp [tv]
theorem put_old (es : Told) (c : UInt8) (h : look es c ≠ none) : putI (tv es) (c.toNat : Int) (.bool true) = tv (setTold es c) := by
  unfold putI
  rw [if_neg (by rw [find_tv]; cases hl : look es c with | none => exact absurd hl h | some _ => simp), set_tv]
theorem told_zero (w : World) : (zeroValue 4).run Tryd.prog w = .ok (.bool false) w := by kernel_rfl
/-- A letter looked up. -/
theorem run_told {w : World} {g : Nat} {es : Told} (h : MapI w g .u8 (tv es)) (c : UInt8) (t b : Bool) (ht : (look es c).getD false = t) (hb : (look es c).isSome = b) :
    (Instr.lookup 57 (.map (some g)) (.int .u8 (c.toNat : Int)) true).run Tryd.prog w = .ok (.tuple #[.bool t, .bool b]) w := by
  rw [run_lookupI h 57 5 4 Tryd.underlying57 Tryd.underlying5 (.bool false) told_zero (c.toNat : Int), find_tv, ← ht, ← hb]
  cases look es c <;> rfl
def LetIs (s : List UInt8) (B : Nat) (w' : World) (e : Ending) : Prop :=
  match lettersV s with
  | none => e = .returned (.tuple #[.map none, .bool false])
  | some es => ∃ g, e = .returned (.tuple #[.map (some g), .bool true]) ∧ B ≤ g ∧ MapI w' g .u8 (tv es)
theorem go_none {es : Told} {last c : UInt8} {r : List UInt8} (h : letStep es last c = none) : lettersGo es last (c :: r) = none := by
  show (match letStep es last c with | none => none | some x => lettersGo x.1 x.2 r) = none
  rw [h]
theorem go_some {es : Told} {last c : UInt8} {r : List UInt8} {x : Told × UInt8} (h : letStep es last c = some x) : lettersGo es last (c :: r) = lettersGo x.1 x.2 r := by
  show (match letStep es last c with | none => none | some x => lettersGo x.1 x.2 r) = _
  rw [h]

theorem LetIs.no {s : List UInt8} {B : Nat} {w' : World} (h : lettersV s = none) : LetIs s B w' (.returned (.tuple #[.map none, .bool false])) := by
  unfold LetIs
  rw [h]
theorem or_u8 : ∀ n : Nat, n < 256 → bits .or .u8 (n : Int) 32 = ((n ||| 32 : Nat) : Int) := by decide +kernel
theorem or_c (c : UInt8) : bits .or .u8 (c.toNat : Int) 32 = (((c ||| 32).toNat : Nat) : Int) := by
  rw [or_u8 c.toNat c.toNat_lt]
  rfl
/-- A byte that is a letter or a digit, or none: in what the walk asks. -/
theorem isLet_cases (c : UInt8) :
    (isLet c = true ∧ ((97 ≤ (c ||| 32).toNat ∧ (c ||| 32).toNat ≤ 122) ∨ ((c ||| 32).toNat < 97 ∧ 48 ≤ c.toNat ∧ c.toNat ≤ 57) ∨ (97 ≤ (c ||| 32).toNat ∧ 122 < (c ||| 32).toNat ∧ 48 ≤ c.toNat ∧ c.toNat ≤ 57))) ∨
    (isLet c = false ∧ (((c ||| 32).toNat < 97 ∧ c.toNat < 48) ∨ ((c ||| 32).toNat < 97 ∧ 48 ≤ c.toNat ∧ 57 < c.toNat) ∨ (97 ≤ (c ||| 32).toNat ∧ 122 < (c ||| 32).toNat ∧ c.toNat < 48) ∨ (97 ≤ (c ||| 32).toNat ∧ 122 < (c ||| 32).toNat ∧ 48 ≤ c.toNat ∧ 57 < c.toNat))) := by
  unfold isLet
  generalize (c ||| 32).toNat = x
  generalize c.toNat = y
  by_cases a1 : 97 ≤ x <;> by_cases a2 : x ≤ 122 <;> by_cases a3 : 48 ≤ y <;> by_cases a4 : y ≤ 57 <;> simp [a1, a2, a3, a4] <;> omega

set_option maxRecDepth 100000 in
set_option maxHeartbeats 8000000 in
theorem letters_any (s : List UInt8) (w : World) (hl : s.length ≤ 2097152) :
    Calls Tryd.prog 28 #[.string (str s)] w fun e w' => LetIs s w.heap.size w' e ∧ Below w.heap.size w w' := by
  have hs0 : (str s).size = s.length := str_size s
  have hm0 : MapI (w.alloc (.map #[] 0)) w.heap.size .u8 (tv []) := MapI.new w .u8
  have hmm := @run_makeMap Tryd.prog
  have hB0 : Below w.heap.size w (w.alloc (.map #[] 0)) := (Below.refl _ _).alloc (Nat.le_refl _) _
  have hsz0 : (w.alloc (.map #[] 0)).heap.size = w.heap.size + 1 := by simp
  go_enter Tryd.func28, Tryd.ntmps28
  go_wp2_with (refine wpList_bytes_of_string _ rfl (.tmp 13) 9 36 5 rfl Tryd.underlying9 Tryd.underlying36 Tryd.underlying5 (str s) rfl ?_; intro cap w1 hcap hb1 hB1 hs1)
  rw [hsz0] at hb1 hB1 hs1
  have hM1 := hm0.below hB1 (by omega)
  have hB01 := hB0.trans (hB1.mono (Nat.le_succ _))
  clear hmm hm0 hB0 hB1
  rw [hs0] at hb1 hcap
  go_loopw [5, 16] (fun la i wr => ∃ (q : Nat) (es : Told) (last : UInt8), q ≤ s.length ∧ i = .int .i64 q ∧ la = .int .u8 (last.toNat : Int) ∧ Hid (lettersV s = lettersGo es last (s.drop q)) ∧ MapI wr w.heap.size .u8 (tv es) ∧ Buf wr (w.heap.size + 1) s.length (fun j => .int .u8 ((s.getD j 0).toNat : Int)) ∧ Below w.heap.size w wr) (fun _ i _ => s.length - (intOf i).toNat)
  case atStart => exact ⟨0, [], 0, Nat.zero_le _, rfl, rfl, rfl, hM1, hb1, hB01⟩
  case round =>
    obtain ⟨q, es, last, hq, rfl, rfl, HL, hM, hb, hB⟩ := hrel
    have hMlt := hM.lt
    have hblt := hb.lt
    by_cases hlt : q < s.length
    · have hqI : (q : Int) < (s.length : Int) := by omega
      obtain ⟨c, hce⟩ : ∃ c, c = s.getD q 0 := ⟨_, rfl⟩
      have hc1 := hb.cell hlt
      rw [← hce] at hc1
      have hdr : s.drop q = c :: s.drop (q + 1) := by
        rw [List.drop_eq_getElem_cons hlt, hce, List.getD_eq_getElem?_getD, List.getElem?_eq_getElem hlt]; rfl
      have HR := Lib.hid (HL.out.trans (by rw [hdr]))
      clear hce hdr HL
      have h256 := c.toNat_lt
      have hor := or_c c
      obtain ⟨t1, ht1⟩ : ∃ t, (look es last).getD false = t := ⟨_, rfl⟩
      obtain ⟨b1, hbb1⟩ : ∃ t, (look es last).isSome = t := ⟨_, rfl⟩
      obtain ⟨t2, ht2⟩ : ∃ t, (look es c).getD false = t := ⟨_, rfl⟩
      obtain ⟨b2, hbb2⟩ : ∃ t, (look es c).isSome = t := ⟨_, rfl⟩
      have hlk1 := run_told hM last t1 b1 ht1 hbb1
      have hlk2 := run_told hM c t2 b2 ht2 hbb2
      by_cases h58 : c = 58
      · by_cases hA : b1 = true ∧ t1 = false
        · obtain ⟨rfl, rfl⟩ := hA
          have hst : letStep es last c = some (setTold es last, 0) := by
            unfold letStep
            rw [if_pos ⟨h58, by cases hx : look es last with | none => rw [hx] at hbb1; cases hbb1 | some v => rw [hx] at ht1; simp at ht1; rw [ht1]⟩]
          have HG := Lib.hid (HR.out.trans (go_some hst))
          have HN1 := Lib.hid (show look es last ≠ none from fun e => by rw [e] at hbb1; cases hbb1)
          have e5 : ((c.toNat : Int) == 58) = true := by rw [h58]; rfl
          clear hst HR ht1 hbb1 ht2 hbb2 h58
          go_wp2_with (at_mapUpdate; refine wpList_putI rfl (.tmp 45) (.tmp 46) (.const (.bool true)) 57 rfl hM 5 4 Tryd.underlying57 Tryd.underlying5 _ (.bool true) rfl rfl rfl ?_; intro w4 hM4 hg4 hs4)
          have hB4 : Below w.heap.size w w4 := hB.grown hg4 hB.size (fun g hg => by injection hg with hg; omega)
          have hb4 := hb.grown hg4 (by simp)
          rw [put_old es last HN1.out] at hM4
          go_wp2_with fail
          go_roundw
          case rel => exact ⟨q + 1, setTold es last, 0, by omega, by go_num, rfl, HG.out, hM4, hb4, hB4⟩
          case measure => simp [intOf]; omega
        · have hst : letStep es last c = none := by
            unfold letStep
            rw [if_neg (fun h => hA (by rw [h.2] at ht1 hbb1; exact ⟨hbb1.symm, ht1.symm⟩)), if_pos (.inr (by rw [h58]; decide))]
          have HNO := Lib.hid (HR.out.trans (go_none hst))
          have hx2 : (c.toNat : Int) = 58 := by rw [h58]; rfl
          have hor58 : bits .or .u8 58 32 = 58 := by decide
          clear hst HR ht1 hbb1 ht2 hbb2 h58 hor
          rw [hx2] at hc1 hlk2
          clear hx2
          rcases (show b1 = false ∨ (b1 = true ∧ t1 = true) by cases b1 <;> cases t1 <;> simp_all) with h | ⟨h, h'⟩
          · subst h
            cases b2
            · go_wp2_with fail
              go_ret2
              exact ⟨LetIs.no HNO.out, hB⟩
            · go_wp2_with fail
              go_ret2
              exact ⟨LetIs.no HNO.out, hB⟩
          · subst h
            subst h'
            cases b2
            · go_wp2_with fail
              go_ret2
              exact ⟨LetIs.no HNO.out, hB⟩
            · go_wp2_with fail
              go_ret2
              exact ⟨LetIs.no HNO.out, hB⟩
      · have e5 : ((c.toNat : Int) == 58) = false := u8_lit c 58 (by omega) h58
        cases b2 with
        | true =>
          have hst : letStep es last c = none := by
            unfold letStep
            rw [if_neg (fun h => h58 h.1), if_pos (.inl (fun e => by rw [e] at hbb2; cases hbb2))]
          have HNO := Lib.hid (HR.out.trans (go_none hst))
          clear hst HR ht1 hbb1 ht2 hbb2 h58
          go_wp2_with fail
          go_ret2
          exact ⟨LetIs.no HNO.out, hB⟩
        | false =>
          have hn2 : look es c = none := by cases hx : look es c with | none => rfl | some v => rw [hx] at hbb2; cases hbb2
          obtain ⟨z, hz⟩ : ∃ z, z = (c ||| 32).toNat := ⟨_, rfl⟩
          rw [← hz] at hor
          have hz256 : z < 256 := by rw [hz]; exact (c ||| 32).toNat_lt
          rcases isLet_cases c with ⟨hL, hcs⟩ | ⟨hL, hcs⟩
          · have hst : letStep es last c = some (es ++ [(c, false)], c) := by
              unfold letStep
              rw [if_neg (fun h => h58 h.1), if_neg (fun h => by rcases h with h | h; exact h hn2; rw [hL] at h; cases h)]
            have HG := Lib.hid (HR.out.trans (go_some hst))
            have HN2 := Lib.hid hn2
            rw [← hz] at hcs
            clear hst HR ht1 hbb1 ht2 hbb2 h58 hn2 hL hz
            rcases hcs with ⟨k1, k2⟩ | ⟨k1, k2, k3⟩ | ⟨k1, k2, k3, k4⟩
            · have f1 : decide ((97 : Int) ≤ (z : Int)) = true := decide_eq_true (by omega)
              have f2 : decide ((z : Int) ≤ 122) = true := decide_eq_true (by omega)
              go_wp2_with (at_mapUpdate; refine wpList_putI rfl (.tmp 32) (.tmp 33) (.const (.bool false)) 57 rfl hM 5 4 Tryd.underlying57 Tryd.underlying5 _ (.bool false) rfl rfl rfl ?_; intro w4 hM4 hg4 hs4)
              have hB4 : Below w.heap.size w w4 := hB.grown hg4 hB.size (fun g hg => by injection hg with hg; omega)
              have hb4 := hb.grown hg4 (by simp)
              rw [put_new es c false HN2.out] at hM4
              go_wp2_with fail
              go_roundw
              case rel => exact ⟨q + 1, es ++ [(c, false)], c, by omega, by go_num, rfl, HG.out, hM4, hb4, hB4⟩
              case measure => simp [intOf]; omega
            · have f1 : decide ((97 : Int) ≤ (z : Int)) = false := decide_eq_false (by omega)
              have f3 : decide ((48 : Int) ≤ (c.toNat : Int)) = true := decide_eq_true (by omega)
              have f4 : decide ((c.toNat : Int) ≤ 57) = true := decide_eq_true (by omega)
              go_wp2_with (at_mapUpdate; refine wpList_putI rfl (.tmp 32) (.tmp 33) (.const (.bool false)) 57 rfl hM 5 4 Tryd.underlying57 Tryd.underlying5 _ (.bool false) rfl rfl rfl ?_; intro w4 hM4 hg4 hs4)
              have hB4 : Below w.heap.size w w4 := hB.grown hg4 hB.size (fun g hg => by injection hg with hg; omega)
              have hb4 := hb.grown hg4 (by simp)
              rw [put_new es c false HN2.out] at hM4
              go_wp2_with fail
              go_roundw
              case rel => exact ⟨q + 1, es ++ [(c, false)], c, by omega, by go_num, rfl, HG.out, hM4, hb4, hB4⟩
              case measure => simp [intOf]; omega
            · have f1 : decide ((97 : Int) ≤ (z : Int)) = true := decide_eq_true (by omega)
              have f2 : decide ((z : Int) ≤ 122) = false := decide_eq_false (by omega)
              have f3 : decide ((48 : Int) ≤ (c.toNat : Int)) = true := decide_eq_true (by omega)
              have f4 : decide ((c.toNat : Int) ≤ 57) = true := decide_eq_true (by omega)
              go_wp2_with (at_mapUpdate; refine wpList_putI rfl (.tmp 32) (.tmp 33) (.const (.bool false)) 57 rfl hM 5 4 Tryd.underlying57 Tryd.underlying5 _ (.bool false) rfl rfl rfl ?_; intro w4 hM4 hg4 hs4)
              have hB4 : Below w.heap.size w w4 := hB.grown hg4 hB.size (fun g hg => by injection hg with hg; omega)
              have hb4 := hb.grown hg4 (by simp)
              rw [put_new es c false HN2.out] at hM4
              go_wp2_with fail
              go_roundw
              case rel => exact ⟨q + 1, es ++ [(c, false)], c, by omega, by go_num, rfl, HG.out, hM4, hb4, hB4⟩
              case measure => simp [intOf]; omega
          · have hst : letStep es last c = none := by
              unfold letStep
              rw [if_neg (fun h => h58 h.1), if_pos (.inr hL)]
            have HNO := Lib.hid (HR.out.trans (go_none hst))
            rw [← hz] at hcs
            clear hst HR ht1 hbb1 ht2 hbb2 h58 hn2 hL hz
            rcases hcs with ⟨k1, k2⟩ | ⟨k1, k2, k3⟩ | ⟨k1, k2, k3⟩ | ⟨k1, k2, k3, k4⟩
            · have f1 : decide ((97 : Int) ≤ (z : Int)) = false := decide_eq_false (by omega)
              have f3 : decide ((48 : Int) ≤ (c.toNat : Int)) = false := decide_eq_false (by omega)
              go_wp2_with fail
              go_ret2
              exact ⟨LetIs.no HNO.out, hB⟩
            · have f1 : decide ((97 : Int) ≤ (z : Int)) = false := decide_eq_false (by omega)
              have f3 : decide ((48 : Int) ≤ (c.toNat : Int)) = true := decide_eq_true (by omega)
              have f4 : decide ((c.toNat : Int) ≤ 57) = false := decide_eq_false (by omega)
              go_wp2_with fail
              go_ret2
              exact ⟨LetIs.no HNO.out, hB⟩
            · have f1 : decide ((97 : Int) ≤ (z : Int)) = true := decide_eq_true (by omega)
              have f2 : decide ((z : Int) ≤ 122) = false := decide_eq_false (by omega)
              have f3 : decide ((48 : Int) ≤ (c.toNat : Int)) = false := decide_eq_false (by omega)
              go_wp2_with fail
              go_ret2
              exact ⟨LetIs.no HNO.out, hB⟩
            · have f1 : decide ((97 : Int) ≤ (z : Int)) = true := decide_eq_true (by omega)
              have f2 : decide ((z : Int) ≤ 122) = false := decide_eq_false (by omega)
              have f3 : decide ((48 : Int) ≤ (c.toNat : Int)) = true := decide_eq_true (by omega)
              have f4 : decide ((c.toNat : Int) ≤ 57) = false := decide_eq_false (by omega)
              go_wp2_with fail
              go_ret2
              exact ⟨LetIs.no HNO.out, hB⟩
    · obtain rfl : q = s.length := by omega
      have hall : lettersV s = some es := HL.out.trans (by rw [List.drop_length]; rfl)
      have HALL := Lib.hid hall
      clear hall HL
      go_wp2_with fail
      go_ret2
      exact ⟨by unfold LetIs; rw [HALL.out]; exact ⟨_, rfl, Nat.le_refl _, hM⟩, hB⟩
end Go.Proofs.YtghkdfjmahmolaaDoor
