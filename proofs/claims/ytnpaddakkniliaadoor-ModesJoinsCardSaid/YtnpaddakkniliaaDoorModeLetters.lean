/-
  modes' letters: its contract.
-/
import Derived.Test.YtnpaddakkniliaaDoorModeText
import Derived.Test.YtnpaddakkniliaaDoorMaps
import Derived.Test.YtnpaddakkniliaaDoorStr
import Derived.Test.YtnpaddakkniliaaDoorBits
import Derived.Test.YtnpaddakkniliaaDoorKept
namespace Go.Proofs.YtnpaddakkniliaaDoor
open Go.RowKit

def mv (es : BitM) : List (Int × Value) := es.map fun x => ((x.1.toNat : Int), Value.int .i64 (x.2 : Int))
theorem find_mv (c : UInt8) : ∀ es : BitM, findI (mv es) (c.toNat : Int) = (lookM es c).map fun b : Nat => Value.int .i64 (b : Int)
  | [] => rfl
  | x :: es => by
    show (if (c.toNat : Int) = (x.1.toNat : Int) then some (Value.int .i64 (x.2 : Int)) else findI (mv es) (c.toNat : Int)) = (if c = x.1 then some x.2 else lookM es c).map _
    by_cases h : c = x.1
    · rw [if_pos h, if_pos (by rw [h])]; rfl
    · rw [if_neg h, if_neg (fun e => h (UInt8.toNat_inj.1 (by omega))), find_mv c es]
theorem bit_zero (w : World) : (zeroValue 3).run Tryd.prog w = .ok (.int .i64 0) w := by kernel_rfl
theorem run_bit {w : World} {g : Nat} {es : BitM} (h : MapI w g .u8 (mv es)) (c : UInt8) (o : Option Nat) (ho : lookM es c = o) :
    (Instr.lookup 78 (.map (some g)) (.int .u8 (c.toNat : Int)) true).run Tryd.prog w = .ok (.tuple #[.int .i64 ((o.getD 0 : Nat) : Int), .bool o.isSome]) w := by
  rw [run_lookupI h 78 5 3 Tryd.underlying78 Tryd.underlying5 (.int .i64 0) bit_zero (c.toNat : Int), find_mv, ho]
  cases o <;> rfl
theorem lettersM_none {es : BitM} {a : Nat} {c : UInt8} {r : List UInt8} (h : lookM es c = none) : lettersM es a (c :: r) = (a, c :: r) := by
  show (match lookM es c with | none => (a, c :: r) | some b => lettersM es (a ||| b) r) = _
  rw [h]
theorem lettersM_some {es : BitM} {a b : Nat} {c : UInt8} {r : List UInt8} (h : lookM es c = some b) : lettersM es a (c :: r) = lettersM es (a ||| b) r := by
  show (match lookM es c with | none => (a, c :: r) | some b => lettersM es (a ||| b) r) = _
  rw [h]

set_option maxRecDepth 100000 in
set_option maxHeartbeats 2000000 in
theorem mletters_any (es : BitM) (s : List UInt8) (g : Nat) (w : World) (hM : MapI w g .u8 (mv es)) (hl : s.length ≤ 2097152) (hes : ∀ c b, lookM es c = some b → b < 16) :
    Calls Tryd.prog 45 #[.string (str s), .map (some g)] w fun e w' => (∃ n : Nat, e = .returned (.tuple #[.int .i64 ((lettersM es 0 s).1 : Nat), .string (str (lettersM es 0 s).2), .int .i64 n])) ∧ (lettersM es 0 s).1 < 16 ∧ ∃ k, w' = w.drewN k := by
  have hs0 : (str s).size = s.length := str_size s
  go_enter Tryd.func45, Tryd.ntmps45
  go_wp2_with fail
  go_loopw [4, 6] (fun v i wr => ∃ q a : Nat, q ≤ s.length ∧ i = .int .i64 q ∧ v = .int .i64 a ∧ a < 16 ∧ Hid (lettersM es 0 s = lettersM es a (s.drop q)) ∧ w = wr) (fun _ i _ => s.length - (intOf i).toNat)
  case atStart => exact ⟨0, 0, Nat.zero_le _, rfl, rfl, by omega, rfl, rfl⟩
  case round =>
    obtain ⟨q, a, hq, rfl, rfl, ha, HL, rfl⟩ := hrel
    have hx : (str s).extract q s.length = str (s.drop q) := by rw [← hs0]; exact str_from s q
    by_cases hlt : q < s.length
    · have hqI : (q : Int) < (s.length : Int) := by omega
      obtain ⟨c, hc⟩ : ∃ c, s[q]? = some c := ⟨_, List.getElem?_eq_getElem hlt⟩
      have hgq := str_get s q c hc
      have hdr : s.drop q = c :: s.drop (q + 1) := by
        rw [List.getElem?_eq_getElem hlt] at hc
        injection hc with hc
        rw [List.drop_eq_getElem_cons hlt, hc]
      cases hk : lookM es c with
      | none =>
        have hlk := run_bit hM c none hk
        have HE := Lib.hid (show lettersM es 0 s = (a, s.drop q) by rw [HL.out, hdr, lettersM_none hk])
        clear hk hc hdr HL
        go_wp2_with fail
        go_quiet (fail)
        go_wp2_with fail
        go_ret3
        exact ⟨⟨q, by rw [HE.out]; rfl⟩, by rw [HE.out]; exact ha, _, rfl⟩
      | some b =>
        have hlk := run_bit hM c (some b) hk
        have hb := hes c b hk
        have hor : bits .or .i64 (a : Int) (b : Int) = ((a ||| b : Nat) : Int) := i64_or_nat a b (by omega) (by omega)
        have hab : a ||| b < 16 := Nat.or_lt_two_pow (n := 4) ha hb
        have HE := Lib.hid (show lettersM es 0 s = lettersM es (a ||| b) (s.drop (q + 1)) by rw [HL.out, hdr, lettersM_some hk])
        obtain ⟨z, hz⟩ : ∃ z, z = a ||| b := ⟨_, rfl⟩
        rw [← hz] at hor hab HE
        clear hk hc hdr HL hz hx
        go_wp2_with fail
        go_roundw
        case rel => exact ⟨q + 1, z, by omega, by go_num, rfl, hab, HE, trivial⟩
        case measure => simp [intOf]; omega
    · obtain rfl : q = s.length := by omega
      have hqI : ¬ (s.length : Int) < (s.length : Int) := by omega
      have HE := Lib.hid (show lettersM es 0 s = (a, []) by rw [HL.out, List.drop_length]; rfl)
      clear HL
      go_wp2_with fail
      go_quiet (fail)
      go_wp2_with fail
      go_ret3
      exact ⟨⟨s.length, by rw [HE.out]; rfl⟩, by rw [HE.out]; exact ha, _, rfl⟩
end Go.Proofs.YtnpaddakkniliaaDoor
