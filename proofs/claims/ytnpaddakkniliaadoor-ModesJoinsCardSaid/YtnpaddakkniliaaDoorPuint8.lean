/-
  strconv.ParseUint at base 8 and nine bits, of one to four octal digits; modes.Read: contracts.
-/
import Derived.Test.YtnpaddakkniliaaDoorModeClause
import Derived.Test.YtnpaddakkniliaaDoorFmt8
import Derived.Shelf.Strings.SlTrimAscii
namespace Go.Proofs.YtnpaddakkniliaaDoor
open Go.RowKit

theorem octF_ge : ∀ (l : List UInt8) (a : Nat), a ≤ octF a l
  | [], a => Nat.le_refl _
  | c :: l, a => by
    show a ≤ octF (8 * a + (c.toNat - 48)) l
    have := octF_ge l (8 * a + (c.toNat - 48))
    omega
theorem octV_take (l : List UInt8) (q : Nat) : octV (l.take q) ≤ octV l := by
  have e : octV l = octF (octV (l.take q)) (l.drop q) := by
    conv => lhs; rw [← List.take_append_drop q l]
    unfold octV octF
    rw [List.foldl_append]
  rw [e]
  exact octF_ge _ _
theorem allOct_take (l : List UInt8) (q : Nat) (h : allOct l = true) : allOct (l.take q) = true := by
  unfold allOct at h ⊢
  rw [List.all_eq_true] at h ⊢
  exact fun x hx => h x (List.mem_of_mem_take hx)

set_option maxRecDepth 100000 in
set_option maxHeartbeats 4000000 in
theorem ipuint_any (s : List UInt8) (h1 : 1 ≤ s.length) (h4 : s.length ≤ 4) (ho : allOct s = true) (w : World) :
    Calls Tryd.prog 38 #[.string (str s), .int .i64 8, .int .i64 9] w fun e w' =>
      (octV s ≤ 511 ∧ e = .returned (.tuple #[.int .u64 (octV s : Nat), .nilIface]) ∨ 511 < octV s ∧ e = .returned (.tuple #[.int .u64 511, .iface 88 (.int .i64 1)])) ∧ Below w.heap.size w w' := by
  have hs0 : (str s).size = s.length := str_size s
  have hq : (str s).toList.isEmpty = false := str_isS s (fun e => by rw [e] at h1; simp at h1)
  have HO := Lib.hid ho
  clear ho
  go_enter Tryd.func38, Tryd.ntmps38
  go_wp2_with (refine wpList_bytes_of_string _ rfl (.tmp 98) 9 33 5 rfl Tryd.underlying9 Tryd.underlying33 Tryd.underlying5 (str s) rfl ?_; intro cap w1 hcap hb1 hB1 hs1)
  rw [hs0] at hb1 hcap
  go_loopw [12, 13, 101] (fun u v i wr => ∃ q : Nat, q ≤ s.length ∧ i = .int .i64 q ∧ u = .bool false ∧ v = .int .u64 (octV (s.take q) : Nat) ∧ octV (s.take q) ≤ 511 ∧ w1 = wr) (fun _ _ i _ => s.length - (intOf i).toNat)
  case atStart => exact ⟨0, Nat.zero_le _, rfl, rfl, rfl, by rw [List.take_zero]; decide, rfl⟩
  case round =>
    obtain ⟨q, hq2, rfl, rfl, rfl, hv, rfl⟩ := hrel
    by_cases hlt : q < s.length
    · have hqI : (q : Int) < (s.length : Int) := by omega
      obtain ⟨c, hc⟩ : ∃ c, s[q]? = some c := ⟨_, List.getElem?_eq_getElem hlt⟩
      have hcell := hb1.cell hlt
      have hgd : s.getD q 0 = c := by rw [List.getD_eq_getElem?_getD, hc]; rfl
      rw [show (str s).data.toList = s from rfl, hgd] at hcell
      have hoc : isOct c = true := by
        have h := HO.out
        unfold allOct at h
        rw [List.all_eq_true] at h
        exact h c (List.mem_of_getElem? hc)
      obtain ⟨d1, d2⟩ := (isOct_iff c).1 hoc
      obtain ⟨z, hz⟩ : ∃ z, z = c.toNat - 48 := ⟨_, rfl⟩
      obtain ⟨v, hve⟩ : ∃ v, v = octV (s.take q) := ⟨_, rfl⟩
      have htk : s.take (q + 1) = s.take q ++ [c] := by rw [List.take_add_one, hc]; rfl
      have HN := Lib.hid (show octV (s.take (q + 1)) = 8 * v + z by rw [htk, octV_snoc, ← hve, hz])
      rw [← hve] at hv ⊢
      have e95 : ((c.toNat : Int) == 95) = false := by simp; omega
      have f1 : decide ((48 : Int) ≤ (c.toNat : Int)) = true := decide_eq_true (by omega)
      have f2 : decide ((c.toNat : Int) ≤ 57) = true := decide_eq_true (by omega)
      have f3 : IntKind.u8.wrap ((c.toNat : Int) - 48) = (z : Int) := by rw [IntKind.wrap_u8]; omega
      have f4 : decide ((8 : Int) ≤ (z : Int)) = false := decide_eq_false (by omega)
      have f5 : decide ((2305843009213693952 : Int) ≤ (v : Int)) = false := decide_eq_false (by omega)
      have hz8 : z < 8 := by omega
      clear hc hgd hoc htk hve hz
      by_cases hbig : 511 < 8 * v + z
      · have HB := Lib.hid (show 511 < octV s from Nat.lt_of_lt_of_le (by rw [HN.out]; exact hbig) (octV_take s (q + 1)))
        go_wp2_with fail
        go_ret2
        exact ⟨.inr ⟨HB.out, rfl⟩, hB1⟩
      · go_wp2_with fail
        go_roundw
        case rel => exact ⟨q + 1, by omega, by go_num, rfl, (by rw [HN.out]; go_num), (by rw [HN.out]; omega), trivial⟩
        case measure => simp [intOf]; omega
    · obtain rfl : q = s.length := by omega
      have hqI : ¬ (s.length : Int) < (s.length : Int) := by omega
      rw [List.take_length] at hv ⊢
      have HVV := Lib.hid hv
      clear hv
      go_wp2_with fail
      go_ret2
      exact ⟨.inl ⟨HVV.out, rfl⟩, hB1⟩
set_option maxHeartbeats 1000000 in
theorem puint_any (B : Nat) (s : List UInt8) (h1 : 1 ≤ s.length) (h4 : s.length ≤ 4) (ho : allOct s = true) (w : World) (hE : EnvM B w) :
    Calls Tryd.prog 24 #[.string (str s), .int .i64 8, .int .i64 9] w fun e w' =>
      (octV s ≤ 511 ∧ e = .returned (.tuple #[.int .u64 (octV s : Nat), .nilIface]) ∨ 511 < octV s ∧ ∃ tp p, e = .returned (.tuple #[.int .u64 511, .iface tp p])) ∧ Below w.heap.size w w' := by
  have hs0 : (str s).size = s.length := str_size s
  go_enter Tryd.func24, Tryd.ntmps24
  go_wp2_with fail
  refine (ipuint_any s h1 h4 ho w).mono ?_
  rintro e w1 ⟨⟨hv, rfl⟩ | ⟨hv, rfl⟩, hB1⟩
  · obtain ⟨v, hve⟩ : ∃ v, v = octV s := ⟨_, rfl⟩
    rw [← hve] at hv ⊢
    have HVE := Lib.hid hve
    clear hve
    go_wp2_with fail
    go_ret2
    exact ⟨.inl ⟨by rw [← HVE.out]; exact hv, by rw [← HVE.out]; rfl⟩, hB1⟩
  · obtain ⟨tp, p, hr⟩ := (hE.up hB1).rng
    have HR := Lib.hid hr
    clear hr
    go_wp2_with fail
    refine (Go.Proofs.Tryd.strconv_toError_range { data := #[80, 97, 114, 115, 101, 85, 105, 110, 116] } (str s) 8 9 (.iface tp p) w1 (by rw [hs0]; omega) HR.out (.inr ⟨tp, p, rfl⟩)).mono ?_
    rintro e w2 ⟨N, rfl, hN, hNh, hB2⟩
    go_wp2_with fail
    go_ret2
    exact ⟨.inr ⟨hv, _, _, rfl⟩, below_then hB1 hB1.size hB2⟩

/-! ### modes.Read -/
def octS : List UInt8 := [48, 49, 50, 51, 52, 53, 54, 55]
theorem octS_is (c : UInt8) : octS.contains c = isOct c := by
  rw [Bool.eq_iff_iff, isOct_iff]
  unfold octS
  simp only [List.contains_cons, List.contains_nil, Bool.or_false, Bool.or_eq_true, beq_iff_eq, ← UInt8.toNat_inj]
  simp
  omega
theorem dropW_nil (p : UInt8 → Bool) : ∀ l : List UInt8, l.dropWhile p = [] ↔ ∀ c ∈ l, p c = true
  | [] => by simp
  | a :: l => by
    rw [List.dropWhile_cons]
    by_cases h : p a = true
    · rw [if_pos h, dropW_nil p l]
      simp [h]
    · rw [if_neg h]
      simp [h]
theorem trim_oct (l : List UInt8) : Lib.trimS l octS = [] ↔ allOct l = true := by
  have hall : allOct l = true ↔ ∀ c ∈ l, octS.contains c = true := by
    unfold allOct
    rw [List.all_eq_true]
    exact ⟨fun h c hc => by rw [octS_is]; exact h c hc, fun h c hc => by rw [← octS_is]; exact h c hc⟩
  have hr : Lib.trimRightS l octS = [] ↔ ∀ c ∈ l, octS.contains c = true := by
    unfold Lib.trimRightS
    rw [List.reverse_eq_nil_iff, dropW_nil]
    simp
  rw [hall]
  constructor
  · intro h
    unfold Lib.trimS Lib.trimLeftS at h
    rw [dropW_nil] at h
    have h2 : Lib.trimRightS l octS = [] := by
      cases hx : Lib.trimRightS l octS with
      | nil => rfl
      | cons c r =>
        unfold Lib.trimRightS at hx
        have hw : (l.reverse.dropWhile (octS.contains ·)) ≠ [] := fun e => by rw [e] at hx; cases hx
        have hb := List.head_dropWhile_not (p := (octS.contains ·)) (l := l.reverse) hw
        have hm : (l.reverse.dropWhile (octS.contains ·)).head hw ∈ Lib.trimRightS l octS := by
          unfold Lib.trimRightS
          rw [List.mem_reverse]
          exact List.head_mem hw
        have := h _ hm
        rw [this] at hb
        cases hb
    exact hr.1 h2
  · intro h
    unfold Lib.trimS
    rw [hr.2 h]
    rfl
theorem ascii_oct : ∀ (j : Nat) b, (str octS).data.toList[j]? = some b → b.toNat < 128 := ascii_of_all (by decide)
theorem trimO_any (l : List UInt8) (w : World) (hl : l.length ≤ 2097152) :
    Calls Tryd.prog 23 #[.string (str l), .string { data := #[48, 49, 50, 51, 52, 53, 54, 55] }] w fun e w' => e = .returned (.string (str (Lib.trimS l octS))) ∧ Below w.heap.size w w' :=
  Any.strings_Trim_laid Tryd.lays160 (by kernel_rfl) (str l) (str octS) w (by rw [str_size]; omega) (by decide) ascii_oct
def ReadIs (s : List UInt8) (e : Ending) : Prop := e = .returned (.tuple #[.int .i64 (((readV s).getD 0 : Nat) : Int), .bool (readV s).isSome])
theorem ReadIs.no {s : List UInt8} (h : readV s = none) : ReadIs s (.returned (.tuple #[.int .i64 0, .bool false])) := by unfold ReadIs; rw [h]; rfl
theorem readV_no (s : List UInt8) (h : ¬ (1 ≤ s.length ∧ s.length ≤ 4 ∧ allOct s = true ∧ octV s ≤ 511)) : readV s = none := by unfold readV; rw [if_neg h]
theorem readV_yes (s : List UInt8) (h1 : 1 ≤ s.length) (h2 : s.length ≤ 4) (h3 : allOct s = true) (h4 : octV s ≤ 511) : readV s = some (octV s) := by unfold readV; rw [if_pos ⟨h1, h2, h3, h4⟩]

set_option maxRecDepth 100000 in
set_option maxHeartbeats 2000000 in
theorem read_any (B : Nat) (s : List UInt8) (w : World) (hl : s.length ≤ 2097152) (hE : EnvM B w) :
    Calls Tryd.prog 14 #[.string (str s)] w fun e w' => ReadIs s e ∧ Below w.heap.size w w' := by
  have hs0 : (str s).size = s.length := str_size s
  by_cases hz : s = []
  · have hq : (str s).toList.isEmpty = true := by rw [hz]; exact str_isE
    have HN := Lib.hid (readV_no s (fun h => by rw [hz] at h; simp at h))
    clear hz
    go_enter Tryd.func14, Tryd.ntmps14
    go_wp2_with fail
    go_ret2
    exact ⟨ReadIs.no HN.out, Below.refl _ _⟩
  have hq : (str s).toList.isEmpty = false := str_isS s hz
  have h1 : 1 ≤ s.length := by cases s with | nil => exact absurd rfl hz | cons _ _ => simp
  clear hz
  by_cases h4 : 4 < s.length
  · have f1 : decide ((4 : Int) < (s.length : Int)) = true := decide_eq_true (by omega)
    have HN := Lib.hid (readV_no s (fun h => by omega))
    go_enter Tryd.func14, Tryd.ntmps14
    go_wp2_with fail
    go_ret2
    exact ⟨ReadIs.no HN.out, Below.refl _ _⟩
  have f1 : decide ((4 : Int) < (s.length : Int)) = false := decide_eq_false (by omega)
  cases ho : allOct s with
  | false =>
    have HN := Lib.hid (readV_no s (fun h => by rw [ho] at h; simp at h))
    have hqt : (str (Lib.trimS s octS)).toList.isEmpty = false := str_isS _ (fun e => by rw [(trim_oct s).1 e] at ho; cases ho)
    clear ho
    go_enter Tryd.func14, Tryd.ntmps14
    go_wp2_with fail
    refine (trimO_any s w hl).mono ?_
    rintro e w1 ⟨rfl, hB⟩
    go_wp2_with fail
    go_ret2
    exact ⟨ReadIs.no HN.out, hB⟩
  | true =>
    have ht : Lib.trimS s octS = [] := (trim_oct s).2 ho
    have hqe := str_isE
    have HO := Lib.hid ho
    clear ho
    go_enter Tryd.func14, Tryd.ntmps14
    go_wp2_with fail
    refine (trimO_any s w hl).mono ?_
    rintro e w1 ⟨rfl, hB⟩
    rw [ht]
    have E1 := hE.up hB
    clear ht
    go_wp2_with fail
    refine (puint_any B s h1 (by omega) HO.out w1 E1).mono ?_
    rintro e w2 ⟨⟨hv, rfl⟩ | ⟨hv, tp, p, rfl⟩, hB2⟩
    · have HN := Lib.hid (readV_yes s h1 (by omega) HO.out hv)
      have h2 := below_then hB hB.size hB2
      obtain ⟨v, hve⟩ : ∃ v, v = octV s := ⟨_, rfl⟩
      rw [← hve] at hv HN ⊢
      have hw : IntKind.i64.wrap (v : Int) = (v : Int) := by rw [IntKind.wrap_i64]; omega
      clear hve
      go_wp2_with fail
      go_ret2
      exact ⟨by unfold ReadIs; rw [HN.out]; rfl, h2⟩
    · have HN := Lib.hid (readV_no s (fun h => by omega))
      have h2 := below_then hB hB.size hB2
      clear hv
      go_wp2_with fail
      go_ret2
      exact ⟨ReadIs.no HN.out, h2⟩
end Go.Proofs.YtnpaddakkniliaaDoor
