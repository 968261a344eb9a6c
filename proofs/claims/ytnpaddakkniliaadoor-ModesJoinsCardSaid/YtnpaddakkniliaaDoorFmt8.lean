/-
  strconv.FormatInt at base 8, of a number from 512 to 1023; modes.Octal: contracts.
-/
import Derived.Test.YtnpaddakkniliaaDoorBytes
import Derived.Test.YtnpaddakkniliaaDoorStr
import Derived.Test.YtnpaddakkniliaaDoorBits
namespace Go.Proofs.YtnpaddakkniliaaDoor
open Go.RowKit

/-- What these calls read of the library's variables. -/
structure EnvM (B : Nat) (w : World) : Prop where
  rng : ∃ tp p, w.cell? ⟨2, 0, none⟩ = some (.iface tp p)
  mx : ∃ m, w.cell? ⟨3, 0, none⟩ = some (.int .i64 m)
  tz : w.cell? ⟨7, 7, none⟩ = some (.int .u8 3)
  sz : B ≤ w.heap.size
  big : 8 ≤ B
theorem EnvM.below {B : Nat} {w w' : World} (h : EnvM B w) (hb : Below B w w') : EnvM B w' := by
  have hbig := h.big
  obtain ⟨t1, p1, h1⟩ := h.rng
  obtain ⟨m, h3⟩ := h.mx
  exact ⟨⟨t1, p1, (hb.cell (by show 2 < B; omega)).trans h1⟩, ⟨m, (hb.cell (by show 3 < B; omega)).trans h3⟩, (hb.cell (by show 7 < B; omega)).trans h.tz, Nat.le_trans h.sz hb.size, h.big⟩
theorem EnvM.up {B : Nat} {w w' : World} (h : EnvM B w) (hb : Below w.heap.size w w') : EnvM B w' := h.below (hb.mono h.sz)

set_option maxHeartbeats 400000 in
theorem tz64_any (w : World) (h : w.cell? ⟨7, 7, none⟩ = some (.int .u8 3)) :
    Calls Tryd.prog 79 #[.int .u64 8] w fun e w' => e = .returned (.int .i64 3) ∧ w' = w := by
  have e1 : IntKind.u64.wrap (-8) = 18446744073709551608 := by decide
  have e2 : bits .and .u64 8 18446744073709551608 = 8 := by decide
  have e3 : IntKind.u64.wrap 2286961704410830920 = 2286961704410830920 := by decide
  go_enter Tryd.func79, Tryd.ntmps79
  go_wp2_with fail
  go_ret
  exact ⟨rfl, rfl⟩
set_option maxHeartbeats 400000 in
theorem tz_any (w : World) (h : w.cell? ⟨7, 7, none⟩ = some (.int .u8 3)) :
    Calls Tryd.prog 68 #[.int .u64 8] w fun e w' => e = .returned (.int .i64 3) ∧ w' = w := by
  go_enter Tryd.func68, Tryd.ntmps68
  go_wp2_with fail
  refine (tz64_any w h).mono ?_
  rintro e w1 ⟨rfl, hw⟩
  rw [hw]
  clear hw w1
  go_wp2_with fail
  go_ret
  exact ⟨rfl, rfl⟩
set_option maxHeartbeats 400000 in
theorem pow2_any (w : World) :
    Calls Tryd.prog 67 #[.int .i64 8] w fun e w' => e = .returned (.bool true) ∧ w' = w := by
  go_enter Tryd.func67, Tryd.ntmps67
  go_wp2_with fail
  go_ret
  exact ⟨rfl, rfl⟩
theorem infoA65 : (Tryd.prog.info? 100).map (fun i => (i.zero, i.size, i.bytes)) = some (some (.agg (Array.replicate 65 (Value.int .u8 0))), 65, 65) := by kernel_rfl
def digC (n : Nat) : UInt8 := UInt8.ofNat (48 + n)
theorem dig_lit (d : Nat) (hd : d < 8) : ∀ h, ({ data := #[48, 49, 50, 51, 52, 53, 54, 55, 56, 57, 97, 98, 99, 100, 101, 102, 103, 104, 105, 106, 107, 108, 109, 110, 111, 112, 113, 114, 115, 116, 117, 118, 119, 120, 121, 122] } : ByteArray)[d]'h = digC d := by
  intro h
  match d, hd with
  | 0, _ => rfl
  | 1, _ => rfl
  | 2, _ => rfl
  | 3, _ => rfl
  | 4, _ => rfl
  | 5, _ => rfl
  | 6, _ => rfl
  | 7, _ => rfl
theorem u64_and7 : ∀ n : Nat, n < 1024 → bits .and .u64 (n : Int) 7 = ((n % 8 : Nat) : Int) := by decide +kernel
/-- The cells behind q rounds. -/
def cellQ (d0 d1 d2 : UInt8) (q j : Nat) : Value := if j = 64 ∧ 1 ≤ q then .int .u8 (d0.toNat : Int) else if j = 63 ∧ 2 ≤ q then .int .u8 (d1.toNat : Int) else if j = 62 ∧ 3 ≤ q then .int .u8 (d2.toNat : Int) else .int .u8 0

set_option maxRecDepth 100000 in
set_option maxHeartbeats 4000000 in
theorem fmtBits_any (x : Nat) (h1 : 512 ≤ x) (h2 : x < 1024) (w : World) (hT : w.cell? ⟨7, 7, none⟩ = some (.int .u8 3)) (hbig : 8 ≤ w.heap.size) :
    Calls Tryd.prog 49 #[.slice none 0 0, .int .u64 (x : Int), .int .i64 8, .bool false, .bool false] w fun e w' => e = .returned (.tuple #[.slice none 0 0, .string (str [49, digC (x / 64 % 8), digC (x / 8 % 8), digC (x % 8)])]) ∧ Below w.heap.size w w' := by
  obtain ⟨i0, hi0, hz0, hz1, hz2⟩ := info_parts infoA65
  obtain ⟨d0, hd0⟩ : ∃ d, d = digC (x % 8) := ⟨_, rfl⟩
  obtain ⟨d1, hd1⟩ : ∃ d, d = digC (x / 8 % 8) := ⟨_, rfl⟩
  obtain ⟨d2, hd2⟩ : ∃ d, d = digC (x / 64 % 8) := ⟨_, rfl⟩
  have hb0 := Buf.new w (Array.replicate 65 (Value.int .u8 0)) 100 (fun _ => .int .u8 0) 65 (by simp) (fun i hi => by simp [hi])
  have hB0 : Below w.heap.size w (w.alloc (.cells (Array.replicate 65 (Value.int .u8 0)) 100)) := (Below.refl _ _).alloc (Nat.le_refl _) _
  rw [← hd0, ← hd1, ← hd2]
  have HD0 := Lib.hid hd0
  have HD1 := Lib.hid hd1
  have HD2 := Lib.hid hd2
  clear hd0 hd1 hd2
  go_enter Tryd.func49, Tryd.ntmps49
  go_wp2_with (refine wpList_alloc_any _ rfl 100 rfl i0 _ hi0 hz0 ?_; change wpList _ _ _ _ _ (w.alloc (.cells (Array.replicate 65 (Value.int .u8 0)) 100)); obtain ⟨w1, hw1⟩ : ∃ w1, w1 = w.alloc (.cells (Array.replicate 65 (Value.int .u8 0)) 100) := ⟨_, rfl⟩; rw [← hw1] at hb0 hB0 ⊢; clear hw1)
  refine (pow2_any w1).mono ?_
  rintro e w2 ⟨rfl, hw⟩
  rw [hw]
  clear hw w2
  have hT1 : w1.cell? ⟨7, 7, none⟩ = some (.int .u8 3) := (hB0.cell (by show 7 < w.heap.size; omega)).trans hT
  go_wp2_with fail
  refine (tz_any w1 hT1).mono ?_
  rintro e w2 ⟨rfl, hw⟩
  rw [hw]
  clear hw w2
  go_wp2_with fail
  go_loopw [1, 13] (fun u i wr => ∃ q : Nat, q ≤ 3 ∧ u = .int .u64 ((x / 8 ^ q : Nat) : Int) ∧ i = .int .i64 ((65 - q : Nat) : Int) ∧ Buf wr w.heap.size 65 (cellQ d0 d1 d2 q) ∧ Below w.heap.size w wr) (fun _ i _ => (intOf i).toNat)
  case atStart => exact ⟨0, by omega, by simp, rfl, hb0.congr (fun j _ => by unfold cellQ; rw [if_neg (by omega), if_neg (by omega), if_neg (by omega)]), hB0⟩
  case round =>
    obtain ⟨q, hq, rfl, rfl, hb, hB⟩ := hrel
    have hblt := hb.lt
    rcases (show q = 0 ∨ q = 1 ∨ q = 2 ∨ q = 3 by omega) with rfl | rfl | rfl | rfl
    · obtain ⟨u, hu⟩ : ∃ u, u = x / 8 ^ 0 := ⟨_, rfl⟩
      have hup : u = x / 1 := by rw [hu]
      have hu8 : 8 ≤ u ∧ u < 1024 := by omega
      obtain ⟨v, hv⟩ : ∃ v, v = x / 8 ^ 1 := ⟨_, rfl⟩
      have hvu : v = u / 8 := by rw [hv, hup, show (8 : Nat) ^ 1 = 8 from rfl]; omega
      have g0 : decide ((8 : Int) ≤ (u : Int)) = true := decide_eq_true (by omega)
      have g1 := u64_and7 u hu8.2
      obtain ⟨d, hd⟩ : ∃ d, d = u % 8 := ⟨_, rfl⟩
      have hdk : digC d = d0 := by rw [HD0.out, hd, hup]; simp
      rw [← hd] at g1
      have hgl := dig_lit d (by omega)
      rw [hdk] at hgl
      have hdI : (d : Int) < 36 := by omega
      have g2 : (u : Int) / 8 = (v : Int) := by omega
      have hf := hb.frozen (i := 64) (by omega)
      have hc := hb.cell (i := 64) (by omega)
      have hset := (hb.set 64 (.int .u8 (d0.toNat : Int))).congr (f' := cellQ d0 d1 d2 1) (fun j hj => by
        show (if j = 64 then _ else cellQ d0 d1 d2 0 j) = _
        by_cases e : j = 64
        · subst e; simp [cellQ]
        · rw [if_neg e]
          unfold cellQ
          by_cases e64 : j = 64 <;> by_cases e63 : j = 63 <;> by_cases e62 : j = 62 <;> simp_all)
      rw [← hu]
      have HVv := Lib.hid hv
      clear hu hup hd hdk hvu hv
      go_wp2_with fail
      go_roundw
      case rel => exact ⟨1, by omega, by rw [← HVv.out], rfl, hset, hB.setCell (Nat.le_refl _) _⟩
      case measure => simp [intOf]
    · obtain ⟨u, hu⟩ : ∃ u, u = x / 8 ^ 1 := ⟨_, rfl⟩
      have hup : u = x / 8 := by rw [hu]
      have hu8 : 8 ≤ u ∧ u < 1024 := by omega
      obtain ⟨v, hv⟩ : ∃ v, v = x / 8 ^ 2 := ⟨_, rfl⟩
      have hvu : v = u / 8 := by rw [hv, hup, show (8 : Nat) ^ 2 = 64 from rfl]; omega
      have g0 : decide ((8 : Int) ≤ (u : Int)) = true := decide_eq_true (by omega)
      have g1 := u64_and7 u hu8.2
      obtain ⟨d, hd⟩ : ∃ d, d = u % 8 := ⟨_, rfl⟩
      have hdk : digC d = d1 := by rw [HD1.out, hd, hup]
      rw [← hd] at g1
      have hgl := dig_lit d (by omega)
      rw [hdk] at hgl
      have hdI : (d : Int) < 36 := by omega
      have g2 : (u : Int) / 8 = (v : Int) := by omega
      have hf := hb.frozen (i := 63) (by omega)
      have hc := hb.cell (i := 63) (by omega)
      have hset := (hb.set 63 (.int .u8 (d1.toNat : Int))).congr (f' := cellQ d0 d1 d2 2) (fun j hj => by
        show (if j = 63 then _ else cellQ d0 d1 d2 1 j) = _
        by_cases e : j = 63
        · subst e; simp [cellQ]
        · rw [if_neg e]
          unfold cellQ
          by_cases e64 : j = 64 <;> by_cases e63 : j = 63 <;> by_cases e62 : j = 62 <;> simp_all)
      rw [← hu]
      have HVv := Lib.hid hv
      clear hu hup hd hdk hvu hv
      go_wp2_with fail
      go_roundw
      case rel => exact ⟨2, by omega, by rw [← HVv.out], rfl, hset, hB.setCell (Nat.le_refl _) _⟩
      case measure => simp [intOf]
    · obtain ⟨u, hu⟩ : ∃ u, u = x / 8 ^ 2 := ⟨_, rfl⟩
      have hup : u = x / 64 := by rw [hu]
      have hu8 : 8 ≤ u ∧ u < 1024 := by omega
      obtain ⟨v, hv⟩ : ∃ v, v = x / 8 ^ 3 := ⟨_, rfl⟩
      have hvu : v = u / 8 := by rw [hv, hup, show (8 : Nat) ^ 3 = 512 from rfl]; omega
      have g0 : decide ((8 : Int) ≤ (u : Int)) = true := decide_eq_true (by omega)
      have g1 := u64_and7 u hu8.2
      obtain ⟨d, hd⟩ : ∃ d, d = u % 8 := ⟨_, rfl⟩
      have hdk : digC d = d2 := by rw [HD2.out, hd, hup]
      rw [← hd] at g1
      have hgl := dig_lit d (by omega)
      rw [hdk] at hgl
      have hdI : (d : Int) < 36 := by omega
      have g2 : (u : Int) / 8 = (v : Int) := by omega
      have hf := hb.frozen (i := 62) (by omega)
      have hc := hb.cell (i := 62) (by omega)
      have hset := (hb.set 62 (.int .u8 (d2.toNat : Int))).congr (f' := cellQ d0 d1 d2 3) (fun j hj => by
        show (if j = 62 then _ else cellQ d0 d1 d2 2 j) = _
        by_cases e : j = 62
        · subst e; simp [cellQ]
        · rw [if_neg e]
          unfold cellQ
          by_cases e64 : j = 64 <;> by_cases e63 : j = 63 <;> by_cases e62 : j = 62 <;> simp_all)
      rw [← hu]
      have HVv := Lib.hid hv
      clear hu hup hd hdk hvu hv
      go_wp2_with fail
      go_roundw
      case rel => exact ⟨3, by omega, by rw [← HVv.out], rfl, hset, hB.setCell (Nat.le_refl _) _⟩
      case measure => simp [intOf]
    · have hx1 : x / 8 ^ 3 = 1 := by rw [show (8 : Nat) ^ 3 = 512 from rfl]; omega
      rw [hx1]
      have hf := hb.frozen (i := 61) (by omega)
      have hc := hb.cell (i := 61) (by omega)
      have hset := (hb.set 61 (.int .u8 49))
      have hB2 : Below w.heap.size w (wr.setCell ⟨w.heap.size, 61, none⟩ (.int .u8 49)) := hB.setCell (Nat.le_refl _) _
      have hrd : Reads (wr.setCell ⟨w.heap.size, 61, none⟩ (.int .u8 49)) (w.heap.size + 1) 1 (some ⟨w.heap.size, 61, none⟩) 4 (([49, d2, d1, d0] : List UInt8).map fun b => .int .u8 (b.toNat : Int)) := by
        refine ⟨rfl, fun _ => ⟨_, rfl, by show w.heap.size < w.heap.size + 1; omega, fun j u hu => ?_⟩⟩
        rw [Addr.add_lit]
        have hj : j < 4 := (List.getElem?_eq_some_iff.1 hu).1
        rw [hset.cell (i := 61 + j) (by omega), ← hu]
        match j, hj with
        | 0, _ => rfl
        | 1, _ => simp [cellQ]
        | 2, _ => simp [cellQ]
        | 3, _ => simp [cellQ]
      go_wp2_with (refine wpList_string_of_bytes _ rfl (.tmp 100) 33 9 5 rfl Tryd.underlying33 Tryd.underlying5 Tryd.underlying9 (some ⟨w.heap.size, 61, none⟩) 4 4 (w.heap.size + 1) [49, d2, d1, d0] rfl hrd ?_)
      go_ret2
      exact ⟨rfl, hB2⟩
set_option maxHeartbeats 1000000 in
theorem ifmt8_any (x : Nat) (h1 : 512 ≤ x) (h2 : x < 1024) (w : World) (hT : w.cell? ⟨7, 7, none⟩ = some (.int .u8 3)) (hbig : 8 ≤ w.heap.size) :
    Calls Tryd.prog 30 #[.int .i64 (x : Int), .int .i64 8] w fun e w' => e = .returned (.string (str [49, digC (x / 64 % 8), digC (x / 8 % 8), digC (x % 8)])) ∧ Below w.heap.size w w' := by
  have g1 : decide ((x : Int) < 0) = false := decide_eq_false (by omega)
  go_enter Tryd.func30, Tryd.ntmps30
  go_wp2_with fail
  refine (fmtBits_any x h1 h2 w hT hbig).mono ?_
  rintro e w1 ⟨rfl, hB⟩
  go_wp2_with fail
  go_ret
  exact ⟨rfl, hB⟩
set_option maxHeartbeats 1000000 in
theorem fmt8_any (x : Nat) (h1 : 512 ≤ x) (h2 : x < 1024) (w : World) (hT : w.cell? ⟨7, 7, none⟩ = some (.int .u8 3)) (hbig : 8 ≤ w.heap.size) :
    Calls Tryd.prog 21 #[.int .i64 (x : Int), .int .i64 8] w fun e w' => e = .returned (.string (str [49, digC (x / 64 % 8), digC (x / 8 % 8), digC (x % 8)])) ∧ Below w.heap.size w w' := by
  go_enter Tryd.func21, Tryd.ntmps21
  go_wp2_with fail
  refine (ifmt8_any x h1 h2 w hT hbig).mono ?_
  rintro e w1 ⟨rfl, hB⟩
  go_wp2_with fail
  go_ret
  exact ⟨rfl, hB⟩
/-- modes.Octal. -/
def octL (mode : Int) : List UInt8 := [digC ((mode % 512).toNat / 64), digC ((mode % 512).toNat / 8 % 8), digC ((mode % 512).toNat % 8)]
set_option maxRecDepth 100000 in
set_option maxHeartbeats 1000000 in
theorem octal_any (mode : Int) (w : World) (hT : w.cell? ⟨7, 7, none⟩ = some (.int .u8 3)) (hbig : 8 ≤ w.heap.size) :
    Calls Tryd.prog 12 #[.int .i64 mode] w fun e w' => e = .returned (.string (str (octL mode))) ∧ Below w.heap.size w w' := by
  have ha := and511 mode
  obtain ⟨m, hm⟩ : ∃ m : Nat, m = (mode % 512).toNat := ⟨_, rfl⟩
  have hm2 : mode % 512 = (m : Int) := by omega
  have hm512 : m < 512 := by omega
  rw [hm2] at ha
  have HM := Lib.hid hm
  obtain ⟨x, hx⟩ : ∃ x, x = m + 512 := ⟨_, rfl⟩
  have hwx : IntKind.i64.wrap ((m : Int) + 511) = (m : Int) + 511 := by rw [IntKind.wrap_i64]; omega
  have hwy : IntKind.i64.wrap ((m : Int) + 511 + 1) = (x : Int) := by rw [IntKind.wrap_i64]; omega
  have hwz : (m : Int) + 511 + 1 = (x : Int) := by omega
  have HX := Lib.hid hx
  clear hm hm2
  go_enter Tryd.func12, Tryd.ntmps12
  go_wp2_with fail
  rw [show (m : Int) + 512 = (x : Int) by omega]
  refine (fmt8_any x (by omega) (by omega) w hT hbig).mono ?_
  rintro e w1 ⟨rfl, hB⟩
  have e1 : x / 64 % 8 = m / 64 := by omega
  have e2 : x / 8 % 8 = m / 8 % 8 := by omega
  have e3 : x % 8 = m % 8 := by omega
  have HO := Lib.hid (show octL mode = [digC (x / 64 % 8), digC (x / 8 % 8), digC (x % 8)] by unfold octL; rw [← HM.out, e1, e2, e3])
  clear e1 e2 e3 hwx hwy hwz HX HM ha
  generalize digC (x / 64 % 8) = a at HO ⊢
  generalize digC (x / 8 % 8) = b at HO ⊢
  generalize digC (x % 8) = c at HO ⊢
  have hss : (str [49, a, b, c]).size = 4 := rfl
  have hxx : (str [49, a, b, c]).extract 1 4 = str [a, b, c] := by have h := str_from [49, a, b, c] 1; rw [hss] at h; exact h
  go_wp2_with fail
  go_ret
  exact ⟨by rw [HO.out]; rfl, hB⟩
end Go.Proofs.YtnpaddakkniliaaDoor
