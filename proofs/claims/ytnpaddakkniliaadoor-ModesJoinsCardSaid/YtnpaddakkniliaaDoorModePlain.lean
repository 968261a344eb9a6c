/-
  Modes: what one change makes of a mode, as the program reckons it, and as the document's answer does. Plain: no program.
-/
import Derived.Test.YtnpaddakkniliaaDoorBits
import Derived.Test.YtnpaddakkniliaaDoorLstChanges
namespace Go.Proofs.YtnpaddakkniliaaDoor
open Go.RowKit

/-- Where a letter stands among o, g, u. -/
def ogu (c : UInt8) : Option Nat := if c = 111 then some 0 else if c = 103 then some 1 else if c = 117 then some 2 else none
def chgBits (x : Chg) (m : Nat) (dir : Bool) : Nat :=
  let b := (x.bits % 8).toNat
  let b := match ogu x.copy with | some i => b ||| m / 2 ^ (3 * i) % 8 | none => b
  if x.dirs = true ∧ (dir = true ∨ m &&& 73 > 0) then b ||| 1 else b
def chgWho (x : Chg) : Nat := if x.who % 8 = 0 then 7 else (x.who % 8).toNat
def chgMay (x : Chg) (mask : Int) : Nat := (if x.who % 8 = 0 then 511 &&& (511 - (mask % 512).toNat) else 511) &&& thr (chgWho x) 7
def opNow (o : UInt8) (m b : Nat) : Option Nat := if o = 43 then some (m ||| b) else if o = 45 then some (m &&& (511 - b)) else if o = 61 then some b else none
def chgMode (x : Chg) (mask : Int) (dir : Bool) (m : Nat) : Nat :=
  match opNow x.op m (thr 7 (chgBits x m dir)) with
  | some v => (m &&& (511 - chgMay x mask)) ||| (v &&& chgMay x mask)
  | none => m

theorem thr_lt (w b : Nat) (hb : b < 8) : thr w b < 512 := by unfold thr; split <;> split <;> split <;> omega
theorem or_lt8 {a b : Nat} (ha : a < 8) (hb : b < 8) : a ||| b < 8 := Nat.or_lt_two_pow (n := 3) ha hb
theorem chgBits_lt (x : Chg) (m : Nat) (dir : Bool) : chgBits x m dir < 8 := by
  have h0 : (x.bits % 8).toNat < 8 := by omega
  unfold chgBits
  have h1 : (match ogu x.copy with | some i => (x.bits % 8).toNat ||| m / 2 ^ (3 * i) % 8 | none => (x.bits % 8).toNat) < 8 := by
    split
    · exact or_lt8 h0 (Nat.mod_lt _ (by decide))
    · exact h0
  show (if _ then _ else _) < 8
  split
  · exact or_lt8 h1 (by decide)
  · exact h1
theorem chgMode_lt (x : Chg) (mask : Int) (dir : Bool) (m : Nat) (hm : m < 512) : chgMode x mask dir m < 512 := by
  unfold chgMode
  split
  · rename_i v _
    have hmay : chgMay x mask < 2 ^ 9 := Nat.lt_of_le_of_lt Nat.and_le_right (thr_lt _ 7 (by decide))
    exact Nat.or_lt_two_pow (n := 9) (Nat.and_lt_two_pow _ (by omega)) (Nat.and_lt_two_pow _ hmay)
  · exact hm
def chgAll (l : List Chg) (mask : Int) (dir : Bool) (m : Nat) : Nat := l.foldl (fun m x => chgMode x mask dir m) m

/-! Digits. -/
theorem split8 (m : Nat) (hm : m < 512) : m = 64 * (m / 64 % 8) + (8 * (m / 8 % 8) + m % 8) := by omega
theorem and_digit (a b c d : Nat) (hb : b < 8) (hd : d < 8) : (8 * a + b) &&& (8 * c + d) = 8 * (a &&& c) + (b &&& d) := by
  apply Nat.eq_of_testBit_eq
  intro i
  have hbd : b &&& d < 2 ^ 3 := Nat.and_lt_two_pow _ (by omega)
  rw [Nat.testBit_and, show (8 : Nat) = 2 ^ 3 from rfl, Nat.testBit_two_pow_mul_add _ (by omega), Nat.testBit_two_pow_mul_add _ (by omega), Nat.testBit_two_pow_mul_add _ hbd]
  split <;> simp [Nat.testBit_and]
theorem or_digit (a b c d : Nat) (hb : b < 8) (hd : d < 8) : (8 * a + b) ||| (8 * c + d) = 8 * (a ||| c) + (b ||| d) := by
  apply Nat.eq_of_testBit_eq
  intro i
  have hbd : b ||| d < 2 ^ 3 := or_lt8 hb hd
  rw [Nat.testBit_or, show (8 : Nat) = 2 ^ 3 from rfl, Nat.testBit_two_pow_mul_add _ (by omega), Nat.testBit_two_pow_mul_add _ (by omega), Nat.testBit_two_pow_mul_add _ hbd]
  split <;> simp [Nat.testBit_or]
def oct (a b c : Nat) : Nat := 8 * (8 * a + b) + c
theorem and_oct {a b c a' b' c' : Nat} (hb : b < 8) (hc : c < 8) (hb' : b' < 8) (hc' : c' < 8) : oct a b c &&& oct a' b' c' = oct (a &&& a') (b &&& b') (c &&& c') := by
  unfold oct
  rw [and_digit _ _ _ _ hc hc', and_digit _ _ _ _ hb hb']
theorem or_oct {a b c a' b' c' : Nat} (hb : b < 8) (hc : c < 8) (hb' : b' < 8) (hc' : c' < 8) : oct a b c ||| oct a' b' c' = oct (a ||| a') (b ||| b') (c ||| c') := by
  unfold oct
  rw [or_digit _ _ _ _ hc hc', or_digit _ _ _ _ hb hb']
theorem sub_oct {a b c : Nat} (ha : a < 8) (hb : b < 8) (hc : c < 8) : 511 - oct a b c = oct (7 - a) (7 - b) (7 - c) := by unfold oct; omega
theorem oct_of (m : Nat) (hm : m < 512) : ∃ a b c, a < 8 ∧ b < 8 ∧ c < 8 ∧ m = oct a b c := ⟨m / 64, m / 8 % 8, m % 8, by omega, by omega, by omega, by unfold oct; omega⟩
theorem thr_oct (w b : Nat) : thr w b = oct (if w / 4 % 2 = 1 then b else 0) (if w / 2 % 2 = 1 then b else 0) (if w % 2 = 1 then b else 0) := by
  unfold thr oct; split <;> split <;> split <;> omega
theorem oct_hi {a b c : Nat} (ha : a < 8) (hb : b < 8) (hc : c < 8) : oct a b c / 2 ^ 6 % 8 = a := by unfold oct; omega
theorem oct_mid {a b c : Nat} (hb : b < 8) (hc : c < 8) : oct a b c / 2 ^ 3 % 8 = b := by unfold oct; omega
theorem oct_low {a b c : Nat} (hc : c < 8) : oct a b c % 8 = c := by unfold oct; omega

/-- What the document's answer makes of one digit. -/
def refOp (o : UInt8) (r b : Nat) : Nat := if o = 43 then r ||| b else if o = 45 then r &&& (7 - b) else if o = 61 then b else r
def refDig (o : UInt8) (told : Bool) (b stay r : Nat) : Nat := if told = true then (refOp o r b &&& (7 - stay)) ||| (r &&& stay) else r
def refBits (x : Chg) (r0 r1 r2 : Nat) (dir : Bool) : Nat :=
  let b := (x.bits % 8).toNat
  let b := if x.copy = 117 then b ||| r0 else if x.copy = 103 then b ||| r1 else if x.copy = 111 then b ||| r2 else b
  if x.dirs = true ∧ (dir = true ∨ ((r0 ||| r1) ||| r2) % 2 = 1) then b ||| 1 else b
def stayOf (x : Chg) (mask : Int) (k : Nat) : Nat := if x.who % 8 = 0 then (mask % 512).toNat / 2 ^ k % 8 else 0
def refMode (x : Chg) (mask : Int) (dir : Bool) (m : Nat) : Nat :=
  let b := refBits x (m / 2 ^ 6 % 8) (m / 2 ^ 3 % 8) (m % 8) dir
  oct (refDig x.op (chgWho x / 4 % 2 == 1) b (stayOf x mask 6) (m / 2 ^ 6 % 8)) (refDig x.op (chgWho x / 2 % 2 == 1) b (stayOf x mask 3) (m / 2 ^ 3 % 8)) (refDig x.op (chgWho x % 2 == 1) b (stayOf x mask 0) (m % 8))

theorem bits_same (x : Chg) (r0 r1 r2 : Nat) (dir : Bool) (h0 : r0 < 8) (h1 : r1 < 8) (h2 : r2 < 8) : chgBits x (oct r0 r1 r2) dir = refBits x r0 r1 r2 dir := by
  have e1 : (oct r0 r1 r2 &&& 73 > 0) = (((r0 ||| r1) ||| r2) % 2 = 1) := by
    rw [show (73 : Nat) = oct 1 1 1 from rfl, and_oct h1 h2 (by decide) (by decide)]
    have k : ∀ a b c : Fin 8, (oct (a.val &&& 1) (b.val &&& 1) (c.val &&& 1) > 0) ↔ (((a.val ||| b.val) ||| c.val) % 2 = 1) := by decide
    exact propext (k ⟨r0, h0⟩ ⟨r1, h1⟩ ⟨r2, h2⟩)
  unfold chgBits refBits
  have e2 : (match ogu x.copy with | some i => (x.bits % 8).toNat ||| oct r0 r1 r2 / 2 ^ (3 * i) % 8 | none => (x.bits % 8).toNat) = (if x.copy = 117 then (x.bits % 8).toNat ||| r0 else if x.copy = 103 then (x.bits % 8).toNat ||| r1 else if x.copy = 111 then (x.bits % 8).toNat ||| r2 else (x.bits % 8).toNat) := by
    by_cases q1 : x.copy = 117
    · rw [q1]; simp only [ogu]; simp; rw [show (64 : Nat) = 2 ^ 6 from rfl, oct_hi h0 h1 h2]
    · by_cases q2 : x.copy = 103
      · rw [q2]; simp only [ogu]; simp; rw [show (8 : Nat) = 2 ^ 3 from rfl]; show _ ||| oct r0 r1 r2 / 2 ^ 3 % 8 = _; rw [oct_mid h1 h2]
      · by_cases q3 : x.copy = 111
        · rw [q3]; simp only [ogu]; simp; rw [oct_low h2]
        · simp [ogu, q1, q2, q3]
  simp only [e2, e1]
theorem dig_same : ∀ (r b s : Fin 8), ((r.val &&& (7 - (7 - s.val))) ||| ((r.val ||| b.val) &&& (7 - s.val))) = (((r.val ||| b.val) &&& (7 - s.val)) ||| (r.val &&& s.val)) ∧
    ((r.val &&& (7 - (7 - s.val))) ||| ((r.val &&& (7 - b.val)) &&& (7 - s.val))) = (((r.val &&& (7 - b.val)) &&& (7 - s.val)) ||| (r.val &&& s.val)) ∧
    ((r.val &&& (7 - (7 - s.val))) ||| (b.val &&& (7 - s.val))) = ((b.val &&& (7 - s.val)) ||| (r.val &&& s.val)) ∧
    ((r.val &&& (7 - s.val)) ||| (r.val &&& s.val)) = r.val := by decide
/-- One digit of what the program makes. -/
def myOp (o : UInt8) (r b : Nat) : Nat := if o = 43 then r ||| b else if o = 45 then r &&& (7 - b) else b
def myDig (o : UInt8) (told : Bool) (b stay r : Nat) : Nat :=
  (r &&& (7 - ((7 - stay) &&& (if told = true then 7 else 0)))) ||| (myOp o r b &&& ((7 - stay) &&& (if told = true then 7 else 0)))
theorem and7_ : ∀ s : Fin 8, (7 - s.val) &&& 7 = 7 - s.val := by decide
theorem and7' : ∀ s : Fin 8, s.val &&& 7 = s.val := by decide
theorem myDig_eq (o : UInt8) (told : Bool) (b stay r : Nat) (hb : b < 8) (hs : stay < 8) (hr : r < 8) (ho : o = 43 ∨ o = 45 ∨ o = 61) : myDig o told b stay r = refDig o told b stay r := by
  have k := dig_same ⟨r, hr⟩ ⟨b, hb⟩ ⟨stay, hs⟩
  have k1 := and7_ ⟨stay, hs⟩
  have k2 := and7' ⟨r, hr⟩
  cases told with
  | false => simp [myDig, refDig, k2]
  | true =>
    simp only [myDig, refDig, if_true, k1]
    rcases ho with rfl | rfl | rfl
    · exact k.1
    · exact k.2.1
    · exact k.2.2.1
theorem stay_lt (x : Chg) (mask : Int) (k : Nat) : stayOf x mask k < 8 := by unfold stayOf; split <;> omega
theorem may_oct (x : Chg) (mask : Int) : chgMay x mask = oct ((7 - stayOf x mask 6) &&& (if (chgWho x / 4 % 2 == 1) = true then 7 else 0)) ((7 - stayOf x mask 3) &&& (if (chgWho x / 2 % 2 == 1) = true then 7 else 0)) ((7 - stayOf x mask 0) &&& (if (chgWho x % 2 == 1) = true then 7 else 0)) := by
  have k7 : ∀ s : Nat, s < 8 → 7 &&& (7 - s) = 7 - s := fun s hs => by
    have : ∀ s : Fin 8, 7 &&& (7 - s.val) = 7 - s.val := by decide
    exact this ⟨s, hs⟩
  have h : (if x.who % 8 = 0 then 511 &&& (511 - (mask % 512).toNat) else 511) = oct (7 - stayOf x mask 6) (7 - stayOf x mask 3) (7 - stayOf x mask 0) := by
    unfold stayOf
    split
    · obtain ⟨a, b, c, ha, hb, hc, e⟩ := oct_of (mask % 512).toNat (by omega)
      rw [e, sub_oct ha hb hc, show (511 : Nat) = oct 7 7 7 from rfl, and_oct (by decide) (by decide) (by omega) (by omega), k7 a ha, k7 b hb, k7 c hc, oct_hi ha hb hc, oct_mid hb hc]
      rw [Nat.pow_zero, Nat.div_one, oct_low hc]
    · rfl
  unfold chgMay
  have d6 := stay_lt x mask 6
  have d3 := stay_lt x mask 3
  have d0 := stay_lt x mask 0
  rw [h, thr_oct, and_oct (by omega) (by omega) (by split <;> omega) (by split <;> omega)]
  simp only [beq_iff_eq]
theorem chg_same (x : Chg) (mask : Int) (dir : Bool) (m : Nat) (hm : m < 512) : chgMode x mask dir m = refMode x mask dir m := by
  obtain ⟨r0, r1, r2, h0, h1, h2, rfl⟩ := oct_of m hm
  have hb := chgBits_lt x (oct r0 r1 r2) dir
  have e : refMode x mask dir (oct r0 r1 r2) = oct (refDig x.op (chgWho x / 4 % 2 == 1) (chgBits x (oct r0 r1 r2) dir) (stayOf x mask 6) r0) (refDig x.op (chgWho x / 2 % 2 == 1) (chgBits x (oct r0 r1 r2) dir) (stayOf x mask 3) r1) (refDig x.op (chgWho x % 2 == 1) (chgBits x (oct r0 r1 r2) dir) (stayOf x mask 0) r2) := by
    unfold refMode
    rw [oct_hi h0 h1 h2, oct_mid h1 h2, oct_low h2, bits_same x r0 r1 r2 dir h0 h1 h2]
  rw [e]
  generalize hB : chgBits x (oct r0 r1 r2) dir = B at hb
  have d6 := stay_lt x mask 6
  have d3 := stay_lt x mask 3
  have d0 := stay_lt x mask 0
  by_cases ho : x.op = 43 ∨ x.op = 45 ∨ x.op = 61
  · rw [← myDig_eq _ _ _ _ _ hb d6 h0 ho, ← myDig_eq _ _ _ _ _ hb d3 h1 ho, ← myDig_eq _ _ _ _ _ hb d0 h2 ho]
    have l7 : ∀ s t : Nat, s < 8 → s &&& t < 8 := fun s t hs => Nat.lt_of_le_of_lt Nat.and_le_left hs
    have m6 := l7 (7 - stayOf x mask 6) (if (chgWho x / 4 % 2 == 1) = true then 7 else 0) (by omega)
    have m3 := l7 (7 - stayOf x mask 3) (if (chgWho x / 2 % 2 == 1) = true then 7 else 0) (by omega)
    have m0 := l7 (7 - stayOf x mask 0) (if (chgWho x % 2 == 1) = true then 7 else 0) (by omega)
    have ev : opNow x.op (oct r0 r1 r2) (thr 7 B) = some (oct (myOp x.op r0 B) (myOp x.op r1 B) (myOp x.op r2 B)) := by
      have et : thr 7 B = oct B B B := thr_oct 7 B
      rw [et]
      unfold opNow myOp
      rcases ho with q | q | q
      · rw [q]; simp [or_oct h1 h2 hb hb]
      · rw [q]; simp [sub_oct hb hb hb]; rw [and_oct h1 h2 (by omega) (by omega)]
      · rw [q]; simp
    have hv : ∀ r, r < 8 → myOp x.op r B < 8 := fun r hr => by
      unfold myOp
      split
      · exact or_lt8 hr hb
      · split
        · exact Nat.lt_of_le_of_lt Nat.and_le_left hr
        · exact hb
    unfold chgMode
    rw [hB, ev]
    simp only [may_oct]
    rw [sub_oct m6 m3 m0, and_oct h1 h2 (by omega) (by omega), and_oct (hv _ h1) (hv _ h2) m3 m0, or_oct (l7 _ _ h1) (l7 _ _ h2) (l7 _ _ (hv _ h1)) (l7 _ _ (hv _ h2))]
    rfl
  · have q1 : x.op ≠ 43 := fun h => ho (Or.inl h)
    have q2 : x.op ≠ 45 := fun h => ho (Or.inr (Or.inl h))
    have q3 : x.op ≠ 61 := fun h => ho (Or.inr (Or.inr h))
    have hd : ∀ (t : Bool) (s r : Nat), s < 8 → r < 8 → refDig x.op t B s r = r := fun t s r hs hr => by
      unfold refDig refOp
      simp only [q1, q2, q3, if_false]
      split
      · exact (dig_same ⟨r, hr⟩ ⟨0, by decide⟩ ⟨s, hs⟩).2.2.2
      · rfl
    unfold chgMode
    rw [hd _ _ _ d6 h0, hd _ _ _ d3 h1, hd _ _ _ d0 h2]
    simp [opNow, q1, q2, q3]
end Go.Proofs.YtnpaddakkniliaaDoor
