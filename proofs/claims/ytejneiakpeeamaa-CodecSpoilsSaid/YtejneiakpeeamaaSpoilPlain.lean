/-
  Up to four bytes that stand side by side, changed: the sum changes just if one of them does. Plain numbers, no program.
-/
import Derived.Test.YtejneiakpeeamaaSum
namespace Go.Proofs.Ytejneiakpeeamaa
theorem xor_half (a b : Nat) : (a ^^^ b) / 2 = (a / 2) ^^^ (b / 2) := by
  have := Nat.shiftRight_xor_distrib (i := 1) (a := a) (b := b)
  simpa [Nat.shiftRight_eq_div_pow] using this
theorem xor_odd (a b : Nat) : (a ^^^ b) % 2 = (a % 2 + b % 2) % 2 := by
  have h := Nat.testBit_xor a b 0
  simp only [Nat.testBit_zero] at h
  have hX := Nat.mod_two_eq_zero_or_one (a ^^^ b)
  generalize (a ^^^ b) % 2 = X at h hX
  rcases Nat.mod_two_eq_zero_or_one a with ha | ha <;> rcases Nat.mod_two_eq_zero_or_one b with hb | hb <;> rw [ha, hb] at h ⊢ <;> rcases hX with rfl | rfl <;> first | rfl | (exact absurd h (by decide))
theorem xor_zero_eq {a b : Nat} (h : a ^^^ b = 0) : a = b := by
  have : a ^^^ b ^^^ b = 0 ^^^ b := by rw [h]
  rw [Nat.xor_assoc, Nat.xor_self] at this
  simpa using this
theorem crcStep_xor (a b : Nat) : crcStep (a ^^^ b) = crcStep a ^^^ crcStep b := by
  unfold crcStep
  rw [xor_half, xor_odd]
  rcases Nat.mod_two_eq_zero_or_one a with ha | ha <;> rcases Nat.mod_two_eq_zero_or_one b with hb | hb <;> rw [ha, hb] <;> simp
  · ac_rfl
  · ac_rfl
  · rw [show a / 2 ^^^ 3988292384 ^^^ (b / 2 ^^^ 3988292384) = (a / 2 ^^^ b / 2) ^^^ (3988292384 ^^^ 3988292384) from by ac_rfl]
    simp
theorem stepN_xor (a b : Nat) : ∀ k, stepN k (a ^^^ b) = stepN k a ^^^ stepN k b
  | 0 => rfl
  | k + 1 => by unfold stepN; rw [stepN_xor a b k, crcStep_xor]
theorem crcStep_zero {s : Nat} (h : crcStep s = 0) (hs : s < 4294967296) : s = 0 := by
  unfold crcStep at h
  split at h
  · have : s / 2 = 3988292384 := xor_zero_eq h
    omega
  · omega
theorem stepN_zero {s : Nat} (hs : s < 4294967296) : ∀ k, stepN k s = 0 → s = 0
  | 0, h => h
  | k + 1, h => stepN_zero hs k (crcStep_zero h (stepN_lt hs k))
theorem stepN_add (k m s : Nat) : stepN (k + m) s = stepN k (stepN m s) := by
  induction k with
  | zero => simp [stepN]
  | succ k ih => rw [show k + 1 + m = (k + m) + 1 from by omega]; show crcStep (stepN (k + m) s) = crcStep (stepN k (stepN m s)); rw [ih]
theorem stepN_shift (y : Nat) : ∀ k, stepN k (y * 2 ^ k) = y
  | 0 => by simp [stepN]
  | k + 1 => by
    have h := stepN_shift (y * 2) k
    rw [show y * 2 ^ (k + 1) = y * 2 * 2 ^ k from by rw [Nat.pow_succ]; ac_rfl]
    show crcStep (stepN k _) = y
    rw [h]
    unfold crcStep
    rw [if_neg (by omega)]
    omega
/-- What is between the sums of a text and of one changed. -/
def dif : List UInt8 → Nat
  | l => l.foldl (fun d b => stepN 8 (d ^^^ b.toNat)) 0
theorem foldl_dif (s d : Nat) : ∀ (x y : List UInt8), x.length = y.length →
    (List.zipWith (· ^^^ ·) x y).foldl crcByte (s ^^^ d) = x.foldl crcByte s ^^^ y.foldl (fun d b => stepN 8 (d ^^^ b.toNat)) d := by
  intro x
  induction x generalizing s d with
  | nil => intro y h; have : y = [] := List.eq_nil_of_length_eq_zero (by simpa using h.symm); subst this; rfl
  | cons a x ih =>
    intro y h
    cases y with
    | nil => simp at h
    | cons b y =>
      simp only [List.zipWith_cons_cons, List.foldl_cons]
      have e : crcByte (s ^^^ d) (a ^^^ b) = crcByte s a ^^^ stepN 8 (d ^^^ b.toNat) := by
        unfold crcByte
        rw [UInt8.toNat_xor, show s ^^^ d ^^^ (a.toNat ^^^ b.toNat) = (s ^^^ a.toNat) ^^^ (d ^^^ b.toNat) from by ac_rfl, stepN_xor]
      rw [e]
      exact ih _ _ y (by simpa using h)
theorem xor_lt32 {a b : Nat} (ha : a < 4294967296) (hb : b < 4294967296) : a ^^^ b < 4294967296 := Nat.xor_lt_two_pow (n := 32) ha hb
theorem byte_mul (b : UInt8) (k : Nat) (hk : k ≤ 3) : b.toNat * 2 ^ (8 * k) < 4294967296 := by
  have hb := b.toNat_lt
  match k, hk with
  | 0, _ => omega
  | 1, _ => omega
  | 2, _ => omega
  | 3, _ => omega
theorem add_xor (x y k : Nat) (h : x < 2 ^ k) : x ^^^ (y * 2 ^ k) = x + y * 2 ^ k := by
  have h1 := Nat.shiftLeft_add_eq_or_of_lt h y
  rw [Nat.shiftLeft_eq] at h1
  have h2 := Nat.two_pow_add_eq_or_of_lt h y
  apply Nat.eq_of_testBit_eq
  intro i
  rw [Nat.add_comm, h1]
  simp only [Nat.testBit_xor, Nat.testBit_or]
  rw [Nat.testBit_mul_two_pow]
  by_cases hi : k ≤ i
  · rw [Nat.testBit_lt_two_pow (Nat.lt_of_lt_of_le h (Nat.pow_le_pow_right (by decide) hi))]
    simp
  · simp [hi]
theorem four_zero (d0 d1 d2 d3 : UInt8) (h : dif [d0, d1, d2, d3] = 0) : d0 = 0 ∧ d1 = 0 ∧ d2 = 0 ∧ d3 = 0 := by
  have b0 := d0.toNat_lt
  have b1 := d1.toNat_lt
  have b2 := d2.toNat_lt
  have b3 := d3.toNat_lt
  have e : dif [d0, d1, d2, d3] = stepN 32 (d0.toNat ^^^ d1.toNat * 2 ^ 8 ^^^ d2.toNat * 2 ^ 16 ^^^ d3.toNat * 2 ^ 24) := by
    rw [stepN_xor, stepN_xor, stepN_xor, show (32 : Nat) = 24 + 8 from rfl, stepN_add 24 8 (d1.toNat * 2 ^ 8), stepN_shift, show (24 + 8 : Nat) = 16 + 16 from rfl, stepN_add 16 16 (d2.toNat * 2 ^ 16), stepN_shift,
      show (16 + 16 : Nat) = 8 + 24 from rfl, stepN_add 8 24 (d3.toNat * 2 ^ 24), stepN_shift]
    show stepN 8 (stepN 8 (stepN 8 (stepN 8 (0 ^^^ d0.toNat) ^^^ d1.toNat) ^^^ d2.toNat) ^^^ d3.toNat) = _
    rw [Nat.zero_xor]
    simp only [stepN_xor]
    simp only [← stepN_add]
  rw [e] at h
  have l1 : d0.toNat ^^^ d1.toNat * 2 ^ 8 = d0.toNat + d1.toNat * 2 ^ 8 := add_xor _ _ 8 (by omega)
  have l2 : d0.toNat ^^^ d1.toNat * 2 ^ 8 ^^^ d2.toNat * 2 ^ 16 = d0.toNat + d1.toNat * 2 ^ 8 + d2.toNat * 2 ^ 16 := by rw [l1]; exact add_xor _ _ 16 (by omega)
  have l3 : d0.toNat ^^^ d1.toNat * 2 ^ 8 ^^^ d2.toNat * 2 ^ 16 ^^^ d3.toNat * 2 ^ 24 = d0.toNat + d1.toNat * 2 ^ 8 + d2.toNat * 2 ^ 16 + d3.toNat * 2 ^ 24 := by rw [l2]; exact add_xor _ _ 24 (by omega)
  rw [l3] at h
  have := stepN_zero (by omega) 32 h
  refine ⟨UInt8.toNat_inj.1 ?_, UInt8.toNat_inj.1 ?_, UInt8.toNat_inj.1 ?_, UInt8.toNat_inj.1 ?_⟩ <;> (show _ = 0; omega)
theorem difs_lt : ∀ (l : List UInt8) (d : Nat), d < 4294967296 → l.foldl (fun d b => stepN 8 (d ^^^ b.toNat)) d < 4294967296 := by
  intro l
  induction l with
  | nil => exact fun d h => h
  | cons b l ih => exact fun d h => ih _ (stepN_lt (xorb_lt b h) 8)
theorem difs_zero : ∀ (l : List UInt8) (d : Nat), d < 4294967296 → (∀ b ∈ l, b = 0) → (l.foldl (fun d b => stepN 8 (d ^^^ b.toNat)) d = 0 ↔ d = 0) := by
  intro l
  induction l with
  | nil => exact fun d _ _ => Iff.rfl
  | cons b l ih =>
    intro d hd hz
    have hb : b = 0 := hz b (by simp)
    subst hb
    simp only [List.foldl_cons]
    rw [ih _ (stepN_lt (xorb_lt 0 hd) 8) (fun b hb => hz b (by simp [hb]))]
    have e : (d ^^^ (0 : UInt8).toNat) = d := by simp
    rw [e]
    constructor
    · exact stepN_zero hd 8
    · intro h; subst h; decide
/-- At most four bytes that are not 0, side by side: what is between is 0 just if they all are. -/
theorem dif_iff (p q : Nat) (ds : List UInt8) (h4 : ds.length ≤ 4) : dif (List.replicate p 0 ++ ds ++ List.replicate q 0) = 0 ↔ ∀ b ∈ ds, b = 0 := by
  have hp : (List.replicate p (0 : UInt8)).foldl (fun d b => stepN 8 (d ^^^ b.toNat)) 0 = 0 := (difs_zero _ 0 (by decide) (by intro b hb; exact List.eq_of_mem_replicate hb)).2 rfl
  have hd := difs_lt ds 0 (by decide)
  have h1 : dif (List.replicate p 0 ++ ds ++ List.replicate q 0) = 0 ↔ dif ds = 0 := by
    unfold dif
    rw [List.foldl_append, List.foldl_append, hp]
    exact difs_zero _ _ hd (by intro b hb; exact List.eq_of_mem_replicate hb)
  have h2 : dif (ds ++ List.replicate (4 - ds.length) 0) = 0 ↔ dif ds = 0 := by
    unfold dif
    rw [List.foldl_append]
    exact difs_zero _ _ hd (by intro b hb; exact List.eq_of_mem_replicate hb)
  rw [h1, ← h2]
  constructor
  · intro h
    match ds, h4 with
    | [], _ => simp
    | [a], _ => have := four_zero a 0 0 0 h; simp [this.1]
    | [a, b], _ => have := four_zero a b 0 0 h; simp [this.1, this.2.1]
    | [a, b, c], _ => have := four_zero a b c 0 h; simp [this.1, this.2.1, this.2.2.1]
    | [a, b, c, d], _ => have := four_zero a b c d h; simp [this.1, this.2.1, this.2.2.1, this.2.2.2]
  · intro h
    unfold dif
    rw [List.foldl_append]
    refine (difs_zero _ _ hd (by intro b hb; exact List.eq_of_mem_replicate hb)).2 ((difs_zero _ _ (by decide) h).2 rfl)
theorem crc_eq_iff (x y : List UInt8) (h : x.length = y.length) : crc (List.zipWith (· ^^^ ·) x y) = crc x ↔ dif y = 0 := by
  have e := foldl_dif 4294967295 0 x y h
  rw [Nat.xor_zero] at e
  unfold crc crcS
  rw [e]
  show _ ^^^ dif y ^^^ _ = _ ↔ _
  constructor
  · intro hh
    have h2 : (x.foldl crcByte 4294967295 ^^^ dif y ^^^ 4294967295) ^^^ (x.foldl crcByte 4294967295 ^^^ 4294967295) = 0 := by rw [hh, Nat.xor_self]
    rw [show (x.foldl crcByte 4294967295 ^^^ dif y ^^^ 4294967295) ^^^ (x.foldl crcByte 4294967295 ^^^ 4294967295) = dif y ^^^ (x.foldl crcByte 4294967295 ^^^ x.foldl crcByte 4294967295) ^^^ (4294967295 ^^^ 4294967295) from by ac_rfl] at h2
    simpa using h2
  · intro hh; rw [hh, Nat.xor_zero]
end Go.Proofs.Ytejneiakpeeamaa
