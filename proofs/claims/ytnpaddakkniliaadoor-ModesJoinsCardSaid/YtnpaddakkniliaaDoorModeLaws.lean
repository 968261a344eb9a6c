/-
  Modes: what changes done twice, one behind the other, and where nobody is told, make. Plain: no program.
-/
import Derived.Test.YtnpaddakkniliaaDoorModePlain
namespace Go.Proofs.YtnpaddakkniliaaDoor
open Go.RowKit

theorem chgAll_append (l m : List Chg) (mask : Int) (dir : Bool) (x : Nat) : chgAll (l ++ m) mask dir x = chgAll m mask dir (chgAll l mask dir x) := by
  unfold chgAll
  rw [List.foldl_append]
theorem chgAll_lt (mask : Int) (dir : Bool) : ∀ (l : List Chg) (x : Nat), x < 512 → chgAll l mask dir x < 512
  | [], _, h => h
  | c :: l, x, h => chgAll_lt mask dir l _ (chgMode_lt c mask dir x h)
theorem dgA (o : UInt8) (ho : o = 43 ∨ o = 45 ∨ o = 61) : ∀ (t : Bool) (b s r : Fin 8), refDig o t b.val s.val r.val < 8 ∧ refDig o t b.val s.val (refDig o t b.val s.val r.val) = refDig o t b.val s.val r.val ∧
    (b.val % 2 = 0 → r.val % 2 = 0 → refDig o t b.val s.val r.val % 2 = 0) ∧ (refDig o t (b.val ||| 1) s.val r.val % 2 = 0 → refDig o t b.val s.val (refDig o t (b.val ||| 1) s.val r.val) = refDig o t (b.val ||| 1) s.val r.val) := by
  rcases ho with rfl | rfl | rfl <;> decide +kernel
theorem odd3 : ∀ a b c : Fin 8, ((a.val ||| b.val) ||| c.val) % 2 = 1 ↔ (a.val % 2 = 1 ∨ b.val % 2 = 1 ∨ c.val % 2 = 1) := by decide +kernel
theorem or1 : ∀ b : Fin 8, (b.val ||| 1 < 8) ∧ (b.val % 2 = 1 → b.val ||| 1 = b.val) := by decide
theorem ogu_none {c : UInt8} (h : ogu c = none) : c ≠ 117 ∧ c ≠ 103 ∧ c ≠ 111 := by
  unfold ogu at h
  refine ⟨fun e => ?_, fun e => ?_, fun e => ?_⟩ <;> (rw [e] at h; revert h; decide)
theorem refMode_oct (x : Chg) (mask : Int) (dir : Bool) (r0 r1 r2 : Nat) (h0 : r0 < 8) (h1 : r1 < 8) (h2 : r2 < 8) :
    refMode x mask dir (oct r0 r1 r2) = oct (refDig x.op (chgWho x / 4 % 2 == 1) (refBits x r0 r1 r2 dir) (stayOf x mask 6) r0) (refDig x.op (chgWho x / 2 % 2 == 1) (refBits x r0 r1 r2 dir) (stayOf x mask 3) r1) (refDig x.op (chgWho x % 2 == 1) (refBits x r0 r1 r2 dir) (stayOf x mask 0) r2) := by
  unfold refMode
  rw [oct_hi h0 h1 h2, oct_mid h1 h2, oct_low h2]
/-- A change that copies nothing, done twice. -/
theorem chgMode_twice (x : Chg) (mask : Int) (dir : Bool) (m : Nat) (hm : m < 512) (hc : ogu x.copy = none) : chgMode x mask dir (chgMode x mask dir m) = chgMode x mask dir m := by
  by_cases ho : x.op = 43 ∨ x.op = 45 ∨ x.op = 61
  · have hlt := chgMode_lt x mask dir m hm
    rw [chg_same x mask dir _ hlt, chg_same x mask dir m hm]
    obtain ⟨r0, r1, r2, h0, h1, h2, rfl⟩ := oct_of m hm
    obtain ⟨c1, c2, c3⟩ := ogu_none hc
    have hb0 : (x.bits % 8).toNat < 8 := by omega
    obtain ⟨b0, hb⟩ : ∃ b0 : Fin 8, b0.val = (x.bits % 8).toNat := ⟨⟨_, hb0⟩, rfl⟩
    have hbits : ∀ q0 q1 q2, refBits x q0 q1 q2 dir = if x.dirs = true ∧ (dir = true ∨ ((q0 ||| q1) ||| q2) % 2 = 1) then b0.val ||| 1 else b0.val := fun q0 q1 q2 => by
      unfold refBits
      simp only [if_neg c1, if_neg c2, if_neg c3, hb]
    have s6 := stay_lt x mask 6
    have s3 := stay_lt x mask 3
    have s0 := stay_lt x mask 0
    have hD := dgA x.op ho
    have P0 : ∀ (t : Bool) (b s r : Nat), b < 8 → s < 8 → r < 8 → refDig x.op t b s r < 8 := fun t b s r hb hs hr => (hD t ⟨b, hb⟩ ⟨s, hs⟩ ⟨r, hr⟩).1
    have P1 : ∀ (t : Bool) (b s r : Nat), b < 8 → s < 8 → r < 8 → refDig x.op t b s (refDig x.op t b s r) = refDig x.op t b s r := fun t b s r hb hs hr => (hD t ⟨b, hb⟩ ⟨s, hs⟩ ⟨r, hr⟩).2.1
    have P2 : ∀ (t : Bool) (b s r : Nat), b < 8 → s < 8 → r < 8 → b % 2 = 0 → r % 2 = 0 → refDig x.op t b s r % 2 = 0 := fun t b s r hb hs hr => (hD t ⟨b, hb⟩ ⟨s, hs⟩ ⟨r, hr⟩).2.2.1
    have P3 : ∀ (t : Bool) (b s r : Nat), b < 8 → s < 8 → r < 8 → refDig x.op t (b ||| 1) s r % 2 = 0 → refDig x.op t b s (refDig x.op t (b ||| 1) s r) = refDig x.op t (b ||| 1) s r := fun t b s r hb hs hr => (hD t ⟨b, hb⟩ ⟨s, hs⟩ ⟨r, hr⟩).2.2.2
    obtain ⟨o1, o2⟩ := or1 b0
    have ob := b0.isLt
    have O3 : ∀ a b c : Nat, a < 8 → b < 8 → c < 8 → (((a ||| b) ||| c) % 2 = 1 ↔ (a % 2 = 1 ∨ b % 2 = 1 ∨ c % 2 = 1)) := fun a b c ha hb hc => odd3 ⟨a, ha⟩ ⟨b, hb⟩ ⟨c, hc⟩
    rw [refMode_oct x mask dir r0 r1 r2 h0 h1 h2, hbits]
    obtain ⟨B, hB⟩ : ∃ B, B = if x.dirs = true ∧ (dir = true ∨ ((r0 ||| r1) ||| r2) % 2 = 1) then b0.val ||| 1 else b0.val := ⟨_, rfl⟩
    have hB8 : B < 8 := by rw [hB]; split <;> assumption
    rw [← hB, refMode_oct x mask dir _ _ _ (P0 _ _ _ _ hB8 s6 h0) (P0 _ _ _ _ hB8 s3 h1) (P0 _ _ _ _ hB8 s0 h2), hbits]
    have l6 := P0 (chgWho x / 4 % 2 == 1) _ _ _ hB8 s6 h0
    have l3 := P0 (chgWho x / 2 % 2 == 1) _ _ _ hB8 s3 h1
    have l0 := P0 (chgWho x % 2 == 1) _ _ _ hB8 s0 h2
    have same : ∀ B', B' = B → oct (refDig x.op (chgWho x / 4 % 2 == 1) B' (stayOf x mask 6) (refDig x.op (chgWho x / 4 % 2 == 1) B (stayOf x mask 6) r0)) (refDig x.op (chgWho x / 2 % 2 == 1) B' (stayOf x mask 3) (refDig x.op (chgWho x / 2 % 2 == 1) B (stayOf x mask 3) r1)) (refDig x.op (chgWho x % 2 == 1) B' (stayOf x mask 0) (refDig x.op (chgWho x % 2 == 1) B (stayOf x mask 0) r2)) =
        oct (refDig x.op (chgWho x / 4 % 2 == 1) B (stayOf x mask 6) r0) (refDig x.op (chgWho x / 2 % 2 == 1) B (stayOf x mask 3) r1) (refDig x.op (chgWho x % 2 == 1) B (stayOf x mask 0) r2) := fun B' e => by
      rw [e, P1 _ _ _ _ hB8 s6 h0, P1 _ _ _ _ hB8 s3 h1, P1 _ _ _ _ hB8 s0 h2]
    by_cases hdirs : x.dirs = true
    · by_cases hdir : dir = true
      · exact same _ (by rw [hB, if_pos ⟨hdirs, .inl hdir⟩, if_pos ⟨hdirs, .inl hdir⟩])
      · by_cases q1 : ((r0 ||| r1) ||| r2) % 2 = 1
        · have hBe : B = b0.val ||| 1 := by rw [hB, if_pos ⟨hdirs, .inr q1⟩]
          by_cases q2 : ((refDig x.op (chgWho x / 4 % 2 == 1) B (stayOf x mask 6) r0 ||| refDig x.op (chgWho x / 2 % 2 == 1) B (stayOf x mask 3) r1) ||| refDig x.op (chgWho x % 2 == 1) B (stayOf x mask 0) r2) % 2 = 1
          · exact same _ (by rw [if_pos ⟨hdirs, .inr q2⟩, hBe])
          · rw [if_neg (fun h => h.2.elim hdir q2)]
            rw [O3 _ _ _ l6 l3 l0] at q2
            rw [hBe] at q2 ⊢
            have e6 : refDig x.op (chgWho x / 4 % 2 == 1) (b0.val ||| 1) (stayOf x mask 6) r0 % 2 = 0 := by omega
            have e3 : refDig x.op (chgWho x / 2 % 2 == 1) (b0.val ||| 1) (stayOf x mask 3) r1 % 2 = 0 := by omega
            have e0 : refDig x.op (chgWho x % 2 == 1) (b0.val ||| 1) (stayOf x mask 0) r2 % 2 = 0 := by omega
            rw [P3 _ _ _ _ ob s6 h0 e6, P3 _ _ _ _ ob s3 h1 e3, P3 _ _ _ _ ob s0 h2 e0]
        · have hBe : B = b0.val := by rw [hB, if_neg (fun h => h.2.elim hdir q1)]
          by_cases q2 : ((refDig x.op (chgWho x / 4 % 2 == 1) B (stayOf x mask 6) r0 ||| refDig x.op (chgWho x / 2 % 2 == 1) B (stayOf x mask 3) r1) ||| refDig x.op (chgWho x % 2 == 1) B (stayOf x mask 0) r2) % 2 = 1
          · refine same _ ?_
            rw [if_pos ⟨hdirs, .inr q2⟩, hBe]
            refine o2 ?_
            rw [O3 _ _ _ h0 h1 h2] at q1
            rw [O3 _ _ _ l6 l3 l0] at q2
            rcases Nat.mod_two_eq_zero_or_one b0.val with hb2 | hb2
            · exfalso
              have e6 := P2 (chgWho x / 4 % 2 == 1) B (stayOf x mask 6) r0 hB8 s6 h0 (by rw [hBe]; exact hb2) (by omega)
              have e3 := P2 (chgWho x / 2 % 2 == 1) B (stayOf x mask 3) r1 hB8 s3 h1 (by rw [hBe]; exact hb2) (by omega)
              have e0 := P2 (chgWho x % 2 == 1) B (stayOf x mask 0) r2 hB8 s0 h2 (by rw [hBe]; exact hb2) (by omega)
              omega
            · exact hb2
          · exact same _ (by rw [if_neg (fun h => h.2.elim hdir q2), hBe])
    · exact same _ (by rw [hB, if_neg (fun h => hdirs h.1), if_neg (fun h => hdirs h.1)])
  · have hn : ∀ v b, opNow x.op v b = none := fun v b => by
      unfold opNow
      rw [if_neg (fun e => ho (.inl e)), if_neg (fun e => ho (.inr (.inl e))), if_neg (fun e => ho (.inr (.inr e)))]
    unfold chgMode
    simp only [hn]
/-- Every change done twice, one behind the other. -/
def twice (l : List Chg) : List Chg := l.flatMap fun x => [x, x]
theorem chgAll_twice (mask : Int) (dir : Bool) : ∀ (l : List Chg) (m : Nat), m < 512 → (∀ x ∈ l, ogu x.copy = none) → chgAll (twice l) mask dir m = chgAll l mask dir m
  | [], _, _, _ => rfl
  | x :: l, m, hm, h => by
    have h0 := chgMode_twice x mask dir m hm (h x (List.mem_cons_self ..))
    have ih := chgAll_twice mask dir l (chgMode x mask dir m) (chgMode_lt x mask dir m hm) (fun y hy => h y (List.mem_cons_of_mem _ hy))
    show chgAll (twice l) mask dir (chgMode x mask dir (chgMode x mask dir m)) = chgAll l mask dir (chgMode x mask dir m)
    rw [h0, ih]
/-! ### Where nobody is told -/
theorem dgM (o : UInt8) (ho : o = 43 ∨ o = 45 ∨ o = 61) : ∀ (b s r : Fin 8), refDig o true b.val s.val r.val &&& s.val = r.val &&& s.val ∧ refDig o true b.val s.val r.val &&& (7 - s.val) = refDig o true b.val 0 r.val &&& (7 - s.val) := by
  rcases ho with rfl | rfl | rfl <;> decide +kernel
theorem chgMask (x : Chg) (mask : Int) (dir : Bool) (m : Nat) (hm : m < 512) :
    chgMode { x with who := 0 } mask dir m &&& (mask % 512).toNat = m &&& (mask % 512).toNat ∧
    chgMode { x with who := 0 } mask dir m &&& (511 - (mask % 512).toNat) = chgMode { x with who := 7 } mask dir m &&& (511 - (mask % 512).toNat) := by
  by_cases ho : x.op = 43 ∨ x.op = 45 ∨ x.op = 61
  · rw [chg_same _ mask dir m hm, chg_same _ mask dir m hm]
    obtain ⟨r0, r1, r2, h0, h1, h2, rfl⟩ := oct_of m hm
    obtain ⟨a, b, c, ha, hb, hc, e⟩ := oct_of (mask % 512).toNat (by omega)
    have hB : ∀ k, refBits { x with who := k } r0 r1 r2 dir = refBits x r0 r1 r2 dir := fun k => rfl
    have hB8 : refBits x r0 r1 r2 dir < 8 := by rw [← bits_same x r0 r1 r2 dir h0 h1 h2]; exact chgBits_lt _ _ _
    rw [refMode_oct _ mask dir r0 r1 r2 h0 h1 h2, refMode_oct _ mask dir r0 r1 r2 h0 h1 h2, hB 0, hB 7]
    have t0 : chgWho { x with who := 0 } = 7 := rfl
    have t7 : chgWho { x with who := 7 } = 7 := rfl
    have z6 : stayOf { x with who := 0 } mask 6 = a := by show (if (0 : Int) % 8 = 0 then (mask % 512).toNat / 2 ^ 6 % 8 else 0) = a; rw [if_pos (by decide), e, oct_hi ha hb hc]
    have z3 : stayOf { x with who := 0 } mask 3 = b := by show (if (0 : Int) % 8 = 0 then (mask % 512).toNat / 2 ^ 3 % 8 else 0) = b; rw [if_pos (by decide), e, oct_mid hb hc]
    have z0 : stayOf { x with who := 0 } mask 0 = c := by show (if (0 : Int) % 8 = 0 then (mask % 512).toNat / 2 ^ 0 % 8 else 0) = c; rw [if_pos (by decide), e, Nat.pow_zero, Nat.div_one, oct_low hc]
    have y6 : ∀ k, stayOf { x with who := 7 } mask k = 0 := fun k => by show (if (7 : Int) % 8 = 0 then _ else 0) = 0; rw [if_neg (by decide)]
    rw [t0, t7, z6, z3, z0, y6, y6, y6, e, sub_oct ha hb hc]
    generalize refBits x r0 r1 r2 dir = B at hB8
    have tt : ((7 / 4 % 2 == 1) = true) ∧ ((7 / 2 % 2 == 1) = true) ∧ ((7 % 2 == 1) = true) := by decide
    first | rw [tt.1, tt.2.1, tt.2.2] | rw [tt.1, tt.2.1] | rw [tt.1]
    have k0 := dgM x.op ho ⟨B, hB8⟩ ⟨a, ha⟩ ⟨r0, h0⟩
    have k1 := dgM x.op ho ⟨B, hB8⟩ ⟨b, hb⟩ ⟨r1, h1⟩
    have k2 := dgM x.op ho ⟨B, hB8⟩ ⟨c, hc⟩ ⟨r2, h2⟩
    have hD := dgA x.op ho
    have P0 : ∀ (t : Bool) (b s r : Nat), b < 8 → s < 8 → r < 8 → refDig x.op t b s r < 8 := fun t b s r hb hs hr => (hD t ⟨b, hb⟩ ⟨s, hs⟩ ⟨r, hr⟩).1
    have a1 := P0 true B b r1 hB8 hb h1
    have a2 := P0 true B c r2 hB8 hc h2
    have b1 := P0 true B 0 r1 hB8 (by omega) h1
    have b2 := P0 true B 0 r2 hB8 (by omega) h2
    show oct (refDig x.op true B a r0) (refDig x.op true B b r1) (refDig x.op true B c r2) &&& oct a b c = _ ∧ oct (refDig x.op true B a r0) (refDig x.op true B b r1) (refDig x.op true B c r2) &&& _ = oct (refDig x.op true B 0 r0) (refDig x.op true B 0 r1) (refDig x.op true B 0 r2) &&& _
    rw [and_oct a1 a2 hb hc, and_oct h1 h2 hb hc, and_oct a1 a2 (by omega) (by omega), and_oct b1 b2 (by omega) (by omega), k0.1, k1.1, k2.1, k0.2, k1.2, k2.2]
    exact ⟨rfl, rfl⟩
  · have hn : ∀ v b, opNow x.op v b = none := fun v b => by
      unfold opNow
      rw [if_neg (fun e => ho (.inl e)), if_neg (fun e => ho (.inr (.inl e))), if_neg (fun e => ho (.inr (.inr e)))]
    unfold chgMode
    simp only [hn]
    exact ⟨trivial, trivial⟩
end Go.Proofs.YtnpaddakkniliaaDoor
