/-
  Calls as bytes, there and back: plain lists, no program.
-/
import Derived.Test.YtejneiakpeeamaaPut
import Derived.Test.YtejneiakpeeamaaRead2
namespace Go.Proofs.Ytejneiakpeeamaa
open Go.RowKit

/-! ### Numbers and texts as bytes, there and back -/
theorem leb_cons (k n : Nat) : leb (k + 1) n = UInt8.ofNat n :: leb k (n / 256) := by
  unfold leb
  rw [List.range_succ_eq_map, List.map_cons, List.map_map]
  congr 1
  · simp
  · refine List.map_congr_left fun i _ => ?_
    show UInt8.ofNat (n / 2 ^ (8 * (i + 1))) = UInt8.ofNat (n / 256 / 2 ^ (8 * i))
    rw [Nat.div_div_eq_div_mul, show (256 : Nat) = 2 ^ 8 from rfl, ← Nat.pow_add, show 8 * (i + 1) = 8 + 8 * i from by omega]
theorem leVal_leb : ∀ k n, leVal (leb k n) = n % 256 ^ k
  | 0, n => by simp [leb, leVal, Nat.mod_one]
  | k + 1, n => by
    rw [leb_cons, leVal, leVal_leb k, Nat.pow_succ, Nat.mul_comm (256 ^ k) 256, Nat.mod_mul]
    simp
theorem leb_leVal : ∀ l : List UInt8, leb l.length (leVal l) = l
  | [] => rfl
  | b :: l => by
    have hb : b.toNat < 256 := b.toNat_lt
    rw [List.length_cons, leb_cons, leVal, show (b.toNat + 256 * leVal l) / 256 = leVal l from by omega, leb_leVal l]
    congr 1
    apply UInt8.toNat_inj.1
    simp

/-- What reads a value off a list's head: the value, and what is behind it. -/
abbrev Prs (α : Type) := List UInt8 → Option (α × List UInt8)
/-- It reads just what is written so. -/
def Good {α : Type} (p : Prs α) (enc : α → List UInt8) (V : α → Prop) : Prop := ∀ l a r, p l = some (a, r) ↔ V a ∧ l = enc a ++ r
def pRaw (m : Nat) : Prs (List UInt8) := fun l => if m ≤ l.length then some (l.take m, l.drop m) else none
def pLow (m : Nat) : Prs Nat := fun l => if m ≤ l.length then some (leVal (l.take m), l.drop m) else none
def pBind {α β : Type} (p : Prs α) (q : α → Prs β) : Prs β := fun l => match p l with
  | some (a, r) => q a r
  | none => none
def pMap {α β : Type} (f : α → β) (p : Prs α) : Prs β := fun l => (p l).map fun x => (f x.1, x.2)
def pIf {α : Type} (c : α → Bool) (p : Prs α) : Prs α := fun l => match p l with
  | some (a, r) => bif c a then some (a, r) else none
  | none => none
theorem good_raw (m : Nat) : Good (pRaw m) (fun l => l) (fun l => l.length = m) := by
  intro l a r
  unfold pRaw
  constructor
  · intro h
    split at h
    · injection h with h
      injection h with h1 h2
      subst h1; subst h2
      exact ⟨by show (l.take m).length = m; rw [List.length_take]; omega, (List.take_append_drop m l).symm⟩
    · cases h
  · rintro ⟨rfl, rfl⟩
    rw [if_pos (by simp)]
    simp
theorem good_low (m : Nat) : Good (pLow m) (leb m) (fun n => n < 256 ^ m) := by
  intro l a r
  unfold pLow
  constructor
  · intro h
    split at h
    · rename_i hm
      injection h with h
      injection h with h1 h2
      subst h1; subst h2
      have hl : (l.take m).length = m := by rw [List.length_take]; omega
      refine ⟨by have := leVal_lt (l.take m); rwa [hl] at this, ?_⟩
      have := leb_leVal (l.take m)
      rw [hl] at this
      rw [this, List.take_append_drop]
    · cases h
  · rintro ⟨hv, rfl⟩
    rw [if_pos (by rw [List.length_append, leb_length]; omega), List.take_left' (leb_length m a), List.drop_left' (leb_length m a), leVal_leb, Nat.mod_eq_of_lt hv]
theorem good_if {α : Type} {p : Prs α} {e : α → List UInt8} {V : α → Prop} (c : α → Bool) (h : Good p e V) : Good (pIf c p) e (fun a => V a ∧ c a = true) := by
  intro l a r
  unfold pIf
  cases hp : p l with
  | none =>
    simp only [reduceCtorEq, false_iff]
    rintro ⟨⟨h1, _⟩, h2⟩
    rw [(h l a r).2 ⟨h1, h2⟩] at hp
    cases hp
  | some x =>
    obtain ⟨b, r'⟩ := x
    have hb := (h l b r').1 hp
    dsimp only
    by_cases hc : c b = true
    · rw [hc]
      dsimp only [cond]
      constructor
      · intro hh; injection hh with hh; injection hh with h1 h2; subst h1; subst h2; exact ⟨⟨hb.1, hc⟩, hb.2⟩
      · rintro ⟨⟨h1, _⟩, h2⟩
        have := (h l a r).2 ⟨h1, h2⟩
        rw [hp] at this
        exact this
    · rw [show c b = false from by simpa using hc]
      dsimp only [cond]
      constructor
      · intro hh; cases hh
      · rintro ⟨⟨h1, h3⟩, h2⟩
        have := (h l a r).2 ⟨h1, h2⟩
        rw [hp] at this
        injection this with this
        injection this with h4 _
        subst h4
        exact absurd h3 hc
theorem good_map {α β : Type} {p : Prs α} {e : α → List UInt8} {V : α → Prop} (f : α → β) (g : β → α) (V' : β → Prop) (h : Good p e V) (h1 : ∀ a, V a → g (f a) = a ∧ V' (f a)) (h2 : ∀ b, V' b → f (g b) = b ∧ V (g b)) : Good (pMap f p) (fun b => e (g b)) V' := by
  intro l b r
  unfold pMap
  constructor
  · intro hh
    cases hp : p l with
    | none => rw [hp] at hh; cases hh
    | some x =>
      obtain ⟨a, r'⟩ := x
      rw [hp] at hh
      injection hh with hh
      injection hh with e1 e2
      subst e1; subst e2
      have := (h l a r').1 hp
      have k := h1 a this.1
      exact ⟨k.2, by show l = e (g (f a)) ++ r'; rw [k.1]; exact this.2⟩
  · rintro ⟨hv, rfl⟩
    have k := h2 b hv
    rw [(h _ (g b) r).2 ⟨k.2, rfl⟩]
    show some (f (g b), r) = _
    rw [k.1]
/-- One behind the other; what is read tells what comes. -/
theorem good_bind {α β γ : Type} {p : Prs α} {e : α → List UInt8} {V : α → Prop} {q : α → Prs β} {e2 : α → β → List UInt8} {V2 : α → β → Prop} (mk : α → β → γ) (fst : γ → α) (snd : γ → β)
    (hp : Good p e V) (hq : ∀ a, V a → Good (q a) (e2 a) (V2 a)) (hf : ∀ a b, fst (mk a b) = a) (hs : ∀ a b, snd (mk a b) = b) (hm : ∀ c, mk (fst c) (snd c) = c) :
    Good (pBind p fun a => pMap (mk a) (q a)) (fun c => e (fst c) ++ e2 (fst c) (snd c)) (fun c => V (fst c) ∧ V2 (fst c) (snd c)) := by
  intro l c r
  unfold pBind pMap
  cases h1 : p l with
  | none =>
    simp only [reduceCtorEq, false_iff]
    rintro ⟨⟨v1, v2⟩, rfl⟩
    rw [List.append_assoc, (hp _ (fst c) _).2 ⟨v1, rfl⟩] at h1
    cases h1
  | some x =>
    obtain ⟨a, r1⟩ := x
    obtain ⟨va, rfl⟩ := (hp l a r1).1 h1
    dsimp only
    constructor
    · intro hh
      cases h2 : q a r1 with
      | none => rw [h2] at hh; cases hh
      | some y =>
        obtain ⟨b, r2⟩ := y
        rw [h2] at hh
        injection hh with hh
        injection hh with e1 e3
        subst e1; subst e3
        obtain ⟨vb, rfl⟩ := (hq a va r1 b r2).1 h2
        simp only [hf, hs]
        exact ⟨⟨va, vb⟩, (List.append_assoc _ _ _).symm⟩
    · rintro ⟨⟨v1, v2⟩, he⟩
      have h3 := (hp (e a ++ r1) (fst c) (e2 (fst c) (snd c) ++ r)).2 ⟨v1, by rw [he, List.append_assoc]⟩
      rw [h1] at h3
      injection h3 with h3
      injection h3 with e1 e3
      subst e1; subst e3
      rw [(hq (fst c) v1 _ (snd c) r).2 ⟨v2, rfl⟩]
      show some (mk (fst c) (snd c), r) = _
      rw [hm]
theorem good_pair {α β : Type} {p : Prs α} {e : α → List UInt8} {V : α → Prop} {q : Prs β} {e2 : β → List UInt8} {V2 : β → Prop} (hp : Good p e V) (hq : Good q e2 V2) :
    Good (pBind p fun a => pMap (fun b => (a, b)) q) (fun c => e c.1 ++ e2 c.2) (fun c => V c.1 ∧ V2 c.2) :=
  good_bind (fun a b => (a, b)) (·.1) (·.2) hp (fun _ _ => hq) (fun _ _ => rfl) (fun _ _ => rfl) (fun _ => rfl)
/-- What is shorter than what is written is not read. -/
theorem Good.short {α : Type} {p : Prs α} {e : α → List UInt8} {V : α → Prop} (h : Good p e V) {a : α} (va : V a) {i : Nat} (hi : i < (e a).length) : p ((e a).take i) = none := by
  cases hp : p ((e a).take i) with
  | none => rfl
  | some x =>
    obtain ⟨b, r⟩ := x
    obtain ⟨vb, hb⟩ := (h _ b r).1 hp
    have h1 := (h (e a) b (r ++ (e a).drop i)).2 ⟨vb, by rw [← List.append_assoc, ← hb, List.take_append_drop]⟩
    have h2 := (h (e a) a []).2 ⟨va, by simp⟩
    rw [h2] at h1
    injection h1 with h1
    injection h1 with _ h1
    have : ((e a).drop i).length = 0 := by
      have := congrArg List.length h1
      rw [List.length_append] at this
      simp at this
      simp
      omega
    rw [List.length_drop] at this
    omega
/-- A number. -/
theorem wrap_word (x : Int) (h : -9223372036854775808 ≤ x ∧ x ≤ 9223372036854775807) : wrap64 (word x : Nat) = x := by
  unfold wrap64 word
  omega
theorem word_wrap (n : Nat) (h : n < 18446744073709551616) : word (wrap64 (n : Int)) = n := by
  unfold wrap64 word
  omega
theorem wrap_in (n : Int) : -9223372036854775808 ≤ wrap64 n ∧ wrap64 n ≤ 9223372036854775807 := by
  unfold wrap64
  omega
def isI64 (x : Int) : Prop := -9223372036854775808 ≤ x ∧ x ≤ 9223372036854775807
def pNum : Prs Int := pMap (fun n : Nat => wrap64 (n : Int)) (pLow 8)
theorem good_num : Good pNum (fun x => leb 8 (word x)) isI64 :=
  good_map (fun n : Nat => wrap64 (n : Int)) word isI64 (good_low 8) (fun a h => ⟨word_wrap a (by simpa using h), wrap_in _⟩) (fun b h => ⟨wrap_word b h, by unfold word; omega⟩)
def pCnt (most : Nat) : Prs Nat := pIf (fun n => decide (n ≤ most)) (pLow 4)
theorem good_cnt (most : Nat) (h : most < 4294967296) : Good (pCnt most) (leb 4) (fun n => n ≤ most) := by
  have := good_if (fun n => decide (n ≤ most)) (good_low 4)
  intro l a r
  rw [pCnt, this l a r]
  constructor
  · rintro ⟨⟨_, h1⟩, h2⟩; exact ⟨of_decide_eq_true h1, h2⟩
  · rintro ⟨h1, h2⟩; exact ⟨⟨Nat.lt_of_le_of_lt h1 h, decide_eq_true h1⟩, h2⟩
def pTxt : Prs (List UInt8) := pBind (pCnt 65536) pRaw
theorem good_txt : Good pTxt encT (fun l => l.length ≤ 65536) := by
  intro l a r
  unfold pTxt pBind
  cases h1 : pCnt 65536 l with
  | none =>
    simp only [reduceCtorEq, false_iff]
    rintro ⟨v, rfl⟩
    rw [encT, List.append_assoc, (good_cnt 65536 (by decide) _ a.length _).2 ⟨v, rfl⟩] at h1
    cases h1
  | some x =>
    obtain ⟨n, r1⟩ := x
    obtain ⟨vn, rfl⟩ := (good_cnt 65536 (by decide) l n r1).1 h1
    dsimp only
    rw [good_raw n r1 a r]
    constructor
    · rintro ⟨rfl, rfl⟩; exact ⟨vn, by rw [encT, List.append_assoc]⟩
    · rintro ⟨v, he⟩
      have h3 := (good_cnt 65536 (by decide) (leb 4 n ++ r1) a.length (a ++ r)).2 ⟨v, by rw [he, encT, List.append_assoc]⟩
      rw [h1] at h3
      injection h3 with h3
      injection h3 with e1 e3
      exact ⟨e1.symm, e3⟩
def pByte : Prs UInt8 := pMap (fun n : Nat => UInt8.ofNat n) (pLow 1)
theorem good_byte : Good pByte (fun b => [b]) (fun _ => True) := by
  have := good_map (fun n : Nat => UInt8.ofNat n) (fun b => b.toNat) (fun _ => True) (good_low 1) (fun a h => ⟨by simp at h ⊢; omega, trivial⟩) (fun b _ => ⟨by simp, by have := b.toNat_lt; simpa using this⟩)
  intro l a r
  rw [pByte, this l a r]
  have e : leb 1 a.toNat = [a] := by rw [leb_cons]; simp [leb]
  dsimp only
  rw [e]
/-- So many, one behind the other. -/
def pRep {α : Type} (p : Prs α) : Nat → Prs (List α)
  | 0 => fun l => some ([], l)
  | n + 1 => pBind p fun a => pMap (a :: ·) (pRep p n)
theorem good_rep {α : Type} {p : Prs α} {e : α → List UInt8} {V : α → Prop} (h : Good p e V) : ∀ n, Good (pRep p n) (fun xs => xs.flatMap e) (fun xs => xs.length = n ∧ ∀ a ∈ xs, V a) := by
  intro n
  induction n with
  | zero =>
    intro l xs r
    unfold pRep
    constructor
    · intro hh; injection hh with hh; injection hh with h1 h2; subst h1; subst h2; exact ⟨⟨rfl, by simp⟩, rfl⟩
    · rintro ⟨⟨h1, _⟩, rfl⟩
      have : xs = [] := List.eq_nil_of_length_eq_zero h1
      subst this; rfl
  | succ n ih =>
    intro l xs r
    unfold pRep
    have hg := good_pair h ih
    have hm : pBind p (fun a => pMap (a :: ·) (pRep p n)) l = some (xs, r) ↔ ∃ a bs, xs = a :: bs ∧ pBind p (fun a => pMap (fun b => (a, b)) (pRep p n)) l = some ((a, bs), r) := by
      unfold pBind pMap
      cases p l with
      | none => simp
      | some x =>
        obtain ⟨a, r1⟩ := x
        dsimp only
        cases pRep p n r1 with
        | none => simp
        | some y =>
          obtain ⟨bs, r2⟩ := y
          simp
          constructor
          · rintro ⟨rfl, rfl⟩; exact ⟨_, _, rfl, ⟨rfl, rfl⟩, rfl⟩
          · rintro ⟨_, _, rfl, ⟨rfl, rfl⟩, rfl⟩; exact ⟨rfl, rfl⟩
    rw [hm]
    constructor
    · rintro ⟨a, bs, rfl, h1⟩
      obtain ⟨⟨va, hl, vb⟩, he⟩ := (hg l (a, bs) r).1 h1
      exact ⟨⟨by simpa using hl, fun x hx => by rcases List.mem_cons.1 hx with rfl | hx <;> first | exact va | exact vb x hx⟩, by simpa using he⟩
    · rintro ⟨⟨hl, hv⟩, he⟩
      cases xs with
      | nil => simp at hl
      | cons a bs => exact ⟨a, bs, rfl, (hg l (a, bs) r).2 ⟨⟨hv a (by simp), by simpa using hl, fun x hx => hv x (by simp [hx])⟩, by simpa using he⟩⟩
/-! ### A reader's way, and what it reads -/
def txtV (L : List UInt8) (s : RS) : List UInt8 := takeL L (cntS L s 65536) (cntV L s 65536)
def txtS (L : List UInt8) (s : RS) : RS := takeS L (cntS L s 65536) (cntV L s 65536)
theorem cntS_at {L : List UInt8} {s : RS} {m : Nat} (h : s.at_ ≤ L.length) : (cntS L s m).at_ ≤ L.length := by
  unfold cntS
  split
  · exact takeS_at h
  · exact takeS_at h
theorem txtS_at {L : List UInt8} {s : RS} (h : s.at_ ≤ L.length) : (txtS L s).at_ ≤ L.length := takeS_at (cntS_at h)
theorem cntV_le (L : List UInt8) (s : RS) (m : Nat) : cntV L s m ≤ m := by
  unfold cntV
  split
  · assumption
  · omega
theorem txtV_length (L : List UInt8) (s : RS) : (txtV L s).length ≤ 65536 := Nat.le_trans (takeL_length _ _ _) (cntV_le _ _ _)
theorem takeS_bad {L : List UInt8} {s : RS} (m : Nat) (h : s.bad = true) : (takeS L s m).bad = true := by
  unfold takeS
  rw [if_neg (fun k => by rw [k.1] at h; cases h)]
def rLow (L : List UInt8) (m : Nat) (s : RS) : Nat × RS := (lowV L s m, takeS L s m)
def rByte (L : List UInt8) (s : RS) : UInt8 × RS := (UInt8.ofNat (lowV L s 1), takeS L s 1)
def rNum (L : List UInt8) (s : RS) : Int × RS := (numV L s, takeS L s 8)
def rCnt (L : List UInt8) (most : Nat) (s : RS) : Nat × RS := (cntV L s most, cntS L s most)
def rTxt (L : List UInt8) (s : RS) : List UInt8 × RS := (txtV L s, txtS L s)
/-- A way of a reader over L that reads as p does. -/
structure Sim {α : Type} (L : List UInt8) (f : RS → α × RS) (p : Prs α) : Prop where
  at_ : ∀ s : RS, s.at_ ≤ L.length → (f s).2.at_ ≤ L.length
  bad : ∀ s : RS, s.bad = true → (f s).2.bad = true
  yes : ∀ (s : RS) (a : α) (r : List UInt8), s.at_ ≤ L.length → s.bad = false → p (L.drop s.at_) = some (a, r) → (f s).1 = a ∧ (f s).2.bad = false ∧ L.drop (f s).2.at_ = r
  no : ∀ s : RS, s.at_ ≤ L.length → s.bad = false → p (L.drop s.at_) = none → (f s).2.bad = true
theorem Sim.iff {α : Type} {L : List UInt8} {f : RS → α × RS} {p : Prs α} (h : Sim L f p) {s : RS} (hs : s.at_ ≤ L.length) (hb : s.bad = false) :
    p (L.drop s.at_) = bif (f s).2.bad then none else some ((f s).1, L.drop (f s).2.at_) := by
  cases hp : p (L.drop s.at_) with
  | none => rw [h.no s hs hb hp]; rfl
  | some x =>
    obtain ⟨a, r⟩ := x
    obtain ⟨h1, h2, h3⟩ := h.yes s a r hs hb hp
    rw [h2, h1, h3]; rfl
theorem sim_raw (L : List UInt8) (m : Nat) : Sim L (fun s => (takeL L s m, takeS L s m)) (pRaw m) where
  at_ := fun s h => takeS_at h
  bad := fun s h => takeS_bad m h
  yes := fun s a r h1 h2 h3 => by
    unfold pRaw at h3
    split at h3
    · rename_i hm
      rw [List.length_drop] at hm
      have hok : takeOk L s m := ⟨h2, hm⟩
      injection h3 with h3
      injection h3 with e1 e2
      simp only [takeL, takeS, if_pos hok]
      exact ⟨e1, h2, by rw [← e2, List.drop_drop]⟩
    · cases h3
  no := fun s h1 h2 h3 => by
    unfold pRaw at h3
    split at h3
    · cases h3
    · rename_i hm
      rw [List.length_drop] at hm
      simp only [takeS]
      rw [if_neg (fun k => hm k.2)]
theorem sim_map {α β : Type} {L : List UInt8} {f : RS → α × RS} {p : Prs α} (k : α → β) (h : Sim L f p) : Sim L (fun s => (k (f s).1, (f s).2)) (pMap k p) where
  at_ := h.at_
  bad := h.bad
  yes := fun s b r h1 h2 h3 => by
    unfold pMap at h3
    cases hp : p (L.drop s.at_) with
    | none => rw [hp] at h3; cases h3
    | some x =>
      obtain ⟨a, r'⟩ := x
      rw [hp] at h3
      injection h3 with h3
      injection h3 with e1 e2
      obtain ⟨k1, k2, k3⟩ := h.yes s a r' h1 h2 hp
      exact ⟨by rw [← e1]; show k _ = k _; rw [k1], k2, k3.trans e2⟩
  no := fun s h1 h2 h3 => h.no s h1 h2 (by
    unfold pMap at h3
    cases hp : p (L.drop s.at_) with
    | none => rfl
    | some x => rw [hp] at h3; cases h3)
theorem sim_bind {α β : Type} {L : List UInt8} {f : RS → α × RS} {p : Prs α} {g : α → RS → β × RS} {q : α → Prs β} (h : Sim L f p) (k : ∀ a, Sim L (g a) (q a)) : Sim L (fun s => g (f s).1 (f s).2) (pBind p q) where
  at_ := fun s hs => (k _).at_ _ (h.at_ s hs)
  bad := fun s hs => (k _).bad _ (h.bad s hs)
  yes := fun s b r h1 h2 h3 => by
    unfold pBind at h3
    cases hp : p (L.drop s.at_) with
    | none => rw [hp] at h3; cases h3
    | some x =>
      obtain ⟨a, r'⟩ := x
      rw [hp] at h3
      obtain ⟨k1, k2, k3⟩ := h.yes s a r' h1 h2 hp
      rw [k1]
      exact (k a).yes _ b r (h.at_ s h1) k2 (by rw [k3]; exact h3)
  no := fun s h1 h2 h3 => by
    unfold pBind at h3
    cases hp : p (L.drop s.at_) with
    | none => exact (k _).bad _ (h.no s h1 h2 hp)
    | some x =>
      obtain ⟨a, r'⟩ := x
      rw [hp] at h3
      obtain ⟨k1, k2, k3⟩ := h.yes s a r' h1 h2 hp
      rw [k1]
      exact (k a).no _ (h.at_ s h1) k2 (by rw [k3]; exact h3)
theorem sim_low (L : List UInt8) (m : Nat) : Sim L (rLow L m) (pLow m) := by
  have h := sim_map leVal (sim_raw L m)
  have e : pMap leVal (pRaw m) = pLow m := by
    funext l
    unfold pMap pRaw pLow
    split <;> rfl
  rw [e] at h
  exact h
theorem sim_byte (L : List UInt8) : Sim L (rByte L) pByte := sim_map (fun n : Nat => UInt8.ofNat n) (sim_low L 1)
theorem sim_num (L : List UInt8) : Sim L (rNum L) pNum := sim_map (fun n : Nat => wrap64 (n : Int)) (sim_low L 8)
theorem sim_cnt (L : List UInt8) (most : Nat) : Sim L (rCnt L most) (pCnt most) where
  at_ := fun s h => cntS_at h
  bad := fun s h => by
    simp only [rCnt, cntS]
    split
    · exact takeS_bad 4 h
    · rfl
  yes := fun s a r h1 h2 h3 => by
    unfold pCnt pIf at h3
    have hi := (sim_low L 4).iff h1 h2
    rw [hi] at h3
    simp only [rLow] at h3
    cases hb : (takeS L s 4).bad with
    | true => rw [hb] at h3; cases h3
    | false =>
      rw [hb] at h3
      dsimp only [cond] at h3
      by_cases hle : lowV L s 4 ≤ most
      · rw [decide_eq_true hle] at h3
        dsimp only [cond] at h3
        injection h3 with h3
        injection h3 with e1 e2
        simp only [rCnt, cntV, cntS, if_pos hle]
        exact ⟨e1, hb, e2⟩
      · rw [decide_eq_false hle] at h3
        cases h3
  no := fun s h1 h2 h3 => by
    unfold pCnt pIf at h3
    have hi := (sim_low L 4).iff h1 h2
    rw [hi] at h3
    simp only [rLow] at h3
    simp only [rCnt, cntS]
    split
    · rename_i hle
      cases hb : (takeS L s 4).bad with
      | true => rfl
      | false =>
        rw [hb] at h3
        dsimp only [cond] at h3
        rw [decide_eq_true hle] at h3
        cases h3
    · rfl
theorem sim_txt (L : List UInt8) : Sim L (rTxt L) pTxt := sim_bind (g := fun n s => (takeL L s n, takeS L s n)) (sim_cnt L 65536) (fun n => sim_raw L n)
def rPair {α β : Type} (f : RS → α × RS) (g : RS → β × RS) (s : RS) : (α × β) × RS := (((f s).1, (g (f s).2).1), (g (f s).2).2)
def pPair {α β : Type} (p : Prs α) (q : Prs β) : Prs (α × β) := pBind p fun a => pMap (fun b => (a, b)) q
theorem sim_pair {α β : Type} {L : List UInt8} {f : RS → α × RS} {p : Prs α} {g : RS → β × RS} {q : Prs β} (h : Sim L f p) (k : Sim L g q) : Sim L (rPair f g) (pPair p q) :=
  sim_bind (g := fun a s => ((a, (g s).1), (g s).2)) h fun _ => sim_map _ k

/-! ### A call -/
abbrev CallT := UInt8 × List UInt8 × List UInt8 × Int × Int × Int × Int × List UInt8 × Int × Int × Int × Int
def pCall : Prs CallT := pPair pByte <| pPair pTxt <| pPair pTxt <| pPair pNum <| pPair pNum <| pPair pNum <| pPair pNum <| pPair pTxt <| pPair pNum <| pPair pNum <| pPair pNum pNum
def rCall (L : List UInt8) : RS → CallT × RS := rPair (rByte L) <| rPair (rTxt L) <| rPair (rTxt L) <| rPair (rNum L) <| rPair (rNum L) <| rPair (rNum L) <| rPair (rNum L) <| rPair (rTxt L) <| rPair (rNum L) <| rPair (rNum L) <| rPair (rNum L) (rNum L)
theorem sim_call (L : List UInt8) : Sim L (rCall L) pCall :=
  sim_pair (sim_byte L) <| sim_pair (sim_txt L) <| sim_pair (sim_txt L) <| sim_pair (sim_num L) <| sim_pair (sim_num L) <| sim_pair (sim_num L) <| sim_pair (sim_num L) <| sim_pair (sim_txt L) <| sim_pair (sim_num L) <| sim_pair (sim_num L) <| sim_pair (sim_num L) (sim_num L)
def encCT : CallT → List UInt8 := fun (k, p, o, m, u, g, t, d, eu, eg, em, ed) =>
  [k] ++ encT p ++ encT o ++ nums [m, u, g, t] ++ encT d ++ nums [eu, eg, em, ed]
def okCT : CallT → Prop := fun (_, p, o, m, u, g, t, d, eu, eg, em, ed) =>
  p.length ≤ 65536 ∧ o.length ≤ 65536 ∧ isI64 m ∧ isI64 u ∧ isI64 g ∧ isI64 t ∧ d.length ≤ 65536 ∧ isI64 eu ∧ isI64 eg ∧ isI64 em ∧ isI64 ed
theorem good_call : Good pCall encCT okCT := by
  have h := good_pair good_byte <| good_pair good_txt <| good_pair good_txt <| good_pair good_num <| good_pair good_num <| good_pair good_num <| good_pair good_num <| good_pair good_txt <| good_pair good_num <| good_pair good_num <| good_pair good_num good_num
  intro l a r
  obtain ⟨k, p, o, m, u, g, t, d, eu, eg, em, ed⟩ := a
  refine (h l (k, p, o, m, u, g, t, d, eu, eg, em, ed) r).trans ?_
  simp only [encCT, okCT, nums, true_and, List.flatMap_cons, List.flatMap_nil, List.append_nil, List.append_assoc]
/-- How a reader of a whole list ends that it reads a call of. -/
theorem call_end (L : List UInt8) : (rCall L ⟨0, false⟩).2.bad = false → okCT (rCall L ⟨0, false⟩).1 ∧ (rCall L ⟨0, false⟩).2.at_ ≤ L.length ∧ L.take (rCall L ⟨0, false⟩).2.at_ = encCT (rCall L ⟨0, false⟩).1 := by
  intro hb
  have h := (sim_call L).iff (s := ⟨0, false⟩) (Nat.zero_le _) rfl
  rw [hb] at h
  obtain ⟨h1, h2⟩ := (good_call _ _ _).1 h
  have h3 := (sim_call L).at_ ⟨0, false⟩ (Nat.zero_le _)
  refine ⟨h1, h3, ?_⟩
  have h4 : L = encCT (rCall L ⟨0, false⟩).1 ++ L.drop (rCall L ⟨0, false⟩).2.at_ := h2
  have h5 : encCT (rCall L ⟨0, false⟩).1 ++ L.drop (rCall L ⟨0, false⟩).2.at_ = L.take (rCall L ⟨0, false⟩).2.at_ ++ L.drop (rCall L ⟨0, false⟩).2.at_ := by rw [← h4, List.take_append_drop]
  exact (List.append_cancel_right h5).symm
/-- What was put is got. -/
theorem call_back (x : CallT) (more : List UInt8) (hx : okCT x) : rCall (encCT x ++ more) ⟨0, false⟩ = (x, ⟨(encCT x).length, false⟩) := by
  have h := (good_call (encCT x ++ more) x more).2 ⟨hx, rfl⟩
  obtain ⟨h1, h2, h3⟩ := (sim_call (encCT x ++ more)).yes ⟨0, false⟩ x more (Nat.zero_le _) rfl h
  have h4 := (sim_call (encCT x ++ more)).at_ ⟨0, false⟩ (Nat.zero_le _)
  generalize rCall (encCT x ++ more) ⟨0, false⟩ = z at h1 h2 h3 h4 ⊢
  obtain ⟨y, ⟨a, b⟩⟩ := z
  simp only at h1 h2 h3 h4
  subst h1; subst h2
  have := congrArg List.length h3
  simp at this h4
  congr 2
  omega
theorem call_short (x : CallT) (hx : okCT x) (i : Nat) (hi : i < (encCT x).length) : (rCall ((encCT x).take i) ⟨0, false⟩).2.bad = true :=
  (sim_call _).no ⟨0, false⟩ (Nat.zero_le _) rfl (good_call.short hx hi)
end Go.Proofs.Ytejneiakpeeamaa
