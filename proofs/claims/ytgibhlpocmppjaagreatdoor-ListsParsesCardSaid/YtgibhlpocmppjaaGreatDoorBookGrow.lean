/-
  toolchestlaw01's Book.growRange, of two lists: its contract.
-/
import Derived.Test.YtgibhlpocmppjaaGreatDoorBookFill
namespace Go.Proofs.YtgibhlpocmppjaaGreatDoor
open Go.RowKit

theorem add_blk (a : Addr) (j : Nat) : (a.add j).block = a.block := by unfold Addr.add; split <;> rfl
theorem own_own_ne {w : World} {base base' n n' size size' : Nat} {e e' : TypeId} {v v' : Value} {xs xs' : List Value} (h : w.ownsRow base e size v n xs) (h' : w.ownsRow base' e' size' v' n' xs') (hne : e ≠ e') : ∀ k, v.ownBlock = some k → v'.ownBlock ≠ some k := by
  intro k h1 h2
  rcases h.2 with ⟨rfl, _⟩ | ⟨g, c, cur, rfl, _, hh, _⟩
  · simp [Value.ownBlock] at h1
  · rcases h'.2 with ⟨rfl, _⟩ | ⟨g', c', cur', rfl, _, hh', _⟩
    · simp [Value.ownBlock] at h2
    · have e1 : g = k := by simpa [Value.ownBlock] using h1
      have e2 : g' = k := by simpa [Value.ownBlock] using h2
      subst e1 e2
      exact Blk.ne_ (t := e) hh hh' hne rfl
theorem own_keptX {w w' : World} {base n size β b : Nat} {e : TypeId} {v : Value} {xs : List Value} (h : w.ownsRow base e size v n xs) (k : KeptX β b w w') (hβ : w.heap.size ≤ β) (hne : v.ownBlock ≠ some b) : w'.ownsRow base e size v n xs := by
  refine ⟨h.1, ?_⟩
  rcases h.2 with h2 | ⟨g, cap, cur, rfl, hb, hh, r⟩
  · exact .inl h2
  · have hlt := (h.lt g rfl).2
    exact .inr ⟨g, cap, cur, rfl, hb, (k.block g (by omega) (fun e => hne (by rw [e]; rfl))).trans hh, r⟩
theorem reads_keptX {w w' : World} {B size n β b : Nat} {A : Option Addr} {xs : List Value} (h : Reads w B size A n xs) (k : KeptX β b w w') (hβ : B ≤ β) (hne : ∀ ad, A = some ad → 0 < n → ad.block ≠ b) : Reads w' B size A n xs := by
  refine ⟨h.1, fun hn => ?_⟩
  obtain ⟨ad, e, hlt, hc⟩ := h.2 hn
  refine ⟨ad, e, hlt, fun j u hu => ?_⟩
  rw [← hc j u hu]
  exact World.cell?_of_block (by rw [add_blk]; exact k.block ad.block (by omega) (hne ad e hn))
theorem reads_prefix {w : World} {B n m K : Nat} {A : Option Addr} (h : Reads w B 2 A (n + m) (rep K (n + m))) : Reads w B 2 A n (rep K n) := by
  refine ⟨by rw [rep_length], fun hn => ?_⟩
  obtain ⟨ad, e, hlt, hc⟩ := h.2 (by omega)
  refine ⟨ad, e, hlt, fun j u hu => hc j u ?_⟩
  rw [rep_add, List.getElem?_append_left (List.getElem?_eq_some_iff.1 hu).1]
  exact hu

/-- While a list grows: what is kept, the longer list, the elder one. -/
structure GSt (β gx : Nat) (A : Option Addr) (n K g k B : Nat) (long : Value) (wm wq : World) : Prop where
  kept : KeptX β gx wm wq
  own : wq.ownsRow B 49 2 long (n + k) (rep K (n + k))
  at_ : long.ownBlock = some gx ∨ ∀ b, long.ownBlock = some b → β ≤ b
  rd : Reads wq g 2 A n (rep K n)
theorem GSt.alloc {β gx n K g k B : Nat} {A : Option Addr} {long : Value} {wm wq : World} (h : GSt β gx A n K g k B long wm wq) (hβ : β = wm.heap.size) (hg : g ≤ β) (ob : Obj) : GSt β gx A n K g k B long wm (wq.alloc ob) := by
  have hs := h.kept.size
  have hb : Below β wq (wq.alloc ob) := (Below.refl _ _).alloc (by omega) ob
  exact ⟨h.kept.trans (KeptX.of_below hb), h.own.alloc _, h.at_, h.rd.below (hb.mono hg)⟩
theorem GSt.grow {β gx n K g k B : Nat} {A : Option Addr} {long long' : Value} {wm wq w' : World} (h : GSt β gx A n K g k B long wm wq) (hβ : β = wm.heap.size) (hgβ : g ≤ β) (hA : ∀ ad, A = some ad → 0 < n → ad = ⟨gx, 0, none⟩)
    (hg : wq.grownBy w' long.ownBlock) (hown : w'.ownsRow B 49 2 long' (n + k + 1) (rep K (n + k) ++ mk1 K)) (hat : long'.ownBlock = long.ownBlock ∨ long'.ownBlock = some wq.heap.size)
    (he : ∀ b, long.ownBlock = some b → Reads w' w'.heap.size 2 (some ⟨b, 0, none⟩) (n + k) (rep K (n + k))) : GSt β gx A n K g (k + 1) B long' wm w' := by
  have hs := h.kept.size
  have hk : KeptX β gx wq w' := ⟨hg.os, hg.tape, hg.output, hg.size, fun b hb hne => hg.block b (by omega) (fun e => by
    rcases h.at_ with h1 | h1
    · rw [h1] at e; exact hne (by injection e)
    · have := h1 b e.symm; omega)⟩
  refine ⟨h.kept.trans hk, by rw [← rep_succ] at hown; exact hown, ?_, ?_⟩
  · rcases hat with h1 | h1
    · rw [h1]; exact h.at_
    · refine .inr fun b hb => ?_
      rw [h1] at hb
      injection hb with hb
      omega
  · refine ⟨h.rd.1, fun hn => ?_⟩
    obtain ⟨ad, e, hlt, hc⟩ := h.rd.2 hn
    obtain rfl := hA ad e hn
    refine ⟨_, e, hlt, ?_⟩
    by_cases hb : long.ownBlock = some gx
    · obtain ⟨ad2, e2, _, hc2⟩ := (reads_prefix (he gx hb)).2 hn
      injection e2 with e2
      subst e2
      exact hc2
    · intro j u hu
      rw [← hc j u hu]
      exact World.cell?_of_block (by rw [add_blk]; exact hg.block gx (show gx < wq.heap.size by have : gx < g := hlt; omega) (fun e => hb e.symm))
/-- Where a list lies, for its growth. -/
theorem grow_place {w : World} {B g n c : Nat} {A : Option Addr} {xs : List Value} {vs : Value} (h : w.ownsRow B 49 2 (.slice A n c) n xs) (hap : Apart2 g (.slice A n c) vs) :
    ∃ gx, ((Value.slice A n c).ownBlock = some gx ∨ ∀ b, (Value.slice A n c).ownBlock = some b → w.heap.size ≤ b) ∧ (∀ ad, A = some ad → 0 < n → ad = ⟨gx, 0, none⟩) ∧ (∀ b, g ≤ b → b < w.heap.size → b ≠ gx) ∧ (∀ b, vs.ownBlock = some b → b < w.heap.size → b ≠ gx) ∧ (∀ b, b < w.heap.size → (Value.slice A n c).ownBlock ≠ some b → b ≠ gx) := by
  rcases h.2 with ⟨e, h0⟩ | ⟨gx, cap, cur, e, hb, hh, _⟩
  · injection e with e1
    subst e1 h0
    exact ⟨w.heap.size, .inr fun b hb => by simp [Value.ownBlock] at hb, fun ad h => by (cases h), fun b _ h => by omega, fun b _ h => by omega, fun b h _ => by omega⟩
  · injection e with e1 _ e3
    subst e1 e3
    have := hap.lta gx rfl
    exact ⟨gx, .inl rfl, fun ad h _ => by injection h with h; exact h.symm, fun b h1 _ => by omega, fun b h1 _ e => hap.ne gx rfl (by rw [← e]; exact h1), fun b _ h1 e => h1 (by rw [e]; rfl)⟩
/-- A Book of two lists; the first has grown. -/
structure Two3 (B g : Nat) (rv vb la : Value) (Aa : Option Addr) (na nb : Nat) (rc : List Value) (w0 wq : World) : Prop where
  book : Blk wq g 41 (bkCells 2 rv)
  held : wq.ownsRow (g + 1) 64 3 rv 2 rc
  gla : wq.ownsRow B 49 2 la (na + 40) (rep 1 (na + 40))
  a : Reads wq g 2 Aa na (rep 1 na)
  b : wq.ownsRow B 49 2 vb nb (rep 2 nb)
  ne : ∀ k, vb.ownBlock = some k → la.ownBlock ≠ some k
  below : Below B w0 wq
  room : B ≤ wq.heap.size
/-- .. both have grown. -/
structure Two4 (B g : Nat) (rv la lb : Value) (Aa Ab : Option Addr) (na nb : Nat) (rc : List Value) (w0 wq : World) : Prop where
  book : Blk wq g 41 (bkCells 2 rv)
  held : wq.ownsRow (g + 1) 64 3 rv 2 rc
  gla : wq.ownsRow B 49 2 la (na + 40) (rep 1 (na + 40))
  a : Reads wq g 2 Aa na (rep 1 na)
  glb : wq.ownsRow B 49 2 lb (nb + 40) (rep 2 (nb + 40))
  b : Reads wq g 2 Ab nb (rep 2 nb)
  below : Below B w0 wq
  room : B ≤ wq.heap.size

set_option maxRecDepth 100000 in
set_option maxHeartbeats 4000000 in
theorem growRange_two (B g na nb ca cb : Nat) (rv : Value) (Aa Ab : Option Addr) (w0 w : World) (hBg : B ≤ g) (hna : na ≤ 1000000) (hnb : nb ≤ 1000000) (hap : Apart2 g (.slice Aa na ca) (.slice Ab nb cb))
    (h : Two2 B g rv (.slice Aa na ca) (.slice Ab nb cb) na nb (held1 (.slice Aa na ca) (.slice none 0 0) 1 ++ held1 (.slice Ab nb cb) (.slice none 0 0) 2) (rep 1 na) (rep 2 nb) w0 w) :
    Calls Tryz.prog 32 #[.pointer (some ⟨g, 0, none⟩)] w fun e w' => e = .returned (.tuple #[]) ∧
      ∃ la lb, Two4 B g rv la lb Aa Ab na nb (held1 (.slice Aa na ca) la 1 ++ held1 (.slice Ab nb cb) lb 2) w0 w' := by
  obtain ⟨i0, hi0, hz0, hz1, hz2⟩ := info_parts infoRng
  obtain ⟨h0, ch, hrv⟩ := own_head h.held (by omega)
  subst hrv
  have hh0 := own_ge h.held h0 rfl
  have HAP := Lib.hid hap
  clear hap
  go_enter Tryz.func32, Tryz.ntmps32
  go_wp2_with fail
  go_loopw [2] (fun i wr => (i = .int .i64 0 ∧ Two2 B g (.slice (some ⟨h0, 0, none⟩) 2 ch) (.slice Aa na ca) (.slice Ab nb cb) na nb (held1 (.slice Aa na ca) (.slice none 0 0) 1 ++ held1 (.slice Ab nb cb) (.slice none 0 0) 2) (rep 1 na) (rep 2 nb) w0 wr) ∨
      (i = .int .i64 1 ∧ ∃ la, Two3 B g (.slice (some ⟨h0, 0, none⟩) 2 ch) (.slice Ab nb cb) la Aa na nb (held1 (.slice Aa na ca) la 1 ++ held1 (.slice Ab nb cb) (.slice none 0 0) 2) w0 wr) ∨
      (i = .int .i64 2 ∧ ∃ la lb, Two4 B g (.slice (some ⟨h0, 0, none⟩) 2 ch) la lb Aa Ab na nb (held1 (.slice Aa na ca) la 1 ++ held1 (.slice Ab nb cb) lb 2) w0 wr)) (fun i _ => 2 - (intOf i).toNat)
  case atStart => exact .inl ⟨rfl, h⟩
  case round =>
    rcases hrel with ⟨rfl, hT⟩ | ⟨rfl, la, hT⟩ | ⟨rfl, la, lb, hT⟩
    · have c7 : wr.cell? ⟨g, 7, none⟩ = some (.slice (some ⟨h0, 0, none⟩) 2 ch) := hT.book.cell 7
      have e0 : wr.cell? ⟨h0, 0, none⟩ = some (.slice Aa na ca) := own_cell hT.held rfl
      have e1 : wr.cell? ⟨h0, 1, none⟩ = some (.slice none 0 0) := own_cell hT.held rfl
      have e2 : wr.cell? ⟨h0, 2, none⟩ = some (.int .i64 1) := own_cell hT.held rfl
      have hgw := hT.book.lt
      have hhw := (hT.held.lt h0 rfl).2
      obtain ⟨wm, hwm⟩ : ∃ wm, wm = wr.alloc (.cells #[.slice Aa na ca, .slice none 0 0, .int .i64 1] 64) := ⟨_, rfl⟩
      obtain ⟨G, hG⟩ : ∃ G, G = wr.heap.size := ⟨_, rfl⟩
      have hms : wm.heap.size = G + 1 := by rw [hwm, hG]; simp
      have hgG : g < G := by omega
      have hhG : h0 < G := by omega
      have mT : Two2 B g (.slice (some ⟨h0, 0, none⟩) 2 ch) (.slice Aa na ca) (.slice Ab nb cb) na nb (held1 (.slice Aa na ca) (.slice none 0 0) 1 ++ held1 (.slice Ab nb cb) (.slice none 0 0) 2) (rep 1 na) (rep 2 nb) w0 wm := by
        rw [hwm]
        exact ⟨hT.book.alloc _, hT.held.alloc _, hT.a.alloc _, hT.b.alloc _, hT.below.alloc hT.room _, by have := hT.room; simp; omega⟩
      have hcp : Blk wm G 64 #[.slice Aa na ca, .slice none 0 0, .int .i64 1] := by rw [hwm, hG]; exact Blk.new _ _ _
      obtain ⟨gx, hat, hA, hng, hns, hno⟩ := grow_place mT.a HAP.out
      have hg0 : GSt wm.heap.size gx Aa na 1 g 0 B (.slice Aa na ca) wm wm := ⟨KeptX.refl _ _ _, mT.a, hat, by
        have hr := Reads.of_own mT.a
        refine ⟨hr.1, fun hn => ?_⟩
        obtain ⟨ad, e, _, hc⟩ := hr.2 hn
        obtain rfl := hA ad e hn
        exact ⟨_, e, HAP.out.lta gx (by rw [e]; rfl), hc⟩⟩
      have hBx : B ≤ gx := by
        have hro := mT.a
        rcases hat with h1 | h1
        · exact own_ge hro gx h1
        · exact Nat.le_of_not_lt fun hl => hno gx (by have := mT.room; omega) (fun e => by have := own_ge hro gx e; omega) rfl
      have HWM := Lib.hid hwm
      have HG := Lib.hid hG
      have HG0 := Lib.hid hg0
      have HMT := Lib.hid mT
      have HCP := Lib.hid hcp
      clear hwm hG hg0 mT hT hat hcp
      go_wp2_with fail
      rw [← HWM.out, ← HG.out]
      go_loopw [4, 5] (fun l x wq => ∃ k : Nat, k ≤ 40 ∧ x = .int .i64 k ∧ GSt wm.heap.size gx Aa na 1 g k B l wm wq) (fun _ x _ => 40 - (intOf x).toNat)
      case atStart => exact ⟨0, Nat.zero_le _, rfl, HG0.out⟩
      case round =>
        obtain ⟨k, hk, rfl, hS⟩ := hrel
        have hcq : Blk wr G 64 #[.slice Aa na ca, .slice none 0 0, .int .i64 1] := (hS.kept.block G (by omega) (hng G (by omega) (by omega))).trans HCP.out
        have g2 : wr.cell? ⟨G, 2, none⟩ = some (.int .i64 1) := hcq.cell 2
        have hsz := hS.kept.size
        by_cases hlt : k < 40
        · have hS2 := (hS.alloc rfl (by omega) (.cells #[.int .i64 (-1001), .int .i64 0] 49)).alloc rfl (by omega) (.cells #[.int .i64 (-1001), .int .i64 0] 49)
          have HCN := Lib.hid (cells_new (wr.alloc (.cells #[.int .i64 (-1001), .int .i64 0] 49)) #[.int .i64 (-1001), .int .i64 0] 49)
          have hrs : (wr.alloc (.cells #[.int .i64 (-1001), .int .i64 0] 49)).heap.size = wr.heap.size + 1 := by simp
          rw [hrs] at HCN
          have HS2 := Lib.hid hS2
          have HRS := Lib.hid hrs
          clear hS2 hrs
          go_wp2_with fail
          refine (markRange_any 1 (by omega) _).mono ?_
          rintro e w' ⟨rfl, rfl⟩
          go_wp2_with (at_builtin; refine wpList_append_elder _ rfl (.tmp 28) (.tmp 32) 23 rfl B 49 i0 (.agg #[.int .i64 0, .int .i64 0]) 2 16 Tryz.underlying23 hi0 hz0 hz1 hz2 rfl (by decide) _ (na + k) _ rfl HS2.out.own ⟨wr.heap.size + 1, 0, none⟩ 1 1 (mk1 1) rfl rfl HCN.out (mk1_one 1) (by unfold maxLen; omega) (by omega) (by simp; omega) ?_; intro v4 w4 hown4 hg4 hat4 he4)
          have hfin := HS2.out.grow rfl (by omega) hA hg4 hown4 hat4 he4
          go_roundw
          case rel => exact ⟨k + 1, by omega, by go_num, hfin⟩
          case measure => simp [intOf]; omega
        · obtain rfl : k = 40 := by omega
          obtain ⟨AL, cL, hL⟩ := own_slice hS.own
          subst hL
          have qb : Blk wr g 41 (bkCells 2 (.slice (some ⟨h0, 0, none⟩) 2 ch)) := (hS.kept.block g (by omega) (hng g (by omega) (by omega))).trans HMT.out.book
          have qh := own_keptX HMT.out.held hS.kept (Nat.le_refl _) (fun e => hng h0 (by omega) (by omega) (by injection e))
          have q7 : wr.cell? ⟨g, 7, none⟩ = some (.slice (some ⟨h0, 0, none⟩) 2 ch) := qb.cell 7
          have ql : wr.cell? ⟨h0, 1, none⟩ = some (.slice none 0 0) := own_cell qh rfl
          have qf := own_frozen qh 1
          have qlo := ownsRow_setCell_other hS.own (a := ⟨h0, 1, none⟩) (fun e => own_own_ne hS.own qh (by decide) h0 e rfl) (.slice AL (na + 40) cL)
          have qb2 := qb.far (p := ⟨h0, 1, none⟩) (by show g ≠ h0; omega) (.slice AL (na + 40) cL)
          have qh2 := own_set qh 1 (.slice AL (na + 40) cL)
          have qr2 := hS.rd.below ((Below.refl g wr).setCell (p := ⟨h0, 1, none⟩) (by show g ≤ h0; omega) (.slice AL (na + 40) cL))
          have qbe : Below B w0 (wr.setCell ⟨h0, 1, none⟩ (.slice AL (na + 40) cL)) := (HMT.out.below.trans (hS.kept.below (by have := hBx; omega) (by omega))).setCell (p := ⟨h0, 1, none⟩) (by show B ≤ h0; omega) _
          have qro : B ≤ (wr.setCell ⟨h0, 1, none⟩ (.slice AL (na + 40) cL)).heap.size := by have := HMT.out.room; simp [World.setCell]; omega
          have qo := own_keptX HMT.out.b hS.kept (Nat.le_refl _) (fun e => hns gx e (HMT.out.b.lt gx e).2 rfl)
          have qo2 := ownsRow_setCell_other qo (a := ⟨h0, 1, none⟩) (fun e => own_own_ne qo qh (by decide) h0 e rfl) (.slice AL (na + 40) cL)
          have qne : ∀ k, (Value.slice Ab nb cb).ownBlock = some k → (Value.slice AL (na + 40) cL).ownBlock ≠ some k := fun k hk e => by
            have hlk := (HMT.out.b.lt k hk).2
            rcases hS.at_ with h1 | h1
            · rw [h1] at e
              exact hns k hk hlk (by injection e with e; exact e.symm)
            · have := h1 k e; omega
          have HS := Lib.hid (show Two3 B g (.slice (some ⟨h0, 0, none⟩) 2 ch) (.slice Ab nb cb) (.slice AL (na + 40) cL) Aa na nb (held1 (.slice Aa na ca) (.slice AL (na + 40) cL) 1 ++ held1 (.slice Ab nb cb) (.slice none 0 0) 2) w0 (wr.setCell ⟨h0, 1, none⟩ (.slice AL (na + 40) cL)) from ⟨qb2, qh2, qlo, qr2, qo2, qne, qbe, qro⟩)
          clear qb2 qh2 qr2 qlo qbe qro qb qh hS
          go_wp2_with fail
          go_roundw
          case rel => exact .inr (.inl ⟨rfl, _, HS.out⟩)
          case measure => simp [intOf]
    · have c7 : wr.cell? ⟨g, 7, none⟩ = some (.slice (some ⟨h0, 0, none⟩) 2 ch) := hT.book.cell 7
      have e0 : wr.cell? ⟨h0, 3, none⟩ = some (.slice Ab nb cb) := own_cell hT.held rfl
      have e1 : wr.cell? ⟨h0, 4, none⟩ = some (.slice none 0 0) := own_cell hT.held rfl
      have e2 : wr.cell? ⟨h0, 5, none⟩ = some (.int .i64 2) := own_cell hT.held rfl
      have hgw := hT.book.lt
      have hhw := (hT.held.lt h0 rfl).2
      obtain ⟨wm, hwm⟩ : ∃ wm, wm = wr.alloc (.cells #[.slice Ab nb cb, .slice none 0 0, .int .i64 2] 64) := ⟨_, rfl⟩
      obtain ⟨G, hG⟩ : ∃ G, G = wr.heap.size := ⟨_, rfl⟩
      have hms : wm.heap.size = G + 1 := by rw [hwm, hG]; simp
      have hgG : g < G := by omega
      have hhG : h0 < G := by omega
      have mT : Two3 B g (.slice (some ⟨h0, 0, none⟩) 2 ch) (.slice Ab nb cb) la Aa na nb (held1 (.slice Aa na ca) la 1 ++ held1 (.slice Ab nb cb) (.slice none 0 0) 2) w0 wm := by
        rw [hwm]
        exact ⟨hT.book.alloc _, hT.held.alloc _, hT.gla.alloc _, hT.a.below ((Below.refl _ _).alloc (by omega) _), hT.b.alloc _, hT.ne, hT.below.alloc hT.room _, by have := hT.room; simp; omega⟩
      have hcp : Blk wm G 64 #[.slice Ab nb cb, .slice none 0 0, .int .i64 2] := by rw [hwm, hG]; exact Blk.new _ _ _
      obtain ⟨gx, hat, hA, hng, hns, hno⟩ := grow_place mT.b HAP.out.symm
      have hg0 : GSt wm.heap.size gx Ab nb 2 g 0 B (.slice Ab nb cb) wm wm := ⟨KeptX.refl _ _ _, mT.b, hat, by
        have hr := Reads.of_own mT.b
        refine ⟨hr.1, fun hn => ?_⟩
        obtain ⟨ad, e, _, hc⟩ := hr.2 hn
        obtain rfl := hA ad e hn
        exact ⟨_, e, HAP.out.symm.lta gx (by rw [e]; rfl), hc⟩⟩
      have hBx : B ≤ gx := by
        have hro := mT.b
        rcases hat with h1 | h1
        · exact own_ge hro gx h1
        · exact Nat.le_of_not_lt fun hl => hno gx (by have := mT.room; omega) (fun e => by have := own_ge hro gx e; omega) rfl
      have HWM := Lib.hid hwm
      have HG := Lib.hid hG
      have HG0 := Lib.hid hg0
      have HMT := Lib.hid mT
      have HCP := Lib.hid hcp
      clear hwm hG hg0 mT hT hat hcp
      go_wp2_with fail
      rw [← HWM.out, ← HG.out]
      go_loopw [4, 5] (fun l x wq => ∃ k : Nat, k ≤ 40 ∧ x = .int .i64 k ∧ GSt wm.heap.size gx Ab nb 2 g k B l wm wq) (fun _ x _ => 40 - (intOf x).toNat)
      case atStart => exact ⟨0, Nat.zero_le _, rfl, HG0.out⟩
      case round =>
        obtain ⟨k, hk, rfl, hS⟩ := hrel
        have hcq : Blk wr G 64 #[.slice Ab nb cb, .slice none 0 0, .int .i64 2] := (hS.kept.block G (by omega) (hng G (by omega) (by omega))).trans HCP.out
        have g2 : wr.cell? ⟨G, 2, none⟩ = some (.int .i64 2) := hcq.cell 2
        have hsz := hS.kept.size
        by_cases hlt : k < 40
        · have hS2 := (hS.alloc rfl (by omega) (.cells #[.int .i64 (-1002), .int .i64 0] 49)).alloc rfl (by omega) (.cells #[.int .i64 (-1002), .int .i64 0] 49)
          have HCN := Lib.hid (cells_new (wr.alloc (.cells #[.int .i64 (-1002), .int .i64 0] 49)) #[.int .i64 (-1002), .int .i64 0] 49)
          have hrs : (wr.alloc (.cells #[.int .i64 (-1002), .int .i64 0] 49)).heap.size = wr.heap.size + 1 := by simp
          rw [hrs] at HCN
          have HS2 := Lib.hid hS2
          have HRS := Lib.hid hrs
          clear hS2 hrs
          go_wp2_with fail
          refine (markRange_any 2 (by omega) _).mono ?_
          rintro e w' ⟨rfl, rfl⟩
          go_wp2_with (at_builtin; refine wpList_append_elder _ rfl (.tmp 28) (.tmp 32) 23 rfl B 49 i0 (.agg #[.int .i64 0, .int .i64 0]) 2 16 Tryz.underlying23 hi0 hz0 hz1 hz2 rfl (by decide) _ (nb + k) _ rfl HS2.out.own ⟨wr.heap.size + 1, 0, none⟩ 1 1 (mk1 2) rfl rfl HCN.out (mk1_one 2) (by unfold maxLen; omega) (by omega) (by simp; omega) ?_; intro v4 w4 hown4 hg4 hat4 he4)
          have hfin := HS2.out.grow rfl (by omega) hA hg4 hown4 hat4 he4
          go_roundw
          case rel => exact ⟨k + 1, by omega, by go_num, hfin⟩
          case measure => simp [intOf]; omega
        · obtain rfl : k = 40 := by omega
          obtain ⟨AL, cL, hL⟩ := own_slice hS.own
          subst hL
          have qb : Blk wr g 41 (bkCells 2 (.slice (some ⟨h0, 0, none⟩) 2 ch)) := (hS.kept.block g (by omega) (hng g (by omega) (by omega))).trans HMT.out.book
          have qh := own_keptX HMT.out.held hS.kept (Nat.le_refl _) (fun e => hng h0 (by omega) (by omega) (by injection e))
          have q7 : wr.cell? ⟨g, 7, none⟩ = some (.slice (some ⟨h0, 0, none⟩) 2 ch) := qb.cell 7
          have ql : wr.cell? ⟨h0, 4, none⟩ = some (.slice none 0 0) := own_cell qh rfl
          have qf := own_frozen qh 4
          have qlo := ownsRow_setCell_other hS.own (a := ⟨h0, 4, none⟩) (fun e => own_own_ne hS.own qh (by decide) h0 e rfl) (.slice AL (nb + 40) cL)
          have qb2 := qb.far (p := ⟨h0, 4, none⟩) (by show g ≠ h0; omega) (.slice AL (nb + 40) cL)
          have qh2 := own_set qh 4 (.slice AL (nb + 40) cL)
          have qr2 := hS.rd.below ((Below.refl g wr).setCell (p := ⟨h0, 4, none⟩) (by show g ≤ h0; omega) (.slice AL (nb + 40) cL))
          have qbe : Below B w0 (wr.setCell ⟨h0, 4, none⟩ (.slice AL (nb + 40) cL)) := (HMT.out.below.trans (hS.kept.below (by have := hBx; omega) (by omega))).setCell (p := ⟨h0, 4, none⟩) (by show B ≤ h0; omega) _
          have qro : B ≤ (wr.setCell ⟨h0, 4, none⟩ (.slice AL (nb + 40) cL)).heap.size := by have := HMT.out.room; simp [World.setCell]; omega
          have qo := own_keptX HMT.out.gla hS.kept (Nat.le_refl _) (fun e => hno gx (HMT.out.gla.lt gx e).2 (fun e2 => HMT.out.ne gx e2 e) rfl)
          have qo2 := ownsRow_setCell_other qo (a := ⟨h0, 4, none⟩) (fun e => own_own_ne qo qh (by decide) h0 e rfl) (.slice AL (nb + 40) cL)
          have qra := reads_keptX HMT.out.a hS.kept (by omega) (fun ad e hn => hns ad.block (by rw [e]; rfl) (by have := HAP.out.lta ad.block (by rw [e]; rfl); omega))
          have qra2 := qra.below ((Below.refl g wr).setCell (p := ⟨h0, 4, none⟩) (by show g ≤ h0; omega) (.slice AL (nb + 40) cL))
          have HS := Lib.hid (show Two4 B g (.slice (some ⟨h0, 0, none⟩) 2 ch) la (.slice AL (nb + 40) cL) Aa Ab na nb (held1 (.slice Aa na ca) la 1 ++ held1 (.slice Ab nb cb) (.slice AL (nb + 40) cL) 2) w0 (wr.setCell ⟨h0, 4, none⟩ (.slice AL (nb + 40) cL)) from ⟨qb2, qh2, qo2, qra2, qlo, qr2, qbe, qro⟩)
          clear qb2 qh2 qr2 qlo qbe qro qb qh hS
          go_wp2_with fail
          go_roundw
          case rel => exact .inr (.inr ⟨rfl, _, _, HS.out⟩)
          case measure => simp [intOf]
    · have c7 : wr.cell? ⟨g, 7, none⟩ = some (.slice (some ⟨h0, 0, none⟩) 2 ch) := hT.book.cell 7
      go_wp2_with fail
      exact bodyPost_end (results_none rfl _ _ _) rfl ⟨rfl, la, lb, hT⟩
end Go.Proofs.YtgibhlpocmppjaaGreatDoor
