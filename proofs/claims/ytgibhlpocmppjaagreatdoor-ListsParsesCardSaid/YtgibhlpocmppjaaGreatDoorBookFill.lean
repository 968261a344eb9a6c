/-
  toolchestlaw01's Book.fillRange, of two lists: its contract.
-/
import Derived.Test.YtgibhlpocmppjaaGreatDoorBookKeep
import Derived.Deep.RegionLaw
namespace Go.Proofs.YtgibhlpocmppjaaGreatDoor
open Go.RowKit

/-- Within a walk over a Book's lists: the Book, its list of lists, the copy that is read, the list in hand, the other one. -/
structure FState (B g G : Nat) (rv vr vs : Value) (nr ns : Nat) (rc xr xs : List Value) (hc : Array Value) (w0 wq : World) : Prop where
  book : Blk wq g 41 (bkCells 2 rv)
  held : wq.ownsRow (g + 1) 64 3 rv 2 rc
  copy : Blk wq G 64 hc
  own : wq.ownsRow B 49 2 vr nr xr
  oth : wq.ownsRow B 49 2 vs ns xs
  below : Below B w0 wq
  room : B ≤ wq.heap.size
section
variable {B g G nr ns : Nat} {rv vr vs : Value} {rc xr xs : List Value} {hc : Array Value} {w0 wq : World}
theorem FState.drew (h : FState B g G rv vr vs nr ns rc xr xs hc w0 wq) : FState B g G rv vr vs nr ns rc xr xs hc w0 wq.drew :=
  ⟨h.book.drew, h.held, h.copy.drew, h.own, h.oth, below_drewN h.below 1, h.room⟩
theorem FState.alloc (h : FState B g G rv vr vs nr ns rc xr xs hc w0 wq) (ob : Obj) : FState B g G rv vr vs nr ns rc xr xs hc w0 (wq.alloc ob) :=
  ⟨h.book.alloc _, h.held.alloc _, h.copy.alloc _, h.own.alloc _, h.oth.alloc _, h.below.alloc h.room _, by have := h.room; simp; omega⟩
theorem FState.set {ga cr : Nat} (h : FState B g G rv (.slice (some ⟨ga, 0, none⟩) nr cr) vs nr ns rc xr xs hc w0 wq) (hg : ga < g) (hG : ga ≠ G) (hs : vs.ownBlock ≠ some ga) (hB : B ≤ ga) (k : Nat) (u : Value) :
    FState B g G rv (.slice (some ⟨ga, 0, none⟩) nr cr) vs nr ns rc (xr.set k u) xs hc w0 (wq.setCell ⟨ga, k, none⟩ u) :=
  ⟨h.book.far (p := ⟨ga, k, none⟩) (by show g ≠ ga; omega) _, ownsRow_setCell_below h.held (a := ⟨ga, k, none⟩) (by show ga < g + 1; omega) _, h.copy.far (p := ⟨ga, k, none⟩) (by show G ≠ ga; exact fun e => hG e.symm) _, own_set h.own k u,
    ownsRow_setCell_other h.oth (a := ⟨ga, k, none⟩) hs _, h.below.setCell (p := ⟨ga, k, none⟩) hB _, by have := h.room; simpa [World.setCell] using this⟩
end
/-- A Book of two lists, their contents. -/
structure Two2 (B g : Nat) (rv va vb : Value) (na nb : Nat) (rc xa xb : List Value) (w0 wq : World) : Prop where
  book : Blk wq g 41 (bkCells 2 rv)
  held : wq.ownsRow (g + 1) 64 3 rv 2 rc
  a : wq.ownsRow B 49 2 va na xa
  b : wq.ownsRow B 49 2 vb nb xb
  below : Below B w0 wq
  room : B ≤ wq.heap.size
def XA (K n : Nat) (xs : List Value) (c i : Nat) : List Value := if c < i then rep K n else xs
/-- What is fixed of the two lists: they lie below the Book, apart from each other. -/
structure Apart2 (g : Nat) (va vb : Value) : Prop where
  lta : ∀ k, va.ownBlock = some k → k < g
  ltb : ∀ k, vb.ownBlock = some k → k < g
  ne : ∀ k, va.ownBlock = some k → vb.ownBlock ≠ some k
theorem Apart2.symm {g : Nat} {va vb : Value} (h : Apart2 g va vb) : Apart2 g vb va := ⟨h.ltb, h.lta, fun k hk e => h.ne k e hk⟩

set_option maxRecDepth 100000 in
set_option maxHeartbeats 4000000 in
theorem fillRange_two (B g na nb ca cb : Nat) (rv : Value) (Aa Ab : Option Addr) (xa xb : List Value) (w0 w : World) (hna : na ≤ 1000000) (hnb : nb ≤ 1000000) (hap : Apart2 g (.slice Aa na ca) (.slice Ab nb cb))
    (h : Two2 B g rv (.slice Aa na ca) (.slice Ab nb cb) na nb (held1 (.slice Aa na ca) (.slice none 0 0) 1 ++ held1 (.slice Ab nb cb) (.slice none 0 0) 2) xa xb w0 w) :
    Calls Tryz.prog 20 #[.pointer (some ⟨g, 0, none⟩)] w fun e w' => e = .returned (.tuple #[]) ∧
      Two2 B g rv (.slice Aa na ca) (.slice Ab nb cb) na nb (held1 (.slice Aa na ca) (.slice none 0 0) 1 ++ held1 (.slice Ab nb cb) (.slice none 0 0) 2) (rep 1 na) (rep 2 nb) w0 w' := by
  obtain ⟨h0, ch, hrv⟩ := own_head h.held (by omega)
  subst hrv
  obtain ⟨rc, hrc⟩ : ∃ rc, rc = held1 (.slice Aa na ca) (.slice none 0 0) 1 ++ held1 (.slice Ab nb cb) (.slice none 0 0) 2 := ⟨_, rfl⟩
  rw [← hrc] at h ⊢
  have HRC := Lib.hid hrc
  have HAP := Lib.hid hap
  have hla := h.a.1
  have hlb := h.b.1
  clear hrc hap
  go_enter Tryz.func20, Tryz.ntmps20
  go_wp2_with fail
  go_loopw [2] (fun i wr => ∃ q : Nat, (q = 0 ∧ i = .int .i64 0 ∨ q = 1 ∧ i = .int .i64 1 ∨ q = 2 ∧ i = .int .i64 2) ∧ Two2 B g (.slice (some ⟨h0, 0, none⟩) 2 ch) (.slice Aa na ca) (.slice Ab nb cb) na nb rc (XA 1 na xa 0 q) (XA 2 nb xb 1 q) w0 wr) (fun i _ => 2 - (intOf i).toNat)
  case atStart => exact ⟨0, .inl ⟨rfl, rfl⟩, h⟩
  case round =>
    obtain ⟨q, hq, hT⟩ := hrel
    have c7 : wr.cell? ⟨g, 7, none⟩ = some (.slice (some ⟨h0, 0, none⟩) 2 ch) := hT.book.cell 7
    rcases hq with ⟨rfl, rfl⟩ | ⟨rfl, rfl⟩ | ⟨rfl, rfl⟩
    · have e0 : wr.cell? ⟨h0, 0, none⟩ = some (.slice Aa na ca) := own_cell hT.held (by rw [HRC.out]; rfl)
      have e1 : wr.cell? ⟨h0, 1, none⟩ = some (.slice none 0 0) := own_cell hT.held (by rw [HRC.out]; rfl)
      have e2 : wr.cell? ⟨h0, 2, none⟩ = some (.int .i64 1) := own_cell hT.held (by rw [HRC.out]; rfl)
      obtain ⟨G, hG⟩ : ∃ G, G = wr.heap.size := ⟨_, rfl⟩
      obtain ⟨wm, hwm⟩ : ∃ wm, wm = wr.alloc (.cells #[.slice Aa na ca, .slice none 0 0, .int .i64 1] 64) := ⟨_, rfl⟩
      have hF : FState B g G (.slice (some ⟨h0, 0, none⟩) 2 ch) (.slice Aa na ca) (.slice Ab nb cb) na nb rc xa xb #[.slice Aa na ca, .slice none 0 0, .int .i64 1] w0 wm := by
        rw [hwm, hG]
        exact ⟨hT.book.alloc _, hT.held.alloc _, Blk.new _ _ _, hT.a.alloc _, hT.b.alloc _, hT.below.alloc hT.room _, by have := hT.room; simp; omega⟩
      have hGg : g < G := by rw [hG]; exact hT.book.lt
      have HF := Lib.hid hF
      have HWM := Lib.hid hwm
      have HG := Lib.hid hG
      clear hF hwm hG hT
      go_wp2_with fail
      rw [← HWM.out, ← HG.out]
      go_loopw [4] (fun x wq => ∃ k : Nat, k ≤ na ∧ x = .int .i64 k ∧ FState B g G (.slice (some ⟨h0, 0, none⟩) 2 ch) (.slice Aa na ca) (.slice Ab nb cb) na nb rc (fl 1 k xa) xb #[.slice Aa na ca, .slice none 0 0, .int .i64 1] w0 wq) (fun x _ => na - (intOf x).toNat)
      case atStart => exact ⟨0, Nat.zero_le _, rfl, by rw [fl_zero]; exact HF.out⟩
      case round =>
        obtain ⟨k, hk, rfl, hF⟩ := hrel
        have g0 : wr.cell? ⟨G, 0, none⟩ = some (.slice Aa na ca) := hF.copy.cell 0
        have g2 : wr.cell? ⟨G, 2, none⟩ = some (.int .i64 1) := hF.copy.cell 2
        by_cases hlt : k < na
        · obtain ⟨ga, cg, hv⟩ := own_head hF.own (by omega)
          injection hv with hA _ hcc
          subst hA hcc
          have hgl := HAP.out.lta ga rfl
          have hdis := HAP.out.ne ga rfl
          have hBa := own_ge hF.own ga rfl
          obtain ⟨u0, hu0⟩ := fl_at 1 k na xa hla hlt 0 (by omega)
          obtain ⟨u1, hu1⟩ := fl_at 1 k na xa hla hlt 1 (by omega)
          have d0 : (wr.alloc (.cells #[.int .i64 (-1001), .int .i64 0] 49)).cell? ⟨ga, k * 2, none⟩ = some u0 := own_cell (hF.alloc (.cells #[.int .i64 (-1001), .int .i64 0] 49)).own hu0
          have d1 := own_cell (hF.alloc (.cells #[.int .i64 (-1001), .int .i64 0] 49)).own hu1
          have f0 := own_frozen (hF.alloc (.cells #[.int .i64 (-1001), .int .i64 0] 49)).own (k * 2)
          have f1 := own_frozen (hF.alloc (.cells #[.int .i64 (-1001), .int .i64 0] 49)).own (k * 2 + 1)
          have k0 : (wr.alloc (.cells #[.int .i64 (-1001), .int .i64 0] 49)).cell? ⟨G, 0, none⟩ = some (.slice (some ⟨ga, 0, none⟩) na ca) := (hF.alloc _).copy.cell 0
          have k2 : (wr.alloc (.cells #[.int .i64 (-1001), .int .i64 0] 49)).cell? ⟨G, 2, none⟩ = some (.int .i64 1) := (hF.alloc _).copy.cell 2
          have hlt2 : (k : Int) < (na : Int) := by omega
          have HF2 := Lib.hid (((hF.alloc (.cells #[.int .i64 (-1001), .int .i64 0] 49)).set hgl (by omega) hdis hBa (k * 2) (.int .i64 (-1001))).set hgl (by omega) hdis hBa (k * 2 + 1) (.int .i64 0))
          clear hu0 hu1 hF
          go_wp2_with fail
          go_region_law ((go_simp; refine (markRange_any 1 (by omega) _).mono ?_; rintro e w' ⟨rfl, rfl⟩))
          all_goals
            go_wp2_with fail
            go_roundw
            case rel => exact ⟨k + 1, by omega, by go_num, by rw [← fl_next 1 k na xa hla hlt]; exact HF2.out.drew⟩
            case measure => simp [intOf]; omega
        · obtain rfl : na = k := by omega
          have HT2 := Lib.hid (show Two2 B g (.slice (some ⟨h0, 0, none⟩) 2 ch) (.slice Aa na ca) (.slice Ab nb cb) na nb rc (XA 1 na xa 0 1) (XA 2 nb xb 1 1) w0 wr from by
            have h1 := hF.own
            rw [fl_end _ _ _ hla] at h1
            exact ⟨hF.book, hF.held, h1, hF.oth, hF.below, hF.room⟩)
          clear hF
          go_wp2_with fail
          go_roundw
          case rel => exact ⟨1, .inr (.inl ⟨rfl, rfl⟩), HT2.out⟩
          case measure => simp [intOf]
    · have e0 : wr.cell? ⟨h0, 3, none⟩ = some (.slice Ab nb cb) := own_cell hT.held (by rw [HRC.out]; rfl)
      have e1 : wr.cell? ⟨h0, 4, none⟩ = some (.slice none 0 0) := own_cell hT.held (by rw [HRC.out]; rfl)
      have e2 : wr.cell? ⟨h0, 5, none⟩ = some (.int .i64 2) := own_cell hT.held (by rw [HRC.out]; rfl)
      obtain ⟨G, hG⟩ : ∃ G, G = wr.heap.size := ⟨_, rfl⟩
      obtain ⟨wm, hwm⟩ : ∃ wm, wm = wr.alloc (.cells #[.slice Ab nb cb, .slice none 0 0, .int .i64 2] 64) := ⟨_, rfl⟩
      have hF : FState B g G (.slice (some ⟨h0, 0, none⟩) 2 ch) (.slice Ab nb cb) (.slice Aa na ca) nb na rc xb (rep 1 na) #[.slice Ab nb cb, .slice none 0 0, .int .i64 2] w0 wm := by
        rw [hwm, hG]
        exact ⟨hT.book.alloc _, hT.held.alloc _, Blk.new _ _ _, hT.b.alloc _, hT.a.alloc _, hT.below.alloc hT.room _, by have := hT.room; simp; omega⟩
      have hGg : g < G := by rw [hG]; exact hT.book.lt
      have HF := Lib.hid hF
      have HWM := Lib.hid hwm
      have HG := Lib.hid hG
      clear hF hwm hG hT
      go_wp2_with fail
      rw [← HWM.out, ← HG.out]
      go_loopw [4] (fun x wq => ∃ k : Nat, k ≤ nb ∧ x = .int .i64 k ∧ FState B g G (.slice (some ⟨h0, 0, none⟩) 2 ch) (.slice Ab nb cb) (.slice Aa na ca) nb na rc (fl 2 k xb) (rep 1 na) #[.slice Ab nb cb, .slice none 0 0, .int .i64 2] w0 wq) (fun x _ => nb - (intOf x).toNat)
      case atStart => exact ⟨0, Nat.zero_le _, rfl, by rw [fl_zero]; exact HF.out⟩
      case round =>
        obtain ⟨k, hk, rfl, hF⟩ := hrel
        have g0 : wr.cell? ⟨G, 0, none⟩ = some (.slice Ab nb cb) := hF.copy.cell 0
        have g2 : wr.cell? ⟨G, 2, none⟩ = some (.int .i64 2) := hF.copy.cell 2
        by_cases hlt : k < nb
        · obtain ⟨ga, cg, hv⟩ := own_head hF.own (by omega)
          injection hv with hA _ hcc
          subst hA hcc
          have hgl := HAP.out.ltb ga rfl
          have hdis := HAP.out.symm.ne ga rfl
          have hBa := own_ge hF.own ga rfl
          obtain ⟨u0, hu0⟩ := fl_at 2 k nb xb hlb hlt 0 (by omega)
          obtain ⟨u1, hu1⟩ := fl_at 2 k nb xb hlb hlt 1 (by omega)
          have d0 : (wr.alloc (.cells #[.int .i64 (-1002), .int .i64 0] 49)).cell? ⟨ga, k * 2, none⟩ = some u0 := own_cell (hF.alloc (.cells #[.int .i64 (-1002), .int .i64 0] 49)).own hu0
          have d1 := own_cell (hF.alloc (.cells #[.int .i64 (-1002), .int .i64 0] 49)).own hu1
          have f0 := own_frozen (hF.alloc (.cells #[.int .i64 (-1002), .int .i64 0] 49)).own (k * 2)
          have f1 := own_frozen (hF.alloc (.cells #[.int .i64 (-1002), .int .i64 0] 49)).own (k * 2 + 1)
          have k0 : (wr.alloc (.cells #[.int .i64 (-1002), .int .i64 0] 49)).cell? ⟨G, 0, none⟩ = some (.slice (some ⟨ga, 0, none⟩) nb cb) := (hF.alloc _).copy.cell 0
          have k2 : (wr.alloc (.cells #[.int .i64 (-1002), .int .i64 0] 49)).cell? ⟨G, 2, none⟩ = some (.int .i64 2) := (hF.alloc _).copy.cell 2
          have hlt2 : (k : Int) < (nb : Int) := by omega
          have HF2 := Lib.hid (((hF.alloc (.cells #[.int .i64 (-1002), .int .i64 0] 49)).set hgl (by omega) hdis hBa (k * 2) (.int .i64 (-1002))).set hgl (by omega) hdis hBa (k * 2 + 1) (.int .i64 0))
          clear hu0 hu1 hF
          go_wp2_with fail
          go_region_law ((go_simp; refine (markRange_any 2 (by omega) _).mono ?_; rintro e w' ⟨rfl, rfl⟩))
          all_goals
            go_wp2_with fail
            go_roundw
            case rel => exact ⟨k + 1, by omega, by go_num, by rw [← fl_next 2 k nb xb hlb hlt]; exact HF2.out.drew⟩
            case measure => simp [intOf]; omega
        · obtain rfl : nb = k := by omega
          have HT2 := Lib.hid (show Two2 B g (.slice (some ⟨h0, 0, none⟩) 2 ch) (.slice Aa na ca) (.slice Ab nb cb) na nb rc (XA 1 na xa 0 2) (XA 2 nb xb 1 2) w0 wr from by
            have h1 := hF.own
            rw [fl_end _ _ _ hlb] at h1
            exact ⟨hF.book, hF.held, hF.oth, h1, hF.below, hF.room⟩)
          clear hF
          go_wp2_with fail
          go_roundw
          case rel => exact ⟨2, .inr (.inr ⟨rfl, rfl⟩), HT2.out⟩
          case measure => simp [intOf]
    · go_wp2_with fail
      exact bodyPost_end (results_none rfl _ _ _) rfl ⟨rfl, hT⟩
end Go.Proofs.YtgibhlpocmppjaaGreatDoor
