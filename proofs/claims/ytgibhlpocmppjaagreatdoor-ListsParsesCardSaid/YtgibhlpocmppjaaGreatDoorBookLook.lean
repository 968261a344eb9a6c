/-
  toolchestlaw01's Book.lookRange, of two lists: its contract.
-/
import Derived.Test.YtgibhlpocmppjaaGreatDoorBookGrow
import Derived.Shelf.SlSortCmp.QuietGrown
namespace Go.Proofs.YtgibhlpocmppjaaGreatDoor
open Go.RowKit Go.Sort

theorem look_chain {w w1 w' : World} (k : Below w1.heap.size w1 w') (h : Below w.heap.size w w1) : Below w.heap.size w w' := below_then h h.size k
/-- A region that draws and whose callees make blocks of their own, walked in the order of the text; its guards are the kernel's to read. -/
structure QSt (P : Program) (ops : Array Oper) (C : World → Prop) (Q : Act → Prop) (l : List Oper) (a : Act) : Prop where
  h : wpQuiet P ops C Q l a
section
variable {P : Program} {ops : Array Oper} {C : World → Prop} {Q : Act → Prop} {a : Act} {o : Oper} {rest : List Oper}
theorem QSt.skip (hw : Region.wanted o (yielded ops a.tmps) = false) (h : QSt P ops C Q rest (a.put o.dst undef)) : QSt P ops C Q (o :: rest) a := ⟨wpQuiet_step fun K hK => by rw [if_neg (by rw [hw]; exact Bool.false_ne_true)]; exact hK _ h.h⟩
theorem QSt.want (hw : Region.wanted o (yielded ops a.tmps) = true) (h : ∀ K : Act → Prop, (∀ a, QSt P ops C Q rest a → K a) → o.quiet P a C K) : QSt P ops C Q (o :: rest) a :=
  ⟨wpQuiet_step fun K hK => by rw [if_pos hw]; exact h K fun a ha => hK a ha.h⟩
theorem QSt.nil (h : Q a) : QSt P ops C Q [] a := ⟨h⟩
end
theorem wp_region_qst {P : Program} {id : Nat} {Q : Exit → Act → World → Prop} {a : Act} {w : World} {l : List Oper} (hm : P.follows .mixedOrders = true) (hB : Region.lexB .any l.toArray = true)
    (h : QSt P l.toArray (fun w' => ∃ p : GrownBy, w' = grow (w.drewN p.n) p.os) (fun a' => ∀ w', (∃ p : GrownBy, w' = grow (w.drewN p.n) p.os) → Q .normal a' w') l a) : (Code.region id l.toArray true).wp P Q a w :=
  wp_region_quiet_grown hm hB h.h
theorem isRange_grown (K : Nat) (hK : K ≤ 1000000) (x : Int) (w : World) (n : Nat) (os : Array Obj) :
    Calls Tryz.prog 72 #[.agg #[.int .i64 (-1000 - (K : Int)), .int .i64 x], .int .i64 (K : Int)] (grow (w.drewN n) os) fun e w'' => e = .returned (.bool true) ∧ ∃ p : GrownBy, w'' = grow (w.drewN p.n) p.os :=
  Calls.grown_of ((isRange_yes K hK x _).mono fun e w' h => ⟨h.1, 0, #[.cells #[.int .i64 (-1000 - (K : Int)), .int .i64 x] 49], by rw [h.2, alloc_eq_grow]; rfl⟩)
theorem grown_below (w : World) (n : Nat) (os : Array Obj) : Below w.heap.size w (grow (w.drewN n) os) :=
  ⟨rfl, rfl, rfl, by show w.heap.size ≤ (w.heap ++ os).size; simp, fun k hk => by show (w.heap ++ os)[k]? = _; rw [Array.getElem?_append_left hk]⟩

set_option maxRecDepth 100000 in
set_option maxHeartbeats 4000000 in
theorem lookRange_two (B g na nb ca cb : Nat) (rv la lb : Value) (Aa Ab : Option Addr) (w0 w : World) (hna : na ≤ 1000000) (hnb : nb ≤ 1000000)
    (h : Two4 B g rv la lb Aa Ab na nb (held1 (.slice Aa na ca) la 1 ++ held1 (.slice Ab nb cb) lb 2) w0 w) :
    Calls Tryz.prog 44 #[.pointer (some ⟨g, 0, none⟩)] w fun e w' => e = .returned (.bool true) ∧ Below w.heap.size w w' := by
  obtain ⟨h0, ch, hrv⟩ := own_head h.held (by omega)
  subst hrv
  obtain ⟨ga, ka, hla⟩ := own_head h.gla (by omega)
  subst hla
  obtain ⟨gb, kb, hlb⟩ := own_head h.glb (by omega)
  subst hlb
  have hgw := h.book.lt
  have hhw := (h.held.lt h0 rfl).2
  have hgaw := (h.gla.lt ga rfl).2
  have hgbw := (h.glb.lt gb rfl).2
  have HH := Lib.hid h
  clear h
  go_enter Tryz.func44, Tryz.ntmps44
  go_wp2_with fail
  go_loopw [3] (fun i wr => (i = .int .i64 0 ∨ i = .int .i64 1 ∨ i = .int .i64 2) ∧ Below w.heap.size w wr) (fun i _ => 2 - (intOf i).toNat)
  case atStart => exact ⟨.inl rfl, Below.refl _ _⟩
  case round =>
    obtain ⟨hi, hB⟩ := hrel
    have c7 : wr.cell? ⟨g, 7, none⟩ = some (.slice (some ⟨h0, 0, none⟩) 2 ch) := (hB.cell (p := ⟨g, 7, none⟩) hgw).trans (HH.out.book.cell 7)
    rcases hi with rfl | rfl | rfl
    · have e0 : wr.cell? ⟨h0, 0, none⟩ = some (.slice Aa na ca) := (hB.cell (p := ⟨h0, 0, none⟩) hhw).trans (own_cell HH.out.held rfl)
      have e1 : wr.cell? ⟨h0, 1, none⟩ = some (.slice (some ⟨ga, 0, none⟩) (na + 40) ka) := (hB.cell (p := ⟨h0, 1, none⟩) hhw).trans (own_cell HH.out.held rfl)
      have e2 : wr.cell? ⟨h0, 2, none⟩ = some (.int .i64 1) := (hB.cell (p := ⟨h0, 2, none⟩) hhw).trans (own_cell HH.out.held rfl)
      obtain ⟨wm, hwm⟩ : ∃ wm, wm = wr.alloc (.cells #[.slice Aa na ca, (.slice (some ⟨ga, 0, none⟩) (na + 40) ka), .int .i64 1] 64) := ⟨_, rfl⟩
      obtain ⟨G, hG⟩ : ∃ G, G = wr.heap.size := ⟨_, rfl⟩
      have hms : wm.heap.size = G + 1 := by rw [hwm, hG]; simp
      have hcp : Blk wm G 64 #[.slice Aa na ca, (.slice (some ⟨ga, 0, none⟩) (na + 40) ka), .int .i64 1] := by rw [hwm, hG]; exact Blk.new _ _ _
      have hBm : Below w.heap.size w wm := by rw [hwm]; exact hB.alloc hB.size _
      have hws := hBm.size
      have HWM := Lib.hid hwm
      have HG := Lib.hid hG
      have HCP := Lib.hid hcp
      have HBM := Lib.hid hBm
      clear hwm hG hcp hB hBm
      go_wp2_with fail
      rw [← HWM.out, ← HG.out]
      go_loopw [5] (fun x wq => ∃ k : Nat, k ≤ na + 40 ∧ x = .int .i64 k ∧ Below wm.heap.size wm wq) (fun x _ => na + 40 - (intOf x).toNat)
      case atStart => exact ⟨0, Nat.zero_le _, rfl, Below.refl _ _⟩
      case round =>
        obtain ⟨k, hk, rfl, hBq⟩ := hrel
        have hBwq := below_then HBM.out (by omega) hBq
        have hsq := hBq.size
        have g0 : wr.cell? ⟨G, 0, none⟩ = some (.slice Aa na ca) := (hBq.cell (p := ⟨G, 0, none⟩) (by show G < _; omega)).trans (HCP.out.cell 0)
        have g1 : wr.cell? ⟨G, 1, none⟩ = some (.slice (some ⟨ga, 0, none⟩) (na + 40) ka) := (hBq.cell (p := ⟨G, 1, none⟩) (by show G < _; omega)).trans (HCP.out.cell 1)
        have g2 : wr.cell? ⟨G, 2, none⟩ = some (.int .i64 1) := (hBq.cell (p := ⟨G, 2, none⟩) (by show G < _; omega)).trans (HCP.out.cell 2)
        have HBQ := Lib.hid hBq
        have HBWQ := Lib.hid hBwq
        clear hBq hBwq
        by_cases hlt : k < na + 40
        · have l0 : wr.cell? ⟨ga, k * 2, none⟩ = some (.int .i64 (-1001)) := (HBWQ.out.cell (p := ⟨ga, k * 2, none⟩) (by show ga < _; omega)).trans (own_cell HH.out.gla (rep_get 1 (na + 40) k hlt 0 (by omega)))
          have l1 : wr.cell? ⟨ga, k * 2 + 1, none⟩ = some (.int .i64 0) := (HBWQ.out.cell (p := ⟨ga, k * 2 + 1, none⟩) (by show ga < _; omega)).trans (own_cell HH.out.gla (rep_get 1 (na + 40) k hlt 1 (by omega)))
          have hltI : (k : Int) < (na : Int) + 40 := by omega
          by_cases hkn : k < na
          · obtain ⟨ad, rfl, had, hce⟩ := Reads.elem (f := fun _ : Unit => mk1 1) (l := List.replicate na ()) (mk1_len 1) HH.out.a hkn (by simp) (by omega)
            have y0 := (HBWQ.out.cell (p := ad.add (k * 2)) (by rw [add_blk]; omega)).trans (hce.1 _ rfl)
            have y1 := (HBWQ.out.cell (p := ⟨(ad.add (k * 2)).block, (ad.add (k * 2)).off + 1, none⟩) (by show (ad.add (k * 2)).block < _; rw [add_blk]; omega)).trans (hce.2 0 _ rfl)
            have z0 : (ad.add (k * 2)).block < wr.heap.size := by rw [add_blk]; omega
            have hknI : decide ((k : Int) < (na : Int)) = true := decide_eq_true (by omega)
            have zG : G < wr.heap.size := by omega
            have zl : ga < wr.heap.size := by omega
            clear hce
            go_wp2_with fail
            have x0 := cell_grown (a := ⟨G, 0, none⟩) zG g0
            have x1 := cell_grown (a := ⟨G, 1, none⟩) zG g1
            have x2 := cell_grown (a := ⟨G, 2, none⟩) zG g2
            have x3 := cell_grown (a := ⟨ga, k * 2, none⟩) zl l0
            have x4 := cell_grown (a := ⟨ga, k * 2 + 1, none⟩) zl l1
            have x5 := cell_grown (a := ad.add (k * 2)) z0 y0
            have x6 := cell_grown (a := ⟨(ad.add (k * 2)).block, (ad.add (k * 2)).off + 1, none⟩) z0 y1
            refine wp_region_qst (by kernel_rfl) (by kernel_rfl) ?_
            iterate 7 (refine QSt.want (by kernel_rfl) (fun K hK => ?_); go_simp; refine hK _ ?_; clear hK K)
            (refine QSt.want (by kernel_rfl) (fun K hK => ?_); go_simp; apply Exists.intro; refine ⟨fun _ => ?_, hK _ ?_⟩; exact isRange_grown 1 (by omega) 0 _ _ _; clear hK K)
            iterate 15 (refine QSt.want (by kernel_rfl) (fun K hK => ?_); go_simp; refine hK _ ?_; clear hK K)
            (refine QSt.want (by kernel_rfl) (fun K hK => ?_); go_simp; apply Exists.intro; refine ⟨fun _ => ?_, hK _ ?_⟩; exact isRange_grown 1 (by omega) 0 _ _ _; clear hK K)
            iterate 3 (refine QSt.want (by kernel_rfl) (fun K hK => ?_); go_simp; refine hK _ ?_; clear hK K)
            refine QSt.nil ?_
            intro _ hw'
            obtain ⟨⟨nq, osq⟩, hw''⟩ := hw'
            subst hw''
            have hbk := grown_below wr nq osq
            obtain ⟨wz, hwz⟩ : ∃ wz, wz = grow (wr.drewN nq) osq := ⟨_, rfl⟩
            rw [← hwz] at hbk ⊢
            clear hwz
            all_goals
              go_wp2_with fail
              go_roundw
              case rel => exact ⟨k + 1, by omega, by go_num, HBQ.out.trans (hbk.mono hsq)⟩
              case measure => simp [intOf]; omega
          · have hknI : decide ((k : Int) < (na : Int)) = false := decide_eq_false (by omega)
            have zG : G < wr.heap.size := by omega
            have zl : ga < wr.heap.size := by omega
            go_wp2_with fail
            have x0 := cell_grown (a := ⟨G, 0, none⟩) zG g0
            have x1 := cell_grown (a := ⟨G, 1, none⟩) zG g1
            have x2 := cell_grown (a := ⟨G, 2, none⟩) zG g2
            have x3 := cell_grown (a := ⟨ga, k * 2, none⟩) zl l0
            have x4 := cell_grown (a := ⟨ga, k * 2 + 1, none⟩) zl l1
            refine wp_region_qst (by kernel_rfl) (by kernel_rfl) ?_
            iterate 7 (refine QSt.want (by kernel_rfl) (fun K hK => ?_); go_simp; refine hK _ ?_; clear hK K)
            (refine QSt.want (by kernel_rfl) (fun K hK => ?_); go_simp; apply Exists.intro; refine ⟨fun _ => ?_, hK _ ?_⟩; exact isRange_grown 1 (by omega) 0 _ _ _; clear hK K)
            iterate 8 (refine QSt.want (by kernel_rfl) (fun K hK => ?_); go_simp; refine hK _ ?_; clear hK K)
            iterate 9 refine QSt.skip (by kernel_rfl) ?_
            iterate 2 (refine QSt.want (by kernel_rfl) (fun K hK => ?_); go_simp; refine hK _ ?_; clear hK K)
            refine QSt.nil ?_
            intro _ hw'
            obtain ⟨⟨nq, osq⟩, hw''⟩ := hw'
            subst hw''
            have hbk := grown_below wr nq osq
            obtain ⟨wz, hwz⟩ : ∃ wz, wz = grow (wr.drewN nq) osq := ⟨_, rfl⟩
            rw [← hwz] at hbk ⊢
            clear hwz
            all_goals
              go_wp2_with fail
              go_roundw
              case rel => exact ⟨k + 1, by omega, by go_num, HBQ.out.trans (hbk.mono hsq)⟩
              case measure => simp [intOf]; omega
        · obtain rfl : k = na + 40 := by omega
          go_wp2_with fail
          go_roundw
          case rel => exact ⟨.inr (.inl rfl), HBWQ.out⟩
          case measure => simp [intOf]
    · have e0 : wr.cell? ⟨h0, 3, none⟩ = some (.slice Ab nb cb) := (hB.cell (p := ⟨h0, 3, none⟩) hhw).trans (own_cell HH.out.held rfl)
      have e1 : wr.cell? ⟨h0, 4, none⟩ = some (.slice (some ⟨gb, 0, none⟩) (nb + 40) kb) := (hB.cell (p := ⟨h0, 4, none⟩) hhw).trans (own_cell HH.out.held rfl)
      have e2 : wr.cell? ⟨h0, 5, none⟩ = some (.int .i64 2) := (hB.cell (p := ⟨h0, 5, none⟩) hhw).trans (own_cell HH.out.held rfl)
      obtain ⟨wm, hwm⟩ : ∃ wm, wm = wr.alloc (.cells #[.slice Ab nb cb, (.slice (some ⟨gb, 0, none⟩) (nb + 40) kb), .int .i64 2] 64) := ⟨_, rfl⟩
      obtain ⟨G, hG⟩ : ∃ G, G = wr.heap.size := ⟨_, rfl⟩
      have hms : wm.heap.size = G + 1 := by rw [hwm, hG]; simp
      have hcp : Blk wm G 64 #[.slice Ab nb cb, (.slice (some ⟨gb, 0, none⟩) (nb + 40) kb), .int .i64 2] := by rw [hwm, hG]; exact Blk.new _ _ _
      have hBm : Below w.heap.size w wm := by rw [hwm]; exact hB.alloc hB.size _
      have hws := hBm.size
      have HWM := Lib.hid hwm
      have HG := Lib.hid hG
      have HCP := Lib.hid hcp
      have HBM := Lib.hid hBm
      clear hwm hG hcp hB hBm
      go_wp2_with fail
      rw [← HWM.out, ← HG.out]
      go_loopw [5] (fun x wq => ∃ k : Nat, k ≤ nb + 40 ∧ x = .int .i64 k ∧ Below wm.heap.size wm wq) (fun x _ => nb + 40 - (intOf x).toNat)
      case atStart => exact ⟨0, Nat.zero_le _, rfl, Below.refl _ _⟩
      case round =>
        obtain ⟨k, hk, rfl, hBq⟩ := hrel
        have hBwq := below_then HBM.out (by omega) hBq
        have hsq := hBq.size
        have g0 : wr.cell? ⟨G, 0, none⟩ = some (.slice Ab nb cb) := (hBq.cell (p := ⟨G, 0, none⟩) (by show G < _; omega)).trans (HCP.out.cell 0)
        have g1 : wr.cell? ⟨G, 1, none⟩ = some (.slice (some ⟨gb, 0, none⟩) (nb + 40) kb) := (hBq.cell (p := ⟨G, 1, none⟩) (by show G < _; omega)).trans (HCP.out.cell 1)
        have g2 : wr.cell? ⟨G, 2, none⟩ = some (.int .i64 2) := (hBq.cell (p := ⟨G, 2, none⟩) (by show G < _; omega)).trans (HCP.out.cell 2)
        have HBQ := Lib.hid hBq
        have HBWQ := Lib.hid hBwq
        clear hBq hBwq
        by_cases hlt : k < nb + 40
        · have l0 : wr.cell? ⟨gb, k * 2, none⟩ = some (.int .i64 (-1002)) := (HBWQ.out.cell (p := ⟨gb, k * 2, none⟩) (by show gb < _; omega)).trans (own_cell HH.out.glb (rep_get 2 (nb + 40) k hlt 0 (by omega)))
          have l1 : wr.cell? ⟨gb, k * 2 + 1, none⟩ = some (.int .i64 0) := (HBWQ.out.cell (p := ⟨gb, k * 2 + 1, none⟩) (by show gb < _; omega)).trans (own_cell HH.out.glb (rep_get 2 (nb + 40) k hlt 1 (by omega)))
          have hltI : (k : Int) < (nb : Int) + 40 := by omega
          by_cases hkn : k < nb
          · obtain ⟨ad, rfl, had, hce⟩ := Reads.elem (f := fun _ : Unit => mk1 2) (l := List.replicate nb ()) (mk1_len 2) HH.out.b hkn (by simp) (by omega)
            have y0 := (HBWQ.out.cell (p := ad.add (k * 2)) (by rw [add_blk]; omega)).trans (hce.1 _ rfl)
            have y1 := (HBWQ.out.cell (p := ⟨(ad.add (k * 2)).block, (ad.add (k * 2)).off + 1, none⟩) (by show (ad.add (k * 2)).block < _; rw [add_blk]; omega)).trans (hce.2 0 _ rfl)
            have z0 : (ad.add (k * 2)).block < wr.heap.size := by rw [add_blk]; omega
            have hknI : decide ((k : Int) < (nb : Int)) = true := decide_eq_true (by omega)
            have zG : G < wr.heap.size := by omega
            have zl : gb < wr.heap.size := by omega
            clear hce
            go_wp2_with fail
            have x0 := cell_grown (a := ⟨G, 0, none⟩) zG g0
            have x1 := cell_grown (a := ⟨G, 1, none⟩) zG g1
            have x2 := cell_grown (a := ⟨G, 2, none⟩) zG g2
            have x3 := cell_grown (a := ⟨gb, k * 2, none⟩) zl l0
            have x4 := cell_grown (a := ⟨gb, k * 2 + 1, none⟩) zl l1
            have x5 := cell_grown (a := ad.add (k * 2)) z0 y0
            have x6 := cell_grown (a := ⟨(ad.add (k * 2)).block, (ad.add (k * 2)).off + 1, none⟩) z0 y1
            refine wp_region_qst (by kernel_rfl) (by kernel_rfl) ?_
            iterate 7 (refine QSt.want (by kernel_rfl) (fun K hK => ?_); go_simp; refine hK _ ?_; clear hK K)
            (refine QSt.want (by kernel_rfl) (fun K hK => ?_); go_simp; apply Exists.intro; refine ⟨fun _ => ?_, hK _ ?_⟩; exact isRange_grown 2 (by omega) 0 _ _ _; clear hK K)
            iterate 15 (refine QSt.want (by kernel_rfl) (fun K hK => ?_); go_simp; refine hK _ ?_; clear hK K)
            (refine QSt.want (by kernel_rfl) (fun K hK => ?_); go_simp; apply Exists.intro; refine ⟨fun _ => ?_, hK _ ?_⟩; exact isRange_grown 2 (by omega) 0 _ _ _; clear hK K)
            iterate 3 (refine QSt.want (by kernel_rfl) (fun K hK => ?_); go_simp; refine hK _ ?_; clear hK K)
            refine QSt.nil ?_
            intro _ hw'
            obtain ⟨⟨nq, osq⟩, hw''⟩ := hw'
            subst hw''
            have hbk := grown_below wr nq osq
            obtain ⟨wz, hwz⟩ : ∃ wz, wz = grow (wr.drewN nq) osq := ⟨_, rfl⟩
            rw [← hwz] at hbk ⊢
            clear hwz
            all_goals
              go_wp2_with fail
              go_roundw
              case rel => exact ⟨k + 1, by omega, by go_num, HBQ.out.trans (hbk.mono hsq)⟩
              case measure => simp [intOf]; omega
          · have hknI : decide ((k : Int) < (nb : Int)) = false := decide_eq_false (by omega)
            have zG : G < wr.heap.size := by omega
            have zl : gb < wr.heap.size := by omega
            go_wp2_with fail
            have x0 := cell_grown (a := ⟨G, 0, none⟩) zG g0
            have x1 := cell_grown (a := ⟨G, 1, none⟩) zG g1
            have x2 := cell_grown (a := ⟨G, 2, none⟩) zG g2
            have x3 := cell_grown (a := ⟨gb, k * 2, none⟩) zl l0
            have x4 := cell_grown (a := ⟨gb, k * 2 + 1, none⟩) zl l1
            refine wp_region_qst (by kernel_rfl) (by kernel_rfl) ?_
            iterate 7 (refine QSt.want (by kernel_rfl) (fun K hK => ?_); go_simp; refine hK _ ?_; clear hK K)
            (refine QSt.want (by kernel_rfl) (fun K hK => ?_); go_simp; apply Exists.intro; refine ⟨fun _ => ?_, hK _ ?_⟩; exact isRange_grown 2 (by omega) 0 _ _ _; clear hK K)
            iterate 8 (refine QSt.want (by kernel_rfl) (fun K hK => ?_); go_simp; refine hK _ ?_; clear hK K)
            iterate 9 refine QSt.skip (by kernel_rfl) ?_
            iterate 2 (refine QSt.want (by kernel_rfl) (fun K hK => ?_); go_simp; refine hK _ ?_; clear hK K)
            refine QSt.nil ?_
            intro _ hw'
            obtain ⟨⟨nq, osq⟩, hw''⟩ := hw'
            subst hw''
            have hbk := grown_below wr nq osq
            obtain ⟨wz, hwz⟩ : ∃ wz, wz = grow (wr.drewN nq) osq := ⟨_, rfl⟩
            rw [← hwz] at hbk ⊢
            clear hwz
            all_goals
              go_wp2_with fail
              go_roundw
              case rel => exact ⟨k + 1, by omega, by go_num, HBQ.out.trans (hbk.mono hsq)⟩
              case measure => simp [intOf]; omega
        · obtain rfl : k = nb + 40 := by omega
          go_wp2_with fail
          go_roundw
          case rel => exact ⟨.inr (.inr rfl), HBWQ.out⟩
          case measure => simp [intOf]
    · have HB := Lib.hid hB
      clear hB
      go_wp2_with fail
      go_ret
      exact ⟨rfl, HB.out⟩
end Go.Proofs.YtgibhlpocmppjaaGreatDoor
