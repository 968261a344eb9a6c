/-
  toolchestlaw01's Book.Apart, of two lists of ranges: its contract.
-/
import Derived.Test.YtgibhlpocmppjaaGreatDoorBookLook
import Derived.Test.YtgibhlpocmppjaaGreatDoorBookEmpty
namespace Go.Proofs.YtgibhlpocmppjaaGreatDoor
open Go.RowKit

set_option maxRecDepth 100000 in
set_option maxHeartbeats 4000000 in
theorem apart_two (B g na nb ca cb : Nat) (rv : Value) (Aa Ab : Option Addr) (xa xb : List Value) (w0 w : World) (hBg : B ≤ g) (hna : na ≤ 1000000) (hnb : nb ≤ 1000000) (hap : Apart2 g (.slice Aa na ca) (.slice Ab nb cb))
    (h : Two2 B g rv (.slice Aa na ca) (.slice Ab nb cb) na nb (held1 (.slice Aa na ca) (.slice none 0 0) 1 ++ held1 (.slice Ab nb cb) (.slice none 0 0) 2) xa xb w0 w) :
    Calls Tryz.prog 9 #[.pointer (some ⟨g, 0, none⟩)] w fun e w' => e = .returned (.bool true) ∧ Below B w0 w' := by
  have c1 : w.cell? ⟨g, 1, none⟩ = some (.slice none 0 0) := h.book.cell 1
  have c2 : w.cell? ⟨g, 2, none⟩ = some (.slice none 0 0) := h.book.cell 2
  have c3 : w.cell? ⟨g, 3, none⟩ = some (.slice none 0 0) := h.book.cell 3
  have c4 : w.cell? ⟨g, 4, none⟩ = some (.slice none 0 0) := h.book.cell 4
  have c5 : w.cell? ⟨g, 5, none⟩ = some (.slice none 0 0) := h.book.cell 5
  have c6 : w.cell? ⟨g, 6, none⟩ = some (.slice none 0 0) := h.book.cell 6
  have c8 : w.cell? ⟨g, 8, none⟩ = some (.slice none 0 0) := h.book.cell 8
  have c9 : w.cell? ⟨g, 9, none⟩ = some (.slice none 0 0) := h.book.cell 9
  have c10 : w.cell? ⟨g, 10, none⟩ = some (.slice none 0 0) := h.book.cell 10
  have c11 : w.cell? ⟨g, 11, none⟩ = some (.slice none 0 0) := h.book.cell 11
  have c12 : w.cell? ⟨g, 12, none⟩ = some (.slice none 0 0) := h.book.cell 12
  have HH := Lib.hid h
  have HAP := Lib.hid hap
  clear h hap
  go_enter Tryz.func9, Tryz.ntmps9
  go_wp2_with (first | (go_at_call 14; refine (fillByte_none g _ c1).mono ?_; rintro e w' ⟨rfl, hw⟩; rw [hw]; clear hw) | (go_at_call 15; refine (fillInt_none g _ c2).mono ?_; rintro e w' ⟨rfl, hw⟩; rw [hw]; clear hw) | (go_at_call 16; refine (fillText_none g _ c3).mono ?_; rintro e w' ⟨rfl, hw⟩; rw [hw]; clear hw) | (go_at_call 17; refine (fillBlob_none g _ c4).mono ?_; rintro e w' ⟨rfl, hw⟩; rw [hw]; clear hw) | (go_at_call 18; refine (fillRow_none g _ c5).mono ?_; rintro e w' ⟨rfl, hw⟩; rw [hw]; clear hw) | (go_at_call 19; refine (fillFlag_none g _ c6).mono ?_; rintro e w' ⟨rfl, hw⟩; rw [hw]; clear hw))
  refine (fillRange_two B g na nb ca cb rv Aa Ab xa xb w0 w hna hnb HAP.out HH.out).mono ?_
  rintro e w1 ⟨rfl, h1⟩
  have d1 : w1.cell? ⟨g, 1, none⟩ = some (.slice none 0 0) := h1.book.cell 1
  have d2 : w1.cell? ⟨g, 2, none⟩ = some (.slice none 0 0) := h1.book.cell 2
  have d3 : w1.cell? ⟨g, 3, none⟩ = some (.slice none 0 0) := h1.book.cell 3
  have d4 : w1.cell? ⟨g, 4, none⟩ = some (.slice none 0 0) := h1.book.cell 4
  have d5 : w1.cell? ⟨g, 5, none⟩ = some (.slice none 0 0) := h1.book.cell 5
  have d6 : w1.cell? ⟨g, 6, none⟩ = some (.slice none 0 0) := h1.book.cell 6
  have d8 : w1.cell? ⟨g, 8, none⟩ = some (.slice none 0 0) := h1.book.cell 8
  have d9 : w1.cell? ⟨g, 9, none⟩ = some (.slice none 0 0) := h1.book.cell 9
  have d10 : w1.cell? ⟨g, 10, none⟩ = some (.slice none 0 0) := h1.book.cell 10
  have d11 : w1.cell? ⟨g, 11, none⟩ = some (.slice none 0 0) := h1.book.cell 11
  have d12 : w1.cell? ⟨g, 12, none⟩ = some (.slice none 0 0) := h1.book.cell 12
  have HH1 := Lib.hid h1
  clear h1
  go_wp2_with (first | (go_at_call 21; refine (fillChange_none g _ d8).mono ?_; rintro e w' ⟨rfl, hw⟩; rw [hw]; clear hw) | (go_at_call 22; refine (fillEntry_none g _ d9).mono ?_; rintro e w' ⟨rfl, hw⟩; rw [hw]; clear hw) | (go_at_call 23; refine (fillNode_none g _ d10).mono ?_; rintro e w' ⟨rfl, hw⟩; rw [hw]; clear hw) | (go_at_call 24; refine (fillCall_none g _ d11).mono ?_; rintro e w' ⟨rfl, hw⟩; rw [hw]; clear hw) | (go_at_call 25; refine (fillStep_none g _ d12).mono ?_; rintro e w' ⟨rfl, hw⟩; rw [hw]; clear hw) | (go_at_call 26; refine (growByte_none g _ d1).mono ?_; rintro e w' ⟨rfl, hw⟩; rw [hw]; clear hw) | (go_at_call 27; refine (growInt_none g _ d2).mono ?_; rintro e w' ⟨rfl, hw⟩; rw [hw]; clear hw) | (go_at_call 28; refine (growText_none g _ d3).mono ?_; rintro e w' ⟨rfl, hw⟩; rw [hw]; clear hw) | (go_at_call 29; refine (growBlob_none g _ d4).mono ?_; rintro e w' ⟨rfl, hw⟩; rw [hw]; clear hw) | (go_at_call 30; refine (growRow_none g _ d5).mono ?_; rintro e w' ⟨rfl, hw⟩; rw [hw]; clear hw) | (go_at_call 31; refine (growFlag_none g _ d6).mono ?_; rintro e w' ⟨rfl, hw⟩; rw [hw]; clear hw))
  refine (growRange_two B g na nb ca cb rv Aa Ab w0 w1 hBg hna hnb HAP.out HH1.out).mono ?_
  rintro e w2 ⟨rfl, la, lb, h2⟩
  have k1 : w2.cell? ⟨g, 1, none⟩ = some (.slice none 0 0) := h2.book.cell 1
  have k2 : w2.cell? ⟨g, 2, none⟩ = some (.slice none 0 0) := h2.book.cell 2
  have k3 : w2.cell? ⟨g, 3, none⟩ = some (.slice none 0 0) := h2.book.cell 3
  have k4 : w2.cell? ⟨g, 4, none⟩ = some (.slice none 0 0) := h2.book.cell 4
  have k5 : w2.cell? ⟨g, 5, none⟩ = some (.slice none 0 0) := h2.book.cell 5
  have k6 : w2.cell? ⟨g, 6, none⟩ = some (.slice none 0 0) := h2.book.cell 6
  have k8 : w2.cell? ⟨g, 8, none⟩ = some (.slice none 0 0) := h2.book.cell 8
  have k9 : w2.cell? ⟨g, 9, none⟩ = some (.slice none 0 0) := h2.book.cell 9
  have k10 : w2.cell? ⟨g, 10, none⟩ = some (.slice none 0 0) := h2.book.cell 10
  have k11 : w2.cell? ⟨g, 11, none⟩ = some (.slice none 0 0) := h2.book.cell 11
  have k12 : w2.cell? ⟨g, 12, none⟩ = some (.slice none 0 0) := h2.book.cell 12
  have hg2 := h2.book.lt
  have HH2 := Lib.hid h2
  clear h2
  go_wp2_with (first | (go_at_call 33; refine (growChange_none g _ k8).mono ?_; rintro e w' ⟨rfl, hw⟩; rw [hw]; clear hw) | (go_at_call 34; refine (growEntry_none g _ k9).mono ?_; rintro e w' ⟨rfl, hw⟩; rw [hw]; clear hw) | (go_at_call 35; refine (growNode_none g _ k10).mono ?_; rintro e w' ⟨rfl, hw⟩; rw [hw]; clear hw) | (go_at_call 36; refine (growCall_none g _ k11).mono ?_; rintro e w' ⟨rfl, hw⟩; rw [hw]; clear hw) | (go_at_call 37; refine (growStep_none g _ k12).mono ?_; rintro e w' ⟨rfl, hw⟩; rw [hw]; clear hw) | (go_at_call 38; refine (lookByte_none g _ k1).mono ?_; rintro e w' ⟨rfl, hw⟩; rw [hw]; clear hw) | (go_at_call 39; refine (lookInt_none g _ k2).mono ?_; rintro e w' ⟨rfl, hw⟩; rw [hw]; clear hw) | (go_at_call 40; refine (lookText_none g _ k3).mono ?_; rintro e w' ⟨rfl, hw⟩; rw [hw]; clear hw) | (go_at_call 41; refine (lookBlob_none g _ k4).mono ?_; rintro e w' ⟨rfl, hw⟩; rw [hw]; clear hw) | (go_at_call 42; refine (lookRow_none g _ k5).mono ?_; rintro e w' ⟨rfl, hw⟩; rw [hw]; clear hw) | (go_at_call 43; refine (lookFlag_none g _ k6).mono ?_; rintro e w' ⟨rfl, hw⟩; rw [hw]; clear hw))
  refine (lookRange_two B g na nb ca cb rv la lb Aa Ab w0 w2 hna hnb HH2.out).mono ?_
  rintro e w3 ⟨rfl, hB3⟩
  have m8 : w3.cell? ⟨g, 8, none⟩ = some (.slice none 0 0) := (hB3.cell (p := ⟨g, 8, none⟩) hg2).trans k8
  have m9 : w3.cell? ⟨g, 9, none⟩ = some (.slice none 0 0) := (hB3.cell (p := ⟨g, 9, none⟩) hg2).trans k9
  have m10 : w3.cell? ⟨g, 10, none⟩ = some (.slice none 0 0) := (hB3.cell (p := ⟨g, 10, none⟩) hg2).trans k10
  have m11 : w3.cell? ⟨g, 11, none⟩ = some (.slice none 0 0) := (hB3.cell (p := ⟨g, 11, none⟩) hg2).trans k11
  have m12 : w3.cell? ⟨g, 12, none⟩ = some (.slice none 0 0) := (hB3.cell (p := ⟨g, 12, none⟩) hg2).trans k12
  have HB3 := Lib.hid hB3
  clear hB3
  go_wp2_with (first | (go_at_call 45; refine (lookChange_none g _ m8).mono ?_; rintro e w' ⟨rfl, hw⟩; rw [hw]; clear hw) | (go_at_call 46; refine (lookEntry_none g _ m9).mono ?_; rintro e w' ⟨rfl, hw⟩; rw [hw]; clear hw) | (go_at_call 47; refine (lookNode_none g _ m10).mono ?_; rintro e w' ⟨rfl, hw⟩; rw [hw]; clear hw) | (go_at_call 48; refine (lookCall_none g _ m11).mono ?_; rintro e w' ⟨rfl, hw⟩; rw [hw]; clear hw) | (go_at_call 49; refine (lookStep_none g _ m12).mono ?_; rintro e w' ⟨rfl, hw⟩; rw [hw]; clear hw))
  go_ret
  exact ⟨rfl, HH2.out.below.trans (HB3.out.mono HH2.out.room)⟩
end Go.Proofs.YtgibhlpocmppjaaGreatDoor
