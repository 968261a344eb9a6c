/-
  What the calls of this layer read of the library's variables, and lists.place: its contract.
-/
import Derived.Test.YtgibhlpocmppjaaGreatDoorShelf
import Derived.Test.YtgibhlpocmppjaaGreatDoorBytes
import Derived.Test.YtgibhlpocmppjaaGreatDoorListPlain
import Derived.Lib.AppendIntMem
import Derived.Outline
namespace Go.Proofs.YtgibhlpocmppjaaGreatDoor
open Go.RowKit

/-! ### Texts -/
def str (l : List UInt8) : ByteArray := ⟨l.toArray⟩
theorem str_size (l : List UInt8) : (str l).size = l.length := List.size_toArray
theorem str_empty : (str []).toList.isEmpty = true := by rw [ByteArray.toList_eq]; rfl
theorem str_cons (a : UInt8) (r : List UInt8) : (str (a :: r)).toList.isEmpty = false := by rw [ByteArray.toList_eq]; rfl
theorem str_list (l : List UInt8) : (str l).data.toList = l := rfl
theorem str_of (s : ByteArray) : s = str s.data.toList := by obtain ⟨⟨l⟩⟩ := s; rfl
theorem str_append (a b : List UInt8) : str a ++ str b = str (a ++ b) := by
  apply ByteArray.ext
  simp [str]
theorem str_ne_true (a b : List UInt8) (h : a ≠ b) : ((str a).toList == (str b).toList) = false := by
  rw [ByteArray.toList_eq, ByteArray.toList_eq]
  simpa [str] using h
theorem str_eq_self (a : List UInt8) : ((str a).toList == (str a).toList) = true := by simp

/-! ### The library's variables -/
structure Env (B : Nat) (w : World) : Prop where
  tab : Lib.TabBelow Tryz.prog B w "internal/strconv.uint64pow10" .u64 Lib.pow10Tab
  syn : ∃ tp p, w.cell? ⟨3, 0, none⟩ = some (.iface tp p)
  rng : ∃ tp p, w.cell? ⟨4, 0, none⟩ = some (.iface tp p)
  mx : ∃ m, w.cell? ⟨0, 0, none⟩ = some (.int .i64 m)
  sz : B ≤ w.heap.size
  big : 8 ≤ B
theorem Env.below {B : Nat} {w w' : World} (h : Env B w) (hb : Below B w w') : Env B w' := by
  have hbig := h.big
  obtain ⟨t1, p1, h1⟩ := h.syn
  obtain ⟨t2, p2, h2⟩ := h.rng
  obtain ⟨m, h3⟩ := h.mx
  exact ⟨h.tab.on hb, ⟨t1, p1, (hb.cell (by show 3 < B; omega)).trans h1⟩, ⟨t2, p2, (hb.cell (by show 4 < B; omega)).trans h2⟩, ⟨m, (hb.cell (by show 0 < B; omega)).trans h3⟩, Nat.le_trans h.sz hb.size, h.big⟩
theorem Env.up {B : Nat} {w w' : World} (h : Env B w) (hb : Below w.heap.size w w') : Env B w' := h.below (hb.mono h.sz)

theorem atoi_world (_s : ByteArray) (w w' : World) (h : w' = w ∨ ∃ t, w' = Lib.bytesWorld w 5 t) : Below w.heap.size w w' := by
  rcases h with rfl | ⟨t, rfl⟩
  · exact Below.refl _ _
  · exact ⟨rfl, rfl, rfl, by rw [Lib.bytesWorld_size]; omega, fun k hk => Lib.bytesWorld_at_old w _ t k hk⟩

set_option maxHeartbeats 1000000 in
theorem place_any (B : Nat) (l : List UInt8) (w : World) (hE : Env B w) (hl : l.length ≤ 281474976710656) :
    Calls Tryz.prog 84 #[.string (str l)] w fun e w' => e = .returned (.int .i64 (placeV l)) ∧ Below w.heap.size w w' := by
  have hss := str_size l
  have HE := Lib.hid hE
  have HS := Lib.hid hss
  clear hE hss
  cases ha : Lib.atoiAll l with
  | «syntax» =>
    have h0 : placeV l = 0 := by
      by_cases h : 0 < placeV l
      · rw [placeV_atoi l h] at ha; cases ha
      · omega
    have H0 := Lib.hid h0
    have HA := Lib.hid ha
    clear h0 ha
    obtain ⟨tp, p, hv⟩ := HE.out.syn
    have HV := Lib.hid hv
    clear hv
    go_enter Tryz.func84, Tryz.ntmps84
    go_wp2_with fail
    refine (Go.Proofs.Tryz.strconv_Atoi_syntax (str l) (by rw [HS.out]; exact hl) HA.out (.iface tp p) w HV.out (.inr ⟨tp, p, rfl⟩)).mono ?_
    rintro e w2 ⟨N, rfl, hN, hNh, hB⟩
    go_wp2_with fail
    go_ret
    exact ⟨by rw [H0.out]; rfl, hB⟩
  | range =>
    have h0 : placeV l = 0 := by
      by_cases h : 0 < placeV l
      · rw [placeV_atoi l h] at ha; cases ha
      · omega
    have H0 := Lib.hid h0
    have HA := Lib.hid ha
    clear h0 ha
    obtain ⟨tp, p, hv⟩ := HE.out.rng
    have HV := Lib.hid hv
    clear hv
    go_enter Tryz.func84, Tryz.ntmps84
    go_wp2_with fail
    refine (Go.Proofs.Tryz.strconv_Atoi_range (str l) (by rw [HS.out]; exact hl) HA.out (.iface tp p) w HV.out (.inr ⟨tp, p, rfl⟩)).mono ?_
    rintro e w2 ⟨N, rfl, hN, hNh, hB⟩
    go_wp2_with fail
    go_ret
    exact ⟨by rw [H0.out]; rfl, hB⟩
  | ok v =>
    have HA := Lib.hid ha
    clear ha
    by_cases h1 : v < 1
    · have h0 : placeV l = 0 := by
        by_cases h : 0 < placeV l
        · have := placeV_atoi l h
          rw [HA.out] at this
          injection this with this
          omega
        · omega
      have H0 := Lib.hid h0
      clear h0
      go_enter Tryz.func84, Tryz.ntmps84
      go_wp2_with fail
      refine (Go.Proofs.Tryz.strconv_Atoi_ok (str l) (by rw [HS.out]; omega) v HA.out w).mono ?_
      rintro e w2 ⟨rfl, hw⟩
      have hB := atoi_world (str l) w w2 hw
      clear hw
      go_wp2_with fail
      go_ret
      exact ⟨by rw [H0.out]; rfl, hB⟩
    by_cases h2 : 2147483647 < v
    · have h0 : placeV l = 0 := by
        by_cases h : 0 < placeV l
        · have h3 := placeV_atoi l h
          have h4 := placeV_le l
          rw [HA.out] at h3
          injection h3 with h3
          omega
        · omega
      have H0 := Lib.hid h0
      clear h0
      go_enter Tryz.func84, Tryz.ntmps84
      go_wp2_with fail
      refine (Go.Proofs.Tryz.strconv_Atoi_ok (str l) (by rw [HS.out]; omega) v HA.out w).mono ?_
      rintro e w2 ⟨rfl, hw⟩
      have hB := atoi_world (str l) w w2 hw
      clear hw
      go_wp2_with fail
      go_ret
      exact ⟨by rw [H0.out]; rfl, hB⟩
    · by_cases h3 : Lib.itoa v = l
      · have h0 := placeV_none l v HA.out (by omega) (by omega) h3
        have HV := Lib.hid (show ((placeV l : Nat) : Int) = v by omega)
        have hq : ((str (Lib.itoa v)).toList == (str l).toList) = true := by rw [h3]; exact str_eq_self l
        have H3 := Lib.hid h3
        clear h0 h3
        go_enter Tryz.func84, Tryz.ntmps84
        go_wp2_with fail
        refine (Go.Proofs.Tryz.strconv_Atoi_ok (str l) (by rw [HS.out]; omega) v HA.out w).mono ?_
        rintro e w2 ⟨rfl, hw⟩
        have hB := atoi_world (str l) w w2 hw
        clear hw
        go_wp2_with fail
        refine (Go.Proofs.Tryz.strconv_Itoa v (by omega) (by omega) w2 (HE.out.up hB).tab.here).mono ?_
        rintro e w3 ⟨rfl, k, os, hw3⟩
        have hB3 : Below w2.heap.size w2 w3 := by rw [hw3]; exact Lib.below_grow _ _ (Nat.le_refl _) _ _
        clear hw3
        rw [show (⟨(Lib.itoa v).toArray⟩ : ByteArray) = str (Lib.itoa v) from rfl]
        go_wp2_with fail
        go_ret
        exact ⟨ret_int HV.out.symm, below_then hB hB.size hB3⟩
      · have h0 : placeV l = 0 := by
          by_cases h : 0 < placeV l
          · have h4 := placeV_atoi l h
            rw [HA.out] at h4
            injection h4 with h4
            exact absurd (by rw [h4]; exact place_itoa l h) h3
          · omega
        have H0 := Lib.hid h0
        have hq : ((str (Lib.itoa v)).toList == (str l).toList) = false := str_ne_true _ _ h3
        clear h0 h3
        go_enter Tryz.func84, Tryz.ntmps84
        go_wp2_with fail
        refine (Go.Proofs.Tryz.strconv_Atoi_ok (str l) (by rw [HS.out]; omega) v HA.out w).mono ?_
        rintro e w2 ⟨rfl, hw⟩
        have hB := atoi_world (str l) w w2 hw
        clear hw
        go_wp2_with fail
        refine (Go.Proofs.Tryz.strconv_Itoa v (by omega) (by omega) w2 (HE.out.up hB).tab.here).mono ?_
        rintro e w3 ⟨rfl, k, os, hw3⟩
        have hB3 : Below w2.heap.size w2 w3 := by rw [hw3]; exact Lib.below_grow _ _ (Nat.le_refl _) _ _
        clear hw3
        rw [show (⟨(Lib.itoa v).toArray⟩ : ByteArray) = str (Lib.itoa v) from rfl]
        go_wp2_with fail
        go_ret
        exact ⟨by rw [H0.out]; rfl, below_then hB hB.size hB3⟩
end Go.Proofs.YtgibhlpocmppjaaGreatDoor
