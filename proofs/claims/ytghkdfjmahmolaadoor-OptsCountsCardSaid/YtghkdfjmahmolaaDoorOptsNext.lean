/-
  opts.Parse's next: its contract.
-/
import Derived.Test.YtghkdfjmahmolaaDoorOptsLetters
namespace Go.Proofs.YtghkdfjmahmolaaDoor
open Go.RowKit

/-- A list of texts, as it lies. -/
def txv (l : List (List UInt8)) : List Value := l.map fun x => .string (str x)
theorem txv_length (l : List (List UInt8)) : (txv l).length = l.length := by simp [txv]
theorem txv_at (l : List (List UInt8)) (k : Nat) (h : k < l.length) : (txv l)[k]? = some (.string (str l[k])) := by
  simp [txv, List.getElem?_map, List.getElem?_eq_getElem h]

set_option maxRecDepth 100000 in
set_option maxHeartbeats 1000000 in
theorem next_any (gb B : Nat) (A : Option Addr) (m c : Nat) (a : List UInt8) (rest : List (List UInt8)) (w : World) (hbox : Blk w gb 26 #[.slice A (m + 1) c]) (hc : m + 1 ≤ c) (hr : Reads w B 1 A (m + 1) (txv (a :: rest))) (hB : B ≤ gb) :
    Calls Tryd.prog 29 #[.pointer (some ⟨gb, 0, none⟩)] w fun e w' => e = .returned (.string (str a)) ∧ ∃ A', Blk w' gb 26 #[.slice A' m (c - 1)] ∧ Reads w' B 1 A' m (txv rest) ∧ w.grownBy w' (some gb) ∧ w'.heap.size = w.heap.size := by
  obtain ⟨ad, u, rfl, had, hu, hcell⟩ := hr.at_ (show 0 < m + 1 by omega)
  rw [txv_at (a :: rest) 0 (by simp)] at hu
  injection hu with hu
  subst hu
  have hcell0 : w.cell? ad = some (.string (str a)) := by simpa [Addr.add] using hcell
  clear hcell
  have hcut := hr.cut (k := 1) (show 1 ≤ m + 1 by omega) hc
  have hb0 := hbox.cell 0
  have hf0 := hbox.frozen 0
  by_cases h1 : c = 1
  · subst h1
    obtain rfl : m = 0 := by omega
    have hcut2 : Reads w B 1 (some ad) 0 (txv rest) := by
      rw [if_pos rfl] at hcut
      exact hcut
    go_enter Tryd.func29, Tryd.ntmps29
    go_wp2_with fail
    go_region
    go_wp2_with fail
    go_ret
    refine ⟨rfl, some ad, ?_, (hcut2.setCell (p := ⟨gb, 0, none⟩) hB _).drew, ?_, ?_⟩
    · exact Blk.drew (Blk.set_ hbox 0 (.slice (some ad) 0 _))
    · exact only_drew (only_setCell (only_of_below (Below.refl _ _) _) (p := ⟨gb, 0, none⟩) (.inl rfl) _)
    · simp [World.drew, World.setCell]
  · have hcut2 : Reads w B 1 (some ⟨ad.block, ad.off + 1, none⟩) m (txv rest) := by
      rw [if_neg h1] at hcut
      have e : Option.map (fun x : Addr => x.add (1 * 1)) (some ad) = some ⟨ad.block, ad.off + 1, none⟩ := by simp [Addr.add]
      rw [e] at hcut
      exact hcut
    go_enter Tryd.func29, Tryd.ntmps29
    go_wp2_with fail
    go_region
    go_wp2_with fail
    go_ret
    refine ⟨rfl, some ⟨ad.block, ad.off + 1, none⟩, ?_, (hcut2.setCell (p := ⟨gb, 0, none⟩) hB _).drew, ?_, ?_⟩
    · exact Blk.drew (Blk.set_ hbox 0 (.slice (some ⟨ad.block, ad.off + 1, none⟩) m _))
    · exact only_drew (only_setCell (only_of_below (Below.refl _ _) _) (p := ⟨gb, 0, none⟩) (.inl rfl) _)
    · simp [World.drew, World.setCell]
end Go.Proofs.YtghkdfjmahmolaaDoor
