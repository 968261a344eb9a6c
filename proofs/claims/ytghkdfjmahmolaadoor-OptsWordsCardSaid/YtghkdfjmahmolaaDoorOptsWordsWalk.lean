/-
  OptsWords: the law's walk.
-/
import Derived.Test.YtghkdfjmahmolaaDoorOptsAppend
namespace Go.Proofs.YtghkdfjmahmolaaDoor
open Go.RowKit

theorem infoStrW : (Tryd.prog.info? 9).map (fun i => (i.zero, i.size, i.bytes)) = some (some (.string { data := #[] }), 1, 16) := by kernel_rfl
theorem str_appW (a b : List UInt8) : str a ++ str b = str (a ++ b) := by
  apply ByteArray.ext
  simp [str]
def alphaL : List UInt8 := [97, 98, 99, 100, 101, 102, 103, 104, 105, 106, 107, 108, 109, 110, 111, 112, 113, 114, 115, 116, 117, 118, 119, 120, 121, 122]
def alphaT : Told := alphaL.map fun c => (c, false)
theorem alpha_letters : lettersV alphaL = some alphaT := by decide
theorem alpha_look : ∀ q : Nat, q < 26 → look alphaT (alphaL.getD q 0) = some false := by decide
theorem alpha_45 : look alphaT 45 = none := by decide
def csOf (l : List UInt8) : List UInt8 := l.map fun x => alphaL.getD (x.toNat % 26) 0
theorem csOf_look (l : List UInt8) : ∀ c ∈ csOf l, look alphaT c = some false := by
  intro c hc
  obtain ⟨x, _, rfl⟩ := List.mem_map.1 hc
  exact alpha_look _ (Nat.mod_lt _ (by omega))
theorem words_one (cs : List UInt8) (h : ∀ c ∈ cs, look alphaT c = some false) (hne : cs ≠ []) : optsV alphaL [45 :: cs, [120]] = (cs.map (fun c => (c, [])), [[120]], 0) := by
  refine optsV_ok alpha_letters (by simp) ?_
  have hopt : isOpt (45 :: cs) = true := by
    cases cs with
    | nil => exact absurd rfl hne
    | cons _ _ => rfl
  have h2 : (45 :: cs : List UInt8) ≠ [45, 45] := by
    intro e
    have e2 : cs = [45] := by simpa using e
    have := h 45 (by rw [e2]; simp)
    rw [alpha_45] at this
    cases this
  rw [parseW_word alphaT _ _ _ hopt h2 (wordV_all alphaT cs h), parseW_left alphaT [120] _ rfl]
  simp
theorem words_each (cs : List UInt8) (h : ∀ c ∈ cs, look alphaT c = some false) (hn : cs.length ≤ 200) : optsV alphaL (cs.map (fun c => [45, c]) ++ [[120]]) = (cs.map (fun c => (c, [])), [[120]], 0) := by
  refine optsV_ok alpha_letters (by simp; omega) ?_
  rw [parseW_each alphaT [[120]] cs h alpha_45, parseW_left alphaT [120] _ rfl]
  simp
theorem own_own_neW {w : World} {base base' n n' size size' : Nat} {e e' : TypeId} {v v' : Value} {xs xs' : List Value} (h : w.ownsRow base e size v n xs) (h' : w.ownsRow base' e' size' v' n' xs') (hne : e ≠ e') : v.ownBlock = none ∨ v.ownBlock ≠ v'.ownBlock := by
  rcases h.2 with ⟨e1, _⟩ | ⟨g, cap, cur, hv, _, hb, _⟩
  · left; rw [e1]; rfl
  · right
    intro eq
    rcases h'.2 with ⟨e1', _⟩ | ⟨g', cap', cur', hv', _, hb', _⟩
    · rw [hv, e1'] at eq; simp [Value.ownBlock] at eq
    · rw [hv, hv'] at eq
      have hg : g = g' := by simpa [Value.ownBlock] using eq
      subst hg
      rw [hb] at hb'
      injection hb' with hb'
      injection hb' with _ h2
      exact hne h2
set_option maxRecDepth 100000 in
set_option maxHeartbeats 8000000 in
theorem optsWords_walk (A : Option Addr) (n c : Nat) (l : List UInt8) (w : World) (hr : Reads w w.heap.size 1 A n (bv l)) (hn : n ≤ 140737488351232) :
    Calls Tryd.prog 5 #[.slice A n c] w fun e w' => e = .returned (.bool true) ∧ Below w.heap.size w w' := by
  obtain ⟨i0, hi0, hz0, hz1, hz2⟩ := info_parts infoFlag
  obtain ⟨j0, hj0, hy0, hy1, hy2⟩ := info_parts infoStrW
  have HL := Lib.hid (show l.length = n by have := hr.1; rw [bv_length] at this; omega)
  go_enter Tryd.func5, Tryd.ntmps5
  go_wp2_with fail
  refine (alive_any w).mono ?_
  rintro e w1 ⟨rfl, hB1⟩
  have hr1 := (hr.below hB1).more hB1.size
  clear hr
  by_cases hbig : 200 < n
  · have f1 : decide ((200 : Int) < (n : Int)) = true := decide_eq_true (by omega)
    go_wp2_with fail
    refine (alive_any w1).mono ?_
    rintro e w2 ⟨rfl, hB2⟩
    go_wp2_with fail
    go_ret
    exact ⟨rfl, below_then hB1 hB1.size hB2⟩
  have f1 : decide ((200 : Int) < (n : Int)) = false := decide_eq_false (by omega)
  by_cases h0 : n = 0
  · subst h0
    go_wp2_with fail
    refine (alive_any w1).mono ?_
    rintro e w2 ⟨rfl, hB2⟩
    go_wp2_with fail
    go_ret
    exact ⟨rfl, below_then hB1 hB1.size hB2⟩
  have f2 : ((n : Int) == 0) = false := by simpa using h0
  obtain ⟨cs, hcs⟩ : ∃ cs, cs = csOf l := ⟨_, rfl⟩
  have hcl : cs.length = n := by rw [hcs]; unfold csOf; rw [List.length_map]; exact HL.out
  have HC := Lib.hid (show ∀ x ∈ cs, look alphaT x = some false by rw [hcs]; exact csOf_look l)
  have HCL := Lib.hid hcl
  have HCS := Lib.hid hcs
  have HX1 := Lib.hid (words_one cs HC.out (fun e => by rw [e] at hcl; simp at hcl; omega))
  have HX2 := Lib.hid (words_each cs HC.out (by omega))
  clear hcl hcs
  go_wp2_with fail
  go_loopw [4, 5, 6, 7] (fun one many want i wr => ∃ k : Nat, k ≤ n ∧ i = .int .i64 k ∧ one = .string (str (45 :: cs.take k)) ∧ wr.ownsRow w1.heap.size 9 1 many k (txv ((cs.take k).map (fun c => [45, c]))) ∧ wr.ownsRow w1.heap.size 38 2 want k (flv ((cs.take k).map (fun c => (c, [])))) ∧ Below w1.heap.size w1 wr) (fun _ _ _ i _ => n - (intOf i).toNat)
  case atStart => exact ⟨0, Nat.zero_le _, rfl, rfl, World.ownsRow_nil _ _ _ _, World.ownsRow_nil _ _ _ _, Below.refl _ _⟩
  case round =>
    obtain ⟨k, hk, rfl, rfl, hown, hownf, hB⟩ := hrel
    have hsz := hB.size
    by_cases hlt : k < n
    · have hkI : (k : Int) < (n : Int) := by omega
      have hkl : k < l.length := by rw [HL.out]; exact hlt
      obtain ⟨ad, u, rfl, had, hu, hcell⟩ := (hr1.below hB).at_ hlt
      rw [bv_get l k hkl] at hu
      injection hu with hu
      subst hu
      obtain ⟨x, hx⟩ : ∃ x, x = l[k] := ⟨_, rfl⟩
      rw [← hx] at hcell
      have hx256 := x.toNat_lt
      obtain ⟨q, hq⟩ : ∃ q, q = x.toNat % 26 := ⟨_, rfl⟩
      have hq26 : q < 26 := by omega
      have e1 : ((x.toNat : Nat) : Int) % 26 = (q : Int) := by omega
      have e2 : Int.tmod ((x.toNat : Nat) : Int) 26 = (q : Int) := by rw [Int.tmod_eq_emod_of_nonneg (by omega)]; exact e1
      obtain ⟨ch, hch⟩ : ∃ ch, ch = alphaL.getD q 0 := ⟨_, rfl⟩
      have hgq : ∀ h, ({ data := #[97, 98, 99, 100, 101, 102, 103, 104, 105, 106, 107, 108, 109, 110, 111, 112, 113, 114, 115, 116, 117, 118, 119, 120, 121, 122] } : ByteArray)[q]'h = ch := fun h => str_get alphaL q ch (by rw [hch, List.getD_eq_getElem?_getD, List.getElem?_eq_getElem (by exact hq26)]; rfl) h
      have htk : cs.take (k + 1) = cs.take k ++ [ch] := by
        rw [List.take_succ_eq_append_getElem (by rw [HCL.out]; exact hlt)]
        congr 2
        rw [hch, hq, hx]
        have := HCS.out
        subst this
        simp [csOf]
      have HT := Lib.hid htk
      have hso : (str (45 :: cs.take k)).size = k + 1 := by rw [str_size, List.length_cons, List.length_take, HCL.out]; omega
      clear hx hq hch htk hr1
      have ra := reads_row wr 5 1 1 #[.int .u8 (ch.toNat : Int)] (bv [ch]) rfl rfl
      have rb := reads_row (wr.alloc (.cells #[.int .u8 (ch.toNat : Int)] 5)) 5 1 1 #[.int .u8 (ch.toNat : Int)] (bv [ch]) rfl rfl
      rw [show (wr.alloc (.cells #[.int .u8 (ch.toNat : Int)] 5)).heap.size = wr.heap.size + 1 from by simp] at rb
      have hB3 : Below w1.heap.size w1 (((wr.alloc (.cells #[.int .u8 (ch.toNat : Int)] 5)).alloc (.cells #[.int .u8 (ch.toNat : Int)] 5)).alloc (.cells #[.string ({ data := #[45] } ++ { data := #[ch] })] 9)) := ((hB.alloc (by omega) (.cells #[.int .u8 (ch.toNat : Int)] 5)).alloc (by simp; omega) (.cells #[.int .u8 (ch.toNat : Int)] 5)).alloc (by simp; omega) (.cells #[.string ({ data := #[45] } ++ { data := #[ch] })] 9)
      have hown3 := ((hown.alloc (.cells #[.int .u8 (ch.toNat : Int)] 5)).alloc (.cells #[.int .u8 (ch.toNat : Int)] 5)).alloc (.cells #[.string ({ data := #[45] } ++ { data := #[ch] })] 9)
      have hownf3 := ((hownf.alloc (.cells #[.int .u8 (ch.toNat : Int)] 5)).alloc (.cells #[.int .u8 (ch.toNat : Int)] 5)).alloc (.cells #[.string ({ data := #[45] } ++ { data := #[ch] })] 9)
      have hne3 : (38 : TypeId) ≠ 9 := by decide
      have hne4 : (9 : TypeId) ≠ 38 := by decide
      have hsz3 := hB3.size
      have hsz2 : ((wr.alloc (.cells #[.int .u8 (ch.toNat : Int)] 5)).alloc (.cells #[.int .u8 (ch.toNat : Int)] 5)).heap.size = wr.heap.size + 2 := by simp
      go_wp2_with (first
        | (refine wpList_string_of_bytes _ rfl (.tmp 43) 36 9 5 rfl Tryd.underlying36 Tryd.underlying5 Tryd.underlying9 (some ⟨wr.heap.size, 0, none⟩) 1 1 (wr.heap.size + 1) [ch] rfl (ra) ?_)
        | (refine wpList_string_of_bytes _ rfl (.tmp 48) 36 9 5 rfl Tryd.underlying36 Tryd.underlying5 Tryd.underlying9 (some ⟨wr.heap.size + 1, 0, none⟩) 1 1 (wr.heap.size + 1 + 1) [ch] rfl (rb) ?_)
        | (at_builtin; refine wpList_append_own _ rfl (.tmp 46) (.tmp 51) 26 rfl w1.heap.size 9 j0 (.string { data := #[] }) 1 16 Tryd.underlying26 hj0 hy0 hy1 hy2 rfl (by decide) _ _ _ rfl hown3 ⟨wr.heap.size + 2, 0, none⟩ 1 1 [.string ({ data := #[45] } ++ { data := #[ch] })] rfl rfl (by have h := cells_new ((wr.alloc (.cells #[.int .u8 (ch.toNat : Int)] 5)).alloc (.cells #[.int .u8 (ch.toNat : Int)] 5)) #[.string ({ data := #[45] } ++ { data := #[ch] })] 9; rw [hsz2] at h; exact h) (fun u hu => by rw [List.mem_singleton.1 hu]; rfl) (by unfold maxLen; omega) (by omega) (by simp; omega) ?_; intro v5 w5 hown5 hg5 _; have hB5 := hB3.grown hg5 hsz3 (own_ge hown); have hs5 := hB5.size; have hownf5 := hownf3.kept hg5 (own_own_neW hownf3 hown3 hne3))
        | (at_builtin; refine wpList_append_own _ rfl (.tmp 53) (.tmp 56) 29 rfl w1.heap.size 38 i0 (.agg #[.int .u8 0, .string { data := #[] }]) 2 24 Tryd.underlying29 hi0 hz0 hz1 hz2 rfl (by decide) _ _ _ rfl (hownf5.alloc _) ⟨w5.heap.size, 0, none⟩ 1 1 [.int .u8 (ch.toNat : Int), .string { data := #[] }] rfl rfl (cells_new w5 #[.int .u8 (ch.toNat : Int), .string { data := #[] }] 38) (fl1_one (ch, { data := #[] })) (by unfold maxLen; omega) (by omega) (by simp; omega) ?_; intro v6 w6 hown6f hg6 _))
      have hB6 : Below w1.heap.size w1 w6 := (hB5.alloc (by omega) _).grown hg6 (by simp; omega) (own_ge hownf5)
      have hown6 := (hown5.alloc (.cells #[.int .u8 (ch.toNat : Int), .string { data := #[] }] 38)).kept hg6 (own_own_neW hown5 hownf5 hne4)
      have hown7 : w6.ownsRow w1.heap.size 9 1 v5 (k + 1) (txv ((cs.take (k + 1)).map (fun c => [45, c]))) := by
        have e : txv ((cs.take (k + 1)).map (fun c => [45, c])) = txv ((cs.take k).map (fun c => [45, c])) ++ [.string ({ data := #[45] } ++ { data := #[ch] })] := by
          rw [HT.out, List.map_append]
          unfold txv
          rw [List.map_append]
          congr 1
        rw [e]
        exact hown6
      have hown8 : w6.ownsRow w1.heap.size 38 2 v6 (k + 1) (flv ((cs.take (k + 1)).map (fun c => (c, [])))) := by
        rw [HT.out, List.map_append, flv_append]
        exact hown6f
      have HST := Lib.hid (show str (45 :: cs.take k) ++ { data := #[ch] } = str (45 :: cs.take (k + 1)) by
        rw [show ({ data := #[ch] } : ByteArray) = str [ch] from rfl, str_appW, HT.out]; rfl)
      go_roundw
      case rel => exact ⟨k + 1, by omega, by go_num, by rw [HST.out], hown7, hown8, hB6⟩
      case measure => simp [intOf]; omega
    · obtain rfl : k = n := by omega
      have hkI : ¬ (k : Int) < (k : Int) := by omega
      rw [List.take_of_length_le (by rw [HCL.out]; exact Nat.le_refl _)] at hown hownf ⊢
      have hb2 : Below w.heap.size w wr := hB1.trans (hB.mono hB1.size)
      obtain ⟨A4, c4, rfl⟩ := own_slice hownf
      have hsx : sumL [45 :: cs, [120]] ≤ 4194304 := by simp [sumL]; have := HCL.out; omega
      have HF1 := Lib.hid (show Fits [45 :: cs, [120]] from .inl hsx)
      have HF2 := Lib.hid (show Fits (cs.map (fun c => [45, c]) ++ [[120]]) from .inl (by
        have e : sumL (cs.map (fun c => [45, c]) ++ [[120]]) = 2 * cs.length + 1 := by
          unfold sumL
          rw [List.map_append, List.sum_append, List.map_map]
          have : ∀ l : List UInt8, (l.map (List.length ∘ fun c => [45, c])).sum = 2 * l.length := fun l => by
            induction l with
            | nil => rfl
            | cons a l ih => rw [List.map_cons, List.sum_cons, ih]; simp; omega
          rw [this]
          simp
        rw [e]
        have := HCL.out
        omega))
      have b3 : Below wr.heap.size wr (wr.alloc (.cells #[.string (str (45 :: cs)), .string { data := #[120] }] 9)) := (Below.refl _ _).alloc (Nat.le_refl _) _
      have r3 := reads_row wr 9 1 2 #[.string (str (45 :: cs)), .string { data := #[120] }] (txv [45 :: cs, [120]]) rfl rfl
      have HR1 := Lib.hid hr1
      clear hsx hr1
      go_wp2_with fail
      refine (parse_own alphaL [45 :: cs, [120]] _ _ _ HX1.out (some ⟨wr.heap.size, 0, none⟩) 2 2 _ (by decide) (r3.more (by simp)) (Nat.le_refl _) (by omega) HF1.out).mono ?_
      rintro e w5 ⟨A5, c5, A6, c6, rfl, oa, ob, hB5⟩
      have hB35 := below_then b3 b3.size hB5
      have hs5 := hB35.size
      have hown5 := own_below hown hB35
      have hownf5 := own_below hownf hB35
      have hb5 := below_then hb2 hb2.size hB35
      have hne3 : (38 : TypeId) ≠ 9 := by decide
      have hq5 := own_later ob hown (by simp)
      rw [List.length_map, HCL.out] at oa ⊢
      have hq6 := own_own_neW oa hown5 hne3
      have hq7 := own_own_neW hownf5 hown5 hne3
      clear b3 r3 hB5 hown hownf hb2
      go_wp2_with (at_builtin; refine wpList_append_own _ rfl (.tmp 68) (.tmp 69) 26 rfl w1.heap.size 9 j0 (.string { data := #[] }) 1 16 Tryd.underlying26 hj0 hy0 hy1 hy2 rfl (by decide) _ _ _ rfl (hown5.alloc _) ⟨w5.heap.size, 0, none⟩ 1 1 [.string { data := #[120] }] rfl rfl (cells_new w5 #[.string { data := #[120] }] 9) (txv_one [[120]]) (by unfold maxLen; omega) (by omega) (by simp; omega) ?_; intro v6 w6 hown6 hg6 _)
      have hB6w : Below w1.heap.size w5 w6 := ((Below.refl _ _).alloc (by omega) _).grown hg6 (by simp; omega) (own_ge hown5)
      have hb6 : Below w.heap.size w w6 := hb5.trans (hB6w.mono hB1.size)
      have ra6 := Reads.of_own ((oa.alloc _).kept hg6 hq6)
      have rb6 := Reads.of_own ((ob.alloc _).kept hg6 hq5)
      have rf6 := Reads.of_own ((hownf5.alloc _).kept hg6 hq7)
      have hown7 : w6.ownsRow w1.heap.size 9 1 v6 (k + 1) (txv (cs.map (fun c => [45, c]) ++ [[120]])) := by
        have e : txv (cs.map (fun c => [45, c]) ++ [[120]]) = txv (cs.map (fun c => [45, c])) ++ [.string { data := #[120] }] := by unfold txv; rw [List.map_append]; rfl
        rw [e]
        exact hown6
      obtain ⟨A7, c7, rfl⟩ := own_slice hown7
      have hcap := (own_cap_ hown7).1
      have HOWN := Lib.hid (Reads.of_own hown7)
      clear oa ob hown5 hownf5 hown6 hown7 hg6 hq5 hq6 hq7 hb5
      go_wp2_with fail
      refine (parse_use alphaL (cs.map (fun c => [45, c]) ++ [[120]]) _ _ _ HX2.out A7 (k + 1) c7 w6 (by decide) HOWN.out hcap (by omega) HF2.out).mono ?_
      rintro e w7 ⟨A8, c8, A9, c9, rfl, rc, rd, hB7⟩
      rw [List.length_map, HCL.out] at rc ⊢
      have ra7 := (ra6.below hB7).more hB7.size
      have rb7 := (rb6.below hB7).more hB7.size
      have rf7 := (rf6.below hB7).more hB7.size
      have hb7 := below_then hb6 hb6.size hB7
      clear ra6 rb6 rf6 hb6 hB7 HOWN
      go_wp2_with fail
      refine (sameFlags_any A5 A4 k c5 c4 w7.heap.size (cs.map (fun c => (c, []))) w7 ra7 rf7 (by omega)).mono ?_
      rintro e w8 ⟨rfl, hB8⟩
      have rb8 := (rb7.below hB8).more hB8.size
      have rc8 := (rc.below hB8).more hB8.size
      have rd8 := (rd.below hB8).more hB8.size
      have rf8 := (rf7.below hB8).more hB8.size
      have hb8 := below_then hb7 hb7.size hB8
      clear ra7 rb7 rf7 rc rd hb7 hB8
      go_wp2_with fail
      refine (sameFlags_any A8 A4 k c8 c4 w8.heap.size (cs.map (fun c => (c, []))) w8 rc8 rf8 (by omega)).mono ?_
      rintro e w9 ⟨rfl, hB9⟩
      have rb9 := (rb8.below hB9).more hB9.size
      have rd9 := (rd8.below hB9).more hB9.size
      have hb9 := below_then hb8 hb8.size hB9
      clear rb8 rc8 rd8 rf8 hb8 hB9
      have b10 : Below w9.heap.size w9 (w9.alloc (.cells #[.string { data := #[120] }] 9)) := (Below.refl _ _).alloc (Nat.le_refl _) _
      have r10 := reads_row w9 9 1 1 #[.string { data := #[120] }] (txv [[120]]) rfl rfl
      go_wp2_with fail
      refine (sameTexts_any A6 (some ⟨w9.heap.size, 0, none⟩) 1 c6 1 (w9.heap.size + 1) [[120]] _ ((rb9.below b10).more (Nat.le_succ _)) r10 (by omega)).mono ?_
      rintro e w10 ⟨rfl, hB10⟩
      have hB910 := below_then b10 b10.size hB10
      have rb10 := (rb9.below hB910).more hB910.size
      have rd10 := (rd9.below hB910).more hB910.size
      have hb10 := below_then hb9 hb9.size hB910
      clear b10 r10 rb9 rd9 hB910 hb9 hB10
      go_wp2_with fail
      refine (sameTexts_any A9 A6 1 c9 c6 w10.heap.size [[120]] w10 rd10 rb10 (by omega)).mono ?_
      rintro e w11 ⟨rfl, hB11⟩
      go_wp2_with fail
      go_ret
      exact ⟨rfl, below_then hb10 hb10.size hB11⟩
end Go.Proofs.YtghkdfjmahmolaaDoor
