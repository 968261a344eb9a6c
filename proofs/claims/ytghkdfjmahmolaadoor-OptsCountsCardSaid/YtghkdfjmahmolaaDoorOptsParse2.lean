/-
  opts.Parse: its walk.
-/
import Derived.Test.YtghkdfjmahmolaaDoorOptsParse
import Derived.WalkMore
namespace Go.Proofs.YtghkdfjmahmolaaDoor
open Go.RowKit

/-- Few enough letters, or no option ahead. -/
def Fits (args : List (List UInt8)) : Prop := sumL args ≤ 4194304 ∨ ∃ a rest, args = a :: rest ∧ isOpt a = false
theorem optsV_bad {which : List UInt8} {args : List (List UInt8)} (h : lettersV which = none) : optsV which args = ([], [], 1) := by unfold optsV; rw [h]
theorem optsV_many {which : List UInt8} {args : List (List UInt8)} {es : Told} (h : lettersV which = some es) (hn : 256 < args.length) : optsV which args = ([], [], 3) := by unfold optsV; rw [h]; simp only; rw [if_pos hn]
theorem optsV_use {which : List UInt8} {args : List (List UInt8)} {es : Told} (h : lettersV which = some es) (hn : ¬ 256 < args.length) (hp : parseW es args = none) : optsV which args = ([], [], 4) := by unfold optsV; rw [h]; simp only; rw [if_neg hn, hp]
theorem optsV_ok {which : List UInt8} {args : List (List UInt8)} {es : Told} {fl : List FlagL} {rest : List (List UInt8)} (h : lettersV which = some es) (hn : ¬ 256 < args.length) (hp : parseW es args = some (fl, rest)) : optsV which args = (fl, rest, 0) := by unfold optsV; rw [h]; simp only; rw [if_neg hn, hp]
theorem LetIs.cases_ {s : List UInt8} {B : Nat} {w' : World} {e : Ending} (h : LetIs s B w' e) : (lettersV s = none ∧ e = .returned (.tuple #[.map none, .bool false])) ∨ (∃ es g, lettersV s = some es ∧ e = .returned (.tuple #[.map (some g), .bool true]) ∧ B ≤ g ∧ MapI w' g .u8 (tv es)) := by
  unfold LetIs at h
  cases hx : lettersV s with
  | none => rw [hx] at h; exact .inl ⟨rfl, h⟩
  | some es => rw [hx] at h; obtain ⟨g, h1, h2, h3⟩ := h; exact .inr ⟨es, g, rfl, h1, h2, h3⟩

set_option maxRecDepth 100000 in
set_option maxHeartbeats 16000000 in
theorem optsParse_any (which : List UInt8) (A : Option Addr) (n c : Nat) (args : List (List UInt8)) (w : World) (hw : which.length ≤ 2097152) (hr : Reads w w.heap.size 1 A n (txv args)) (hnc : n ≤ c) (hn : n ≤ 140737488351232) (hS : Fits args) :
    Calls Tryd.prog 16 #[.string (str which), .slice A n c] w fun e w' => OptsIs which args w.heap.size w' e ∧ Below w.heap.size w w' := by
  obtain ⟨i0, hi0, hz0, hz1, hz2⟩ := info_parts infoFlag
  have hl : args.length = n := by have := hr.1; rw [txv_length] at this; omega
  have HL := Lib.hid hl
  have HS := Lib.hid hS
  have hmf : ∀ (fn : Fn) (first cap : Array Value) (w : World), (Instr.makeFunc fn first cap).run Tryd.prog w = .ok (.func fn first cap) w := fun _ _ _ _ => rfl
  have hbx0 : Blk (w.alloc (.cells #[.slice A n c] 26)) w.heap.size 26 #[.slice A n c] := Blk.new w _ _
  have hB0 : Below w.heap.size w (w.alloc (.cells #[.slice A n c] 26)) := (Below.refl _ _).alloc (Nat.le_refl _) _
  have hsz0 : (w.alloc (.cells #[.slice A n c] 26)).heap.size = w.heap.size + 1 := by simp
  clear hl hS
  go_enter Tryd.func16, Tryd.ntmps16
  go_wp2_with fail
  go_step3
  go_wp2_with fail
  refine (letters_any which _ hw).mono ?_
  rintro e w1 ⟨he, hB1⟩
  rcases he.cases_ with ⟨hno, rfl⟩ | ⟨es, gm, hes, rfl, hg, hM⟩
  · have HNO := Lib.hid (optsV_bad (args := args) hno)
    clear hno
    go_wp2_with fail
    rw [Exit.noGoto_ret]
    go_ret3
    exact ⟨OptsIs.no HNO.out, hB0.trans (hB1.mono (by omega))⟩
  have HES := Lib.hid hes
  have hb01 := hB0.trans (hB1.mono (by omega))
  have hbx1 := hbx0.below hB1 (by omega)
  have hs1 := hB1.size
  rw [hsz0] at hg hs1
  have hMlt := hM.lt
  clear he hes hB1 hB0 hbx0
  have hc0 := hbx1.cell 0
  by_cases hbig : 256 < n
  · have HNO := Lib.hid (optsV_many (args := args) HES.out (by rw [HL.out]; exact hbig))
    have hbi : decide ((256 : Int) < (n : Int)) = true := decide_eq_true (by omega)
    go_wp2_with fail
    rw [Exit.noGoto_ret]
    go_ret3
    exact ⟨OptsIs.no HNO.out, hb01⟩
  have hbi : decide ((256 : Int) < (n : Int)) = false := decide_eq_false (by omega)
  -- the loop
  go_wp2_with fail
  go_step3
  go_wp2_with fail
  have hbx0 : Blk w1 w.heap.size 26 #[.slice A n c] := hbx1
  clear hbx1 hc0 hbi
  go_loopg [10] n (fun g v wx => ∃ (ws : List (List UInt8)) (fl : List FlagL) (A' : Option Addr) (c' : Nat), ws.length = g ∧ Hid (parseW es args = pre fl (parseW es ws)) ∧ Hid (fl.length + sumL ws ≤ sumL args) ∧ Hid (sumL args ≤ 4194304 ∨ ws = args) ∧ Blk wx w.heap.size 26 #[.slice A' g c'] ∧ g ≤ c' ∧ g ≤ n ∧ Reads wx w.heap.size 1 A' g (txv ws) ∧ MapI wx gm .u8 (tv es) ∧ wx.ownsRow w1.heap.size 38 2 v fl.length (flv fl) ∧ Below w.heap.size w wx ∧ w1.heap.size ≤ wx.heap.size)
  case atStart => exact ⟨args, [], A, c, HL.out, by show _ = _; unfold pre; cases parseW es args <;> simp, by show _ ≤ _; simp, Lib.hid (.inr rfl), hbx0, hnc, Nat.le_refl _, (hr.below hb01), hM, World.ownsRow_nil _ _ _ _, hb01, Nat.le_refl _⟩
  case round =>
    obtain ⟨ws, fl, A', c', hal, HP, HSm, HQ, hbx, hgc, hgn, hrd, hMr, hown, hB, hsr⟩ := hrel
    have hc0 : wr.cell? ⟨w.heap.size, 0, none⟩ = some (.slice A' gk c') := hbx.cell 0
    have hgm2 : gm < w1.heap.size := hMlt
    clear hbx0 hr hb01 hM
    rcases List.eq_nil_or_concat ws with rfl | _
    · have hg0 : gk = 0 := hal.symm
      subst hg0
      have HPF := Lib.hid (show parseW es args = some (fl, []) by rw [HP.out]; show pre fl (some ([], [])) = _; simp [pre])
      go_wp2_with fail
      refine (clone_any A' 0 c' w.heap.size [] wr hrd (by omega)).mono ?_
      rintro e w9 ⟨⟨v9, rfl, how9⟩, hB9⟩
      go_wp2_with fail
      rw [Exit.noGoto_ret]
      go_ret3
      refine ⟨OptsIs.yes (optsV_ok HES.out (by rw [HL.out]; exact hbig) HPF.out) (ownsRow_mono (own_below hown hB9) (by omega)) ?_, below_then hB hB.size hB9⟩
      have how9' := ownsRow_mono (base' := w.heap.size) how9 hB.size
      have hle : ([] : List (List UInt8)).length = 0 := by first | rfl | omega
      rw [hle]
      exact how9'
    obtain ⟨a, rest, rfl⟩ : ∃ a rest, ws = a :: rest := by
      cases ws with
      | nil => rename_i h; obtain ⟨x, y, h⟩ := h; simp at h
      | cons a rest => exact ⟨a, rest, rfl⟩
    obtain ⟨g', rfl⟩ : ∃ g', gk = g' + 1 := ⟨rest.length, by simpa using hal.symm⟩
    have hrl : rest.length = g' := by simpa using hal
    obtain ⟨ad, u, hA', had, hu, hcell⟩ := hrd.at_ (show 0 < g' + 1 by omega)
    rw [txv_at (a :: rest) 0 (by simp)] at hu
    injection hu with hu
    subst hu
    subst hA'
    have hca : wr.cell? ad = some (.string (str a)) := by simpa [Addr.add] using hcell
    have hsa : (str a).size = a.length := str_size a
    have hgI : (0 : Int) < ((g' + 1 : Nat) : Int) := by omega
    clear hcell
    by_cases hlen : a.length ≤ 1
    · have hno : isOpt a = false := by
        rcases a with _ | ⟨x, _ | ⟨y, r⟩⟩
        · rfl
        · rfl
        · simp at hlen
      have HPF := Lib.hid (show parseW es args = some (fl, a :: rest) by rw [HP.out, parseW_left es a rest hno]; simp [pre])
      have hd1 : decide ((1 : Int) < (a.length : Int)) = false := decide_eq_false (by omega)
      go_wp2_with fail
      refine (clone_any (some ad) (g' + 1) c' w.heap.size (a :: rest) wr hrd (by omega)).mono ?_
      rintro e w9 ⟨⟨v9, rfl, how9⟩, hB9⟩
      go_wp2_with fail
      rw [Exit.noGoto_ret]
      go_ret3
      refine ⟨OptsIs.yes (optsV_ok HES.out (by rw [HL.out]; exact hbig) HPF.out) (ownsRow_mono (own_below hown hB9) (by omega)) ?_, below_then hB hB.size hB9⟩
      have how9' := ownsRow_mono (base' := w.heap.size) how9 hB.size
      have hle : ((a :: rest) : List (List UInt8)).length = (g' + 1) := by first | rfl | omega
      rw [hle]
      exact how9'
    have hd1 : decide ((1 : Int) < (a.length : Int)) = true := decide_eq_true (by omega)
    obtain ⟨x, y, r, rfl⟩ : ∃ x y r, a = x :: y :: r := by
      rcases a with _ | ⟨x, _ | ⟨y, r⟩⟩
      · simp at hlen
      · simp at hlen
      · exact ⟨x, y, r, rfl⟩
    have hgx : ∀ h : 0 < (str (x :: y :: r)).size, (str (x :: y :: r))[0]'h = x := fun _ => rfl
    by_cases h45 : x = 45
    · subst h45
      have hSQ : sumL args ≤ 4194304 := by
        rcases HQ.out with h | h
        · exact h
        · rcases HS.out with h2 | ⟨x, z, h2, h3⟩
          · exact h2
          · rw [← h] at h2
            injection h2 with h2 h4
            rw [← h2] at h3
            cases h3
      have HSQ := Lib.hid hSQ
      obtain ⟨a, ha⟩ : ∃ a, a = 45 :: y :: r := ⟨_, rfl⟩
      rw [← ha] at hd1 hgx hca hsa hlen hal HP HSm hrd
      have hSa : fl.length + (a.length + sumL rest) ≤ 4194304 := by have h1 := HSm.out; rw [sumL_cons] at h1; omega
      clear hSQ HQ
      have HA := Lib.hid ha
      clear ha
      go_wp2_with fail
      refine (next_any w.heap.size w.heap.size (some ad) g' c' a rest wr hbx hgc hrd (Nat.le_refl _)).mono ?_
      rintro e w2 ⟨rfl, A2, hbx2, hrd2, hg2, hsz2⟩
      have hM2 : MapI w2 gm .u8 (tv es) := hMr.of_block (hg2.block gm hMr.lt (by simp; omega))
      have hown2 := hown.kept hg2 (.inr (fun e => by have := own_ge hown _ e; omega))
      have hB2 : Below w.heap.size w w2 := hB.grown hg2 hB.size (fun g hg => by injection hg with hg; omega)
      clear hbx hrd hMr hown hB hc0 hca
      by_cases hdash : a = [45, 45]
      · have HPF := Lib.hid (show parseW es args = some (fl, rest) by rw [HP.out, hdash, parseW_dash]; simp [pre])
        have hq1 : ((str a).toList == [45, 45]) = true := by rw [hdash, ByteArray.toList_eq]; rfl
        have hcb : w2.cell? ⟨w.heap.size, 0, none⟩ = some (.slice A2 g' (c' - 1)) := hbx2.cell 0
        clear hdash
        go_wp2_with fail
        refine (clone_any A2 g' (c' - 1) w.heap.size rest w2 hrd2 (by omega)).mono ?_
        rintro e w9 ⟨⟨v9, rfl, how9⟩, hB9⟩
        go_wp2_with fail
        rw [Exit.noGoto_ret]
        go_ret3
        refine ⟨OptsIs.yes (optsV_ok HES.out (by rw [HL.out]; exact hbig) HPF.out) (ownsRow_mono (own_below hown2 hB9) (by omega)) ?_, below_then hB2 hB2.size hB9⟩
        have how9' := ownsRow_mono (base' := w.heap.size) how9 hB2.size
        have hle : (rest : List (List UInt8)).length = g' := by first | rfl | omega
        rw [hle]
        exact how9'
      · have hq1 : ((str a).toList == [45, 45]) = false := by rw [ByteArray.toList_eq]; simpa [str] using hdash
        have HD := Lib.hid hdash
        clear hdash
        go_wp2_with fail
        have hs12 : w1.heap.size ≤ w2.heap.size := by omega
        have hopt : isOpt a = true := by rw [HA.out]; rfl
        have htl : a.tail = a.drop 1 := by rw [List.drop_one]
        have HO := Lib.hid hopt
        have HT := Lib.hid htl
        clear hopt htl hq1
        go_loopg [10, 12] (a.length - 1) (fun g v i wx => ∃ (q : Nat) (ds : List FlagL), q + g = a.length ∧ 1 ≤ q ∧ i = .int .i64 q ∧ Hid (wordV es (a.drop 1) = preW ds (wordV es (a.drop q))) ∧ ds.length + 1 = q ∧ wx.ownsRow w1.heap.size 38 2 v (fl.length + ds.length) (flv (fl ++ ds)) ∧ Below w1.heap.size w2 wx)
        case atStart => exact ⟨1, [], by omega, Nat.le_refl _, rfl, by show _ = preW [] _; unfold preW; cases wordV es (a.drop 1) <;> simp, rfl, by rw [List.append_nil]; exact hown2, Below.refl _ _⟩
        case round =>
          obtain ⟨q, ds, hqg, hq1, rfl, HW, hds, hownx, hBx⟩ := hrel
          have hbx3 := hbx2.below hBx (by omega)
          have hrd3 := hrd2.below (hBx.mono (by omega))
          have hM3 := hM2.below hBx hgm2
          have hB3 := hB2.trans (hBx.mono (by omega))
          have hsz3 := hBx.size
          cases gk with
          | zero =>
            have hqa : q = a.length := by omega
            have hqI : ¬ ((q : Int) < (a.length : Int)) := by omega
            have HP2 := Lib.hid (show parseW es args = pre (fl ++ ds) (parseW es rest) by
              rw [HP.out, pre_word HO.out HD.out (fs := ds) (by rw [HT.out, HW.out, hqa, List.drop_length]; simp [preW, wordV]), pre_pre])
            have HS2 := Lib.hid (show (fl ++ ds).length + sumL rest ≤ sumL args by have := HSm.out; rw [sumL_cons] at this; rw [List.length_append]; omega)
            go_wp2_with fail
            go_roundg g'
            case measure => omega
            case rel => exact ⟨rest, fl ++ ds, A2, c' - 1, hrl, HP2.out, HS2.out, Lib.hid (.inl HSQ.out), hbx3, by omega, by omega, hrd3, hM3, by rw [List.length_append]; exact hownx, hB3, by omega⟩
          | succ g2 =>
            have hlt : q < a.length := by omega
            have hqI : (q : Int) < (a.length : Int) := by omega
            obtain ⟨c, hc⟩ : ∃ c, a[q]? = some c := ⟨_, List.getElem?_eq_getElem hlt⟩
            have hgq := str_get a q c hc
            have HW2 := Lib.hid (show wordV es (a.drop 1) = preW ds (wordV es (c :: a.drop (q + 1))) by
              have hdr : a.drop q = c :: a.drop (q + 1) := by
                rw [List.getElem?_eq_getElem hlt] at hc
                injection hc with hc
                rw [List.drop_eq_getElem_cons hlt, hc]
              rw [HW.out, hdr])
            clear hc HW
            cases hk : look es c with
            | none =>
              have hlk := run_told hM3 c false false (by rw [hk]; rfl) (by rw [hk]; rfl)
              have HNO := Lib.hid (show parseW es args = none by
                rw [HP.out, parseW_bad es a rest HO.out HD.out (by rw [HT.out, HW2.out, wordV_cons, hk]; rfl)]; rfl)
              clear hk
              go_wp2_with fail
              rw [Exit.noGoto_ret]
              go_ret3
              exact ⟨OptsIs.no (optsV_use HES.out (by rw [HL.out]; exact hbig) HNO.out), hB3.alloc hB3.size _⟩
            | some told =>
              cases told with
              | false =>
                have hlk := run_told hM3 c false true (by rw [hk]; rfl) (by rw [hk]; rfl)
                have HW3 := Lib.hid (show wordV es (a.drop 1) = preW (ds ++ [(c, [])]) (wordV es (a.drop (q + 1))) by
                  rw [HW2.out, wordV_cons, hk]; exact preW_preW _ _ _)
                clear hk
                have hown3 := hownx.alloc (.cells #[.int .u8 (c.toNat : Int), .string { data := #[] }] 38)
                go_wp2_with (at_builtin; refine wpList_append_own _ rfl (.tmp 77) (.tmp 79) 29 rfl w1.heap.size 38 i0 (.agg #[.int .u8 0, .string { data := #[] }]) 2 24 Tryd.underlying29 hi0 hz0 hz1 hz2 rfl (by decide) _ _ _ rfl (hown3.alloc _) ⟨wr.heap.size + 1, 0, none⟩ 1 1 [.int .u8 (c.toNat : Int), .string { data := #[] }] rfl rfl (by have h := cells_new (wr.alloc (.cells #[.int .u8 (c.toNat : Int), .string { data := #[] }] 38)) #[.int .u8 (c.toNat : Int), .string { data := #[] }] 38; rw [show (wr.alloc (.cells #[.int .u8 (c.toNat : Int), .string { data := #[] }] 38)).heap.size = wr.heap.size + 1 from by simp] at h; exact h) (fl1_one (c, { data := #[] })) (by unfold maxLen; omega) (by omega) (by simp; omega) ?_; intro v4 w4 hown4 hg4 _)
                have hB4 : Below w1.heap.size w2 w4 := ((hBx.alloc (by omega) _).alloc (by simp; omega) _).grown hg4 (by simp; omega) (own_ge hownx)
                have hown5 : w4.ownsRow w1.heap.size 38 2 v4 (fl.length + (ds ++ [(c, ([] : List UInt8))]).length) (flv (fl ++ (ds ++ [(c, ([] : List UInt8))]))) := by
                  rw [← List.append_assoc, flv_append, List.length_append]
                  exact hown4
                go_wp2_with fail
                go_roundg g2
                case measure => omega
                case rel => exact ⟨q + 1, ds ++ [(c, [])], by omega, by omega, by go_num, HW3.out, by rw [List.length_append]; simp; omega, hown5, hB4⟩
              | true =>
                have hlk := run_told hM3 c true true (by rw [hk]; rfl) (by rw [hk]; rfl)
                by_cases hlast : q + 1 < a.length
                · have hlastI : ((q : Int) + 1) < (a.length : Int) := by omega
                  have hx : (str a).extract (q + 1) a.length = str (a.drop (q + 1)) := by rw [← hsa]; exact str_from a (q + 1)
                  have hne : a.drop (q + 1) ≠ [] := fun e => by have := congrArg List.length e; rw [List.length_drop] at this; simp at this; omega
                  have HP2 := Lib.hid (show parseW es args = pre (fl ++ (ds ++ [(c, a.drop (q + 1))])) (parseW es rest) by
                    rw [HP.out, pre_word HO.out HD.out (fs := ds ++ [(c, a.drop (q + 1))]) (by rw [HT.out, HW2.out, wordV_cons, hk]; simp only; rw [if_neg hne]; rfl), pre_pre])
                  clear hk hne
                  obtain ⟨X, hX⟩ : ∃ X, X = a.drop (q + 1) := ⟨_, rfl⟩
                  rw [← hX] at hx HP2
                  clear hX
                  have HS2 := Lib.hid (show (fl ++ (ds ++ [(c, X)])).length + sumL rest ≤ sumL args by have := HSm.out; rw [sumL_cons] at this; simp only [List.length_append, List.length_cons, List.length_nil]; omega)
                  have hown3 := hownx.alloc (.cells #[.int .u8 (c.toNat : Int), .string (str X)] 38)
                  go_wp2_with (at_builtin; refine wpList_append_own _ rfl (.tmp 96) (.tmp 98) 29 rfl w1.heap.size 38 i0 (.agg #[.int .u8 0, .string { data := #[] }]) 2 24 Tryd.underlying29 hi0 hz0 hz1 hz2 rfl (by decide) _ _ _ rfl (hown3.alloc _) ⟨wr.heap.size + 1, 0, none⟩ 1 1 [.int .u8 (c.toNat : Int), .string (str X)] rfl rfl (by have h := cells_new (wr.alloc (.cells #[.int .u8 (c.toNat : Int), .string (str X)] 38)) #[.int .u8 (c.toNat : Int), .string (str X)] 38; rw [show (wr.alloc (.cells #[.int .u8 (c.toNat : Int), .string (str X)] 38)).heap.size = wr.heap.size + 1 from by simp] at h; exact h) (fl1_one (c, str X)) (by unfold maxLen; omega) (by omega) (by simp; omega) ?_; intro v4 w4 hown4 hg4 _)
                  have hB4 : Below w1.heap.size w2 w4 := ((hBx.alloc (by omega) _).alloc (by simp; omega) _).grown hg4 (by simp; omega) (own_ge hownx)
                  have hown5 : w4.ownsRow w1.heap.size 38 2 v4 (fl ++ (ds ++ [(c, X)])).length (flv (fl ++ (ds ++ [(c, X)]))) := by
                    rw [← List.append_assoc, flv_append, List.length_append, List.length_append]
                    exact hown4
                  have hs4 := hB4.size
                  go_wp2_with fail
                  go_roundg g'
                  case measure => omega
                  case rel => exact ⟨rest, fl ++ (ds ++ [(c, X)]), A2, c' - 1, hrl, HP2.out, HS2.out, Lib.hid (.inl HSQ.out), hbx2.below hB4 (by omega), by omega, by omega, hrd2.below (hB4.mono (by omega)), hM2.below hB4 hgm2, hown5, hB2.trans (hB4.mono (by omega)), by omega⟩
                · have hqa : q + 1 = a.length := by omega
                  have hlastI : ¬ ((q : Int) + 1) < (a.length : Int) := by omega
                  have hdn : a.drop (q + 1) = [] := by rw [hqa, List.drop_length]
                  have HW3 := Lib.hid (show wordV es a.tail = some (ds, some c) by rw [HT.out, HW2.out, wordV_cons, hk]; simp only; rw [if_pos hdn]; simp [preW])
                  clear hk hdn
                  have hc3 : (wr.alloc (.cells #[.int .u8 (c.toNat : Int), .string { data := #[] }] 38)).cell? ⟨w.heap.size, 0, none⟩ = some (.slice A2 g' (c' - 1)) := (hbx3.alloc _).cell 0
                  rcases rest with _ | ⟨b, rest⟩
                  · have hg0 : g' = 0 := by simpa using hrl.symm
                    subst hg0
                    have HNO := Lib.hid (show parseW es args = none by rw [HP.out, parseW_want es a ds c HO.out HD.out HW3.out]; rfl)
                    go_wp2_with fail
                    go_ret3
                    exact ⟨OptsIs.no (optsV_use HES.out (by rw [HL.out]; exact hbig) HNO.out), hB3.alloc hB3.size _⟩
                  · obtain ⟨g3, rfl⟩ : ∃ g3, g' = g3 + 1 := ⟨rest.length, by simpa using hrl.symm⟩
                    have hr3 : rest.length = g3 := by simpa using hrl
                    have hgI3 : (((g3 + 1 : Nat) : Int) == 0) = false := by simp; omega
                    have HP2 := Lib.hid (show parseW es args = pre (fl ++ (ds ++ [(c, b)])) (parseW es rest) by rw [HP.out, pre_next HO.out HD.out HW3.out, pre_pre])
                    have HS2 := Lib.hid (show (fl ++ (ds ++ [(c, b)])).length + sumL rest ≤ sumL args by have := HSm.out; rw [sumL_cons, sumL_cons] at this; simp only [List.length_append, List.length_cons, List.length_nil]; omega)
                    have hown3 := hownx.alloc (.cells #[.int .u8 (c.toNat : Int), .string { data := #[] }] 38)
                    have hF3 := Blk.new wr 38 #[.int .u8 (c.toNat : Int), .string { data := #[] }]
                    have hBa : Below w1.heap.size w2 (wr.alloc (.cells #[.int .u8 (c.toNat : Int), .string { data := #[] }] 38)) := hBx.alloc (by omega) _
                    have hsa3 : (wr.alloc (.cells #[.int .u8 (c.toNat : Int), .string { data := #[] }] 38)).heap.size = wr.heap.size + 1 := by simp
                    go_wp2_with fail
                    refine (next_any w.heap.size w.heap.size A2 g3 (c' - 1) b rest _ (hbx2.below hBa (by omega)) (by omega) (hrd2.below (hBa.mono (by omega))) (Nat.le_refl _)).mono ?_
                    rintro e w3 ⟨rfl, A3, hbx5, hrd5, hg5, hsz5⟩
                    rw [hsa3] at hsz5
                    have hF5 := hF3.grown hg5 (by simp; omega)
                    have hM5 : MapI w3 gm .u8 (tv es) := (hM2.below hBa hgm2).of_block (hg5.block gm (by omega) (by simp; omega))
                    have hown5 := hown3.kept hg5 (.inr (fun e => by have := own_ge hown3 _ e; omega))
                    have hB5 : Below w.heap.size w w3 := (hB2.trans (hBa.mono (by omega))).grown hg5 (by omega) (fun g hg => by injection hg with hg; omega)
                    have f0 : w3.cell? ⟨wr.heap.size, 0, none⟩ = some (.int .u8 (c.toNat : Int)) := hF5.cell 0
                    have f1 : w3.cell? ⟨wr.heap.size, 1, none⟩ = some (.string { data := #[] }) := hF5.cell 1
                    have f2 := hF5.frozen 1
                    have hgS : w3.grownBy (w3.setCell ⟨wr.heap.size, 1, none⟩ (.string (str b))) (some wr.heap.size) := only_setCell (only_of_below (Below.refl _ _) _) (p := ⟨wr.heap.size, 1, none⟩) (.inl rfl) _
                    have hown6 := hown5.kept hgS (.inr (fun e => by have := (hownx.lt _ e).2; omega))
                    have hss : (w3.setCell ⟨wr.heap.size, 1, none⟩ (.string (str b))).heap.size = w3.heap.size := by simp [World.setCell]
                    go_wp2_with (at_builtin; go_loud (refine wpList_append_own _ rfl (.tmp 96) (.tmp 98) 29 rfl w1.heap.size 38 i0 (.agg #[.int .u8 0, .string { data := #[] }]) 2 24 Tryd.underlying29 hi0 hz0 hz1 hz2 rfl (by decide) _ _ _ rfl (hown6.alloc _) ⟨wr.heap.size + 1, 0, none⟩ 1 1 [.int .u8 (c.toNat : Int), .string (str b)] rfl rfl (by have h := cells_new (w3.setCell ⟨wr.heap.size, 1, none⟩ (.string (str b))) #[.int .u8 (c.toNat : Int), .string (str b)] 38; rw [hss, hsz5] at h; exact h) (fl1_one (c, str b)) (by unfold maxLen; omega) (by omega) (by simp [World.setCell]; omega) ?_); intro v4 w4 hown4 hg4 _)
                    have hBs : Below w.heap.size w (w3.setCell ⟨wr.heap.size, 1, none⟩ (.string (str b))) := hB5.setCell (by show w.heap.size ≤ wr.heap.size; omega) _
                    have hB1a : Below w1.heap.size (w3.setCell ⟨wr.heap.size, 1, none⟩ (.string (str b))) w4 := ((Below.refl _ _).alloc (by rw [hss]; omega) _).grown hg4 (by simp [World.setCell]; omega) (own_ge hown6)
                    have hMs := hM5.setCell ⟨wr.heap.size, 1, none⟩ (.string (str b))
                    have hbxs := Blk.far hbx5 (p := ⟨wr.heap.size, 1, none⟩) (by show w.heap.size ≠ wr.heap.size; omega) (.string (str b))
                    have hrds := hrd5.setCell (p := ⟨wr.heap.size, 1, none⟩) (by show w.heap.size ≤ wr.heap.size; omega) (.string (str b))
                    have hs4 := hB1a.size
                    rw [hss] at hs4
                    have hown7 : w4.ownsRow w1.heap.size 38 2 v4 (fl ++ (ds ++ [(c, b)])).length (flv (fl ++ (ds ++ [(c, b)]))) := by
                      rw [← List.append_assoc, flv_append, List.length_append, List.length_append]
                      exact hown4
                    go_wp2_with fail
                    go_roundg g3
                    case measure => omega
                    case rel => exact ⟨rest, fl ++ (ds ++ [(c, b)]), A3, c' - 1 - 1, hr3, HP2.out, HS2.out, Lib.hid (.inl HSQ.out), hbxs.below hB1a (by omega), by omega, by omega, hrds.below (hB1a.mono (by omega)), hMs.below hB1a hgm2, hown7, hBs.trans (hB1a.mono (by omega)), by omega⟩
    · have e5 : ((x.toNat : Int) == 45) = false := u8_lit x 45 (by omega) h45
      have hno : isOpt (x :: y :: r) = false := by show decide (x = 45) = false; exact decide_eq_false h45
      have HPF := Lib.hid (show parseW es args = some (fl, (x :: y :: r) :: rest) by rw [HP.out, parseW_left es _ rest hno]; simp [pre])
      clear h45 hno
      go_wp2_with fail
      refine (clone_any (some ad) (g' + 1) c' w.heap.size ((x :: y :: r) :: rest) wr hrd (by omega)).mono ?_
      rintro e w9 ⟨⟨v9, rfl, how9⟩, hB9⟩
      go_wp2_with fail
      rw [Exit.noGoto_ret]
      go_ret3
      refine ⟨OptsIs.yes (optsV_ok HES.out (by rw [HL.out]; exact hbig) HPF.out) (ownsRow_mono (own_below hown hB9) (by omega)) ?_, below_then hB hB.size hB9⟩
      have how9' := ownsRow_mono (base' := w.heap.size) how9 hB.size
      have hle : (((x :: y :: r) :: rest) : List (List UInt8)).length = (g' + 1) := by first | rfl | omega
      rw [hle]
      exact how9'
end Go.Proofs.YtghkdfjmahmolaaDoor
