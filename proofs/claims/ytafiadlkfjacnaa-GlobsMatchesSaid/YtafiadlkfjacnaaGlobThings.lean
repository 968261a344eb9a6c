/-
  globs.things, globs.Check: contracts.
-/
import Derived.Test.YtafiadlkfjacnaaGlobNext
namespace Go.Proofs.Ytafiadlkfjacnaa
open Go.RowKit

theorem NextIs.cases_ {l : List UInt8} {e : Ending} {w' : World} (h : NextIs l e w') :
    (nextP l = none ∧ e = .returned (.tuple #[.agg #[.int .i64 0, .nilFunc], .string (str []), .bool false])) ∨
    (∃ r, nextP l = some (none, r) ∧ e = .returned (.tuple #[.agg #[.int .i64 0, .nilFunc], .string (str r), .bool true])) ∨
    (∃ p r fn fi ca, nextP l = some (some p, r) ∧ FnIs w' (.func fn fi ca) p ∧ e = .returned (.tuple #[.agg #[.int .i64 1, .func fn fi ca], .string (str r), .bool true])) := by
  unfold NextIs at h
  cases hn : nextP l with
  | none => rw [hn] at h; exact .inl ⟨rfl, h⟩
  | some x =>
    obtain ⟨t, r⟩ := x
    rw [hn] at h
    obtain ⟨x, ht, he⟩ := h
    cases t with
    | none =>
      obtain rfl : x = (.int .i64 0, .nilFunc) := ht
      exact .inr (.inl ⟨r, rfl, he⟩)
    | some p =>
      obtain ⟨v, rfl, hf⟩ := ht
      have hfn : ∃ fn fi ca, v = .func fn fi ca := by
        rcases hf with ⟨h, _⟩ | ⟨_, _, h, _⟩ | ⟨_, _, _, _, h, _⟩ <;> exact ⟨_, _, _, h⟩
      obtain ⟨fn, fi, ca, rfl⟩ := hfn
      exact .inr (.inr ⟨p, r, fn, fi, ca, rfl, hf, he⟩)
/-- Things, as they lie. -/
def ThingsIs (w : World) (xs : List TV) (ts : List Thing) : Prop := xs.length = ts.length ∧ ∀ (i : Nat) (x : TV) (t : Thing), xs[i]? = some x → ts[i]? = some t → ThingIs w x t
theorem ThingsIs.keep {w w' : World} {xs : List TV} {ts : List Thing} (h : ThingsIs w xs ts) (k : KeepT w w') : ThingsIs w' xs ts := ⟨h.1, fun i x t hx ht => (h.2 i x t hx ht).keep k⟩
theorem ThingsIs.snoc {w : World} {xs : List TV} {ts : List Thing} {x : TV} {t : Thing} (h : ThingsIs w xs ts) (hx : ThingIs w x t) : ThingsIs w (xs ++ [x]) (ts ++ [t]) := by
  refine ⟨by simp [h.1], fun i y s hy hs => ?_⟩
  by_cases hi : i < xs.length
  · rw [List.getElem?_append_left hi] at hy
    rw [List.getElem?_append_left (by rw [← h.1]; exact hi)] at hs
    exact h.2 i y s hy hs
  · have hi2 : i = xs.length := by
      have := (List.getElem?_eq_some_iff.1 hy).1
      simp at this
      omega
    subst hi2
    rw [List.getElem?_append_right (Nat.le_refl _)] at hy
    rw [h.1, List.getElem?_append_right (Nat.le_refl _)] at hs
    simp at hy hs
    subst hy hs
    exact hx
theorem ThingsIs.nil (w : World) : ThingsIs w [] [] := ⟨rfl, fun i x t hx => by simp at hx⟩
theorem tcells_one (x : TV) (h0 : x.1.oneCell' = true) (h1 : x.2.oneCell' = true) : ∀ u ∈ tcells x, u.oneCell' = true := by
  intro u hu
  simp [tcells] at hu
  rcases hu with rfl | rfl
  · exact h0
  · exact h1
/-- What a pattern is taken for. -/
def PatIs (L : List UInt8) (base : Nat) (w' : World) (e : Ending) : Prop :=
  if 4096 < L.length then e = .returned (.tuple #[.slice none 0 0, .bool false])
  else match parse L with
    | none => ∃ v, e = .returned (.tuple #[v, .bool false])
    | some ts => ∃ v xs, e = .returned (.tuple #[v, .bool true]) ∧ w'.ownsRow base 49 2 v xs.length (sv tcells xs) ∧ ThingsIs w' xs ts
/-- How far things is. -/
def ThSt (L : List UInt8) (B : Nat) (w : World) (s l ok : Value) (wr : World) : Prop :=
  ∃ (R : List UInt8) (xs : List TV) (ts : List Thing) (b : Bool), s = .string (str R) ∧ ok = .bool b ∧ R.length + xs.length ≤ L.length ∧ wr.ownsRow B 49 2 l xs.length (sv tcells xs) ∧ ThingsIs wr xs ts ∧ Below B w wr ∧
    (b = true → parse L = (parse R).map (ts ++ ·)) ∧ (b = false → parse L = none ∧ R = [])
theorem ThSt.next {L : List UInt8} {B : Nat} {w wr w' : World} {c : UInt8} {R r : List UInt8} {xs : List TV} {ts : List Thing} {x : TV} {t : Thing} {v : Value} (hl : R.length + 1 + xs.length ≤ L.length) (hT : ThingsIs wr xs ts) (hp : parse L = (parse (c :: R)).map (ts ++ ·))
    (hn : nextP (c :: R) = some (t, r)) (hx : ThingIs w' x t) (hk : KeepT wr w') (hown : w'.ownsRow B 49 2 v (xs.length + 1) (sv tcells xs ++ tcells x)) (hB : Below B w w') : ThSt L B w (.string (str r)) v (.bool true) w' := by
  have hr := nextP_len hn
  simp at hr
  refine ⟨r, xs ++ [x], ts ++ [t], true, rfl, rfl, by simp; omega, by rw [sv_append]; simpa [sv] using hown, (hT.keep hk).snoc hx, hB, fun _ => ?_, fun h => by cases h⟩
  rw [hp, parse_cons, hn]
  cases hr2 : parse r <;> simp [hr2]
theorem ThSt.stop {L : List UInt8} {B : Nat} {w wr w' : World} {c : UInt8} {R : List UInt8} {xs : List TV} {ts : List Thing} {v : Value} (hl : R.length + 1 + xs.length ≤ L.length) (hT : ThingsIs wr xs ts) (hp : parse L = (parse (c :: R)).map (ts ++ ·))
    (hn : nextP (c :: R) = none) (hk : KeepT wr w') (hown : w'.ownsRow B 49 2 v (xs.length + 1) (sv tcells xs ++ tcells (.int .i64 0, .nilFunc))) (hB : Below B w w') : ThSt L B w (.string (str [])) v (.bool false) w' := by
  refine ⟨[], xs ++ [(.int .i64 0, .nilFunc)], ts ++ [none], false, rfl, rfl, by simp; omega, by rw [sv_append]; simpa [sv] using hown, (hT.keep hk).snoc (show ThingIs w' (.int .i64 0, .nilFunc) none from rfl), hB, fun h => (by cases h), fun _ => ⟨?_, rfl⟩⟩
  rw [hp, parse_cons, hn]
  rfl
theorem only_set2 (w : World) (g : Nat) (v v' : Value) : w.grownBy ((w.setCell ⟨g, 0, none⟩ v).setCell ⟨g, 1, none⟩ v') (some g) :=
  only_setCell (g := g) (p := ⟨g, 1, none⟩) (only_setCell (g := g) (p := ⟨g, 0, none⟩) (World.grownBy.refl w (some g)) (.inl rfl) v) (.inl rfl) v'
theorem keep_own {w w' : World} {base n : Nat} {v : Value} {xs : List Value} (h : w.ownsRow base 49 2 v n xs) (hg : w.grownBy w' v.ownBlock) : KeepT w w' := KeepT.grown h hg

set_option maxRecDepth 100000 in
set_option maxHeartbeats 2000000 in
theorem things_any (L : List UInt8) (w : World) (hL : L.length ≤ 2097152) :
    Calls Try.prog 22 #[.string (str L)] w fun e w' => PatIs L w.heap.size w' e ∧ Below w.heap.size w w' := by
  obtain ⟨i0, hi0, hz0, hz1, hz2⟩ := info_parts infoThing
  by_cases hbig : 4096 < L.length
  · have hs0 : (str L).size = L.length := str_size L
    have hd : decide ((L.length : Int) ≤ 4096) = false := by simp; omega
    go_enter Try.func22, Try.ntmps22
    go_wp2_with fail
    clear hd
    go_loopw [0, 2, 3] (fun s l ok wr => s = .string (str L) ∧ l = .slice none 0 0 ∧ ok = .bool false ∧ wr = w) (fun _ _ _ _ => 0)
    case atStart => exact ⟨rfl, rfl, rfl, rfl⟩
    case round =>
      obtain ⟨rfl, rfl, rfl, rfl⟩ := hrel
      go_wp2_with fail
      go_ret2
      refine ⟨?_, Below.refl _ _⟩
      unfold PatIs
      rw [if_pos hbig]
      rfl
  · have hs0 : (str L).size = L.length := str_size L
    have hd : decide ((L.length : Int) ≤ 4096) = true := by simp; omega
    go_enter Try.func22, Try.ntmps22
    go_wp2_with fail
    clear hs0 hd
    go_loopw [0, 2, 3] (fun s l ok wr => ThSt L w.heap.size w s l ok wr) (fun s _ _ _ => sizeS s)
    case atStart => exact ⟨L, [], [], true, rfl, rfl, by simp, World.ownsRow_nil _ _ _ _, ThingsIs.nil _, Below.refl _ _, fun _ => by cases parse L <;> simp, fun h => by cases h⟩
    case round =>
      obtain ⟨R, xs, ts, b, rfl, rfl, hRl, hown, hT, hB, hyes, hno⟩ := hrel
      have HYES := Lib.hid hyes
      have HNO := Lib.hid hno
      have HT := Lib.hid hT
      have hBsz := hB.size
      clear hyes hno hT
      cases b with
      | false =>
        obtain ⟨hpn, rfl⟩ := HNO.out rfl
        have HP := Lib.hid hpn
        clear hpn
        go_wp2_with fail
        go_ret2
        exact ⟨by unfold PatIs; rw [if_neg hbig, HP.out]; exact ⟨_, rfl⟩, hB⟩
      | true =>
        have hps := HYES.out rfl
        have HP := Lib.hid hps
        clear hps
        cases R with
        | nil =>
          have he := str_empty
          go_wp2_with fail
          go_ret2
          refine ⟨?_, hB⟩
          have := HP.out
          unfold PatIs
          rw [if_neg hbig, this, parse_nil]
          exact ⟨_, xs, rfl, hown, by simpa using HT.out⟩
        | cons c R =>
          have he := str_cons c R
          simp only [List.length_cons] at hRl
          obtain ⟨wt, hwt⟩ : ∃ wt, wt = wr.alloc (.cells #[.int .i64 0, .nilFunc] 49) := ⟨_, rfl⟩
          have hszt : wt.heap.size = wr.heap.size + 1 := by rw [hwt]; simp
          have hBt : Below wr.heap.size wr wt := by rw [hwt]; exact (Below.refl _ _).alloc (Nat.le_refl _) _
          have hth : Blk wt wr.heap.size 49 #[.int .i64 0, .nilFunc] := by rw [hwt]; exact Blk.new wr _ _
          have HWT := Lib.hid hwt
          clear hwt
          go_wp2_with fail
          rw [← HWT.out]
          refine (next_any c R _ (by omega)).mono ?_
          rintro e w2 ⟨hN, hB2⟩
          have hsz2 := hB2.size
          have ht2 := hth.below hB2 (by omega)
          have hc0 := ht2.cell 0
          have hc1 := ht2.cell 1
          have hf0 := ht2.frozen 0
          have hf1 := ht2.frozen 1
          simp only [List.getElem?_toArray, List.getElem?_cons_zero, List.getElem?_cons_succ] at hc0 hc1
          have hown2 := own_below (own_below hown hBt) hB2
          have hKT : KeepT wr w2 := (KeepT.below hBt).trans (KeepT.below hB2)
          have hBf : Below w.heap.size w w2 := below_then hB hBsz (below_then hBt (by omega) hB2)
          have HN := Lib.hid hN.cases_
          clear hN
          rcases HN.out with ⟨hn, rfl⟩ | ⟨r, hn, rfl⟩ | ⟨p, r, fn, fi, ca, hn, hfn, rfl⟩
          · have HNX := Lib.hid hn
            clear hn
            have hst := (ht2.set_ 0 (.int .i64 0)).set_ 1 (.nilFunc)
            have hown3 : ((w2.setCell ⟨wr.heap.size, 0, none⟩ (.int .i64 0)).setCell ⟨wr.heap.size, 1, none⟩ (.nilFunc)).ownsRow w.heap.size 49 2 u2 xs.length (sv tcells xs) :=
              hown2.kept (row := some wr.heap.size) (only_set2 _ _ _ _) (.inr fun e => by have := (hown.lt _ e).2; omega)
            have hKS := KeepT.set2 ht2 (.int .i64 0) (.nilFunc)
            have hBS := (hBf.setCell (p := ⟨wr.heap.size, 0, none⟩) hBsz (.int .i64 0)).setCell (p := ⟨wr.heap.size, 1, none⟩) hBsz (.nilFunc)
            have hszS : ((w2.setCell ⟨wr.heap.size, 0, none⟩ (.int .i64 0)).setCell ⟨wr.heap.size, 1, none⟩ (.nilFunc)).heap.size = w2.heap.size := by simp [World.setCell]
            have hcn := cells_new ((w2.setCell ⟨wr.heap.size, 0, none⟩ (.int .i64 0)).setCell ⟨wr.heap.size, 1, none⟩ (.nilFunc)) #[.int .i64 0, .nilFunc] 49
            rw [hszS] at hcn
            have HSZ := Lib.hid hszS
            have HCN := Lib.hid hcn
            have HKS := Lib.hid hKS
            clear hszS hcn hst hKS
            go_wp2_with (at_builtin; refine wpList_append_own _ rfl (.tmp 19) (.tmp 21) 40 rfl w.heap.size 49 i0 (.agg #[.int .i64 0, .nilFunc]) 2 16 Try.underlying40 hi0 hz0 hz1 hz2 rfl (by decide) _ _ _ rfl (hown3.alloc _) ⟨w2.heap.size, 0, none⟩ 1 1 (tcells (.int .i64 0, .nilFunc)) rfl rfl HCN.out (tcells_one _ rfl rfl) (by unfold maxLen; omega) (by omega) (by simp [World.setCell]; omega) ?_; intro v4 w4 hown4 hg4 _)
            have hK4 : KeepT w2 w4 := HKS.out.trans ((KeepT.below ((Below.refl _ _).alloc (Nat.le_refl _) (.cells #[.int .i64 0, .nilFunc] 49))).trans (KeepT.grown (hown3.alloc _) hg4))
            have hB4 : Below w.heap.size w w4 := (hBS.alloc (by rw [HSZ.out]; omega) _).grown hg4 (by simp [World.setCell]; omega) (own_ge hown3)
            go_roundw
            case rel => exact ThSt.stop hRl HT.out HP.out HNX.out (hKT.trans hK4) hown4 hB4
            case measure => simp only [sizeS, str_size, List.length_cons, List.length_nil]; omega
          · have HNX := Lib.hid hn
            clear hn
            have hst := (ht2.set_ 0 (.int .i64 0)).set_ 1 (.nilFunc)
            have hown3 : ((w2.setCell ⟨wr.heap.size, 0, none⟩ (.int .i64 0)).setCell ⟨wr.heap.size, 1, none⟩ (.nilFunc)).ownsRow w.heap.size 49 2 u2 xs.length (sv tcells xs) :=
              hown2.kept (row := some wr.heap.size) (only_set2 _ _ _ _) (.inr fun e => by have := (hown.lt _ e).2; omega)
            have hKS := KeepT.set2 ht2 (.int .i64 0) (.nilFunc)
            have hBS := (hBf.setCell (p := ⟨wr.heap.size, 0, none⟩) hBsz (.int .i64 0)).setCell (p := ⟨wr.heap.size, 1, none⟩) hBsz (.nilFunc)
            have hszS : ((w2.setCell ⟨wr.heap.size, 0, none⟩ (.int .i64 0)).setCell ⟨wr.heap.size, 1, none⟩ (.nilFunc)).heap.size = w2.heap.size := by simp [World.setCell]
            have hcn := cells_new ((w2.setCell ⟨wr.heap.size, 0, none⟩ (.int .i64 0)).setCell ⟨wr.heap.size, 1, none⟩ (.nilFunc)) #[.int .i64 0, .nilFunc] 49
            rw [hszS] at hcn
            have HSZ := Lib.hid hszS
            have HCN := Lib.hid hcn
            have HKS := Lib.hid hKS
            clear hszS hcn hst hKS
            go_wp2_with (at_builtin; refine wpList_append_own _ rfl (.tmp 19) (.tmp 21) 40 rfl w.heap.size 49 i0 (.agg #[.int .i64 0, .nilFunc]) 2 16 Try.underlying40 hi0 hz0 hz1 hz2 rfl (by decide) _ _ _ rfl (hown3.alloc _) ⟨w2.heap.size, 0, none⟩ 1 1 (tcells (.int .i64 0, .nilFunc)) rfl rfl HCN.out (tcells_one _ rfl rfl) (by unfold maxLen; omega) (by omega) (by simp [World.setCell]; omega) ?_; intro v4 w4 hown4 hg4 _)
            have hK4 : KeepT w2 w4 := HKS.out.trans ((KeepT.below ((Below.refl _ _).alloc (Nat.le_refl _) (.cells #[.int .i64 0, .nilFunc] 49))).trans (KeepT.grown (hown3.alloc _) hg4))
            have hB4 : Below w.heap.size w w4 := (hBS.alloc (by rw [HSZ.out]; omega) _).grown hg4 (by simp [World.setCell]; omega) (own_ge hown3)
            go_roundw
            case rel => exact ThSt.next hRl HT.out HP.out HNX.out (show ThingIs w4 (.int .i64 0, .nilFunc) none from rfl) (hKT.trans hK4) hown4 hB4
            case measure => simp only [sizeS, str_size, List.length_cons]; have := nextP_len HNX.out; simp at this; omega
          · have HNX := Lib.hid hn
            clear hn
            have hst := (ht2.set_ 0 (.int .i64 1)).set_ 1 (.func fn fi ca)
            have hown3 : ((w2.setCell ⟨wr.heap.size, 0, none⟩ (.int .i64 1)).setCell ⟨wr.heap.size, 1, none⟩ (.func fn fi ca)).ownsRow w.heap.size 49 2 u2 xs.length (sv tcells xs) :=
              hown2.kept (row := some wr.heap.size) (only_set2 _ _ _ _) (.inr fun e => by have := (hown.lt _ e).2; omega)
            have hKS := KeepT.set2 ht2 (.int .i64 1) (.func fn fi ca)
            have hBS := (hBf.setCell (p := ⟨wr.heap.size, 0, none⟩) hBsz (.int .i64 1)).setCell (p := ⟨wr.heap.size, 1, none⟩) hBsz (.func fn fi ca)
            have hszS : ((w2.setCell ⟨wr.heap.size, 0, none⟩ (.int .i64 1)).setCell ⟨wr.heap.size, 1, none⟩ (.func fn fi ca)).heap.size = w2.heap.size := by simp [World.setCell]
            have hcn := cells_new ((w2.setCell ⟨wr.heap.size, 0, none⟩ (.int .i64 1)).setCell ⟨wr.heap.size, 1, none⟩ (.func fn fi ca)) #[.int .i64 1, .func fn fi ca] 49
            rw [hszS] at hcn
            have HSZ := Lib.hid hszS
            have HCN := Lib.hid hcn
            have HKS := Lib.hid hKS
            clear hszS hcn hst hKS
            go_wp2_with (at_builtin; refine wpList_append_own _ rfl (.tmp 19) (.tmp 21) 40 rfl w.heap.size 49 i0 (.agg #[.int .i64 0, .nilFunc]) 2 16 Try.underlying40 hi0 hz0 hz1 hz2 rfl (by decide) _ _ _ rfl (hown3.alloc _) ⟨w2.heap.size, 0, none⟩ 1 1 (tcells (.int .i64 1, .func fn fi ca)) rfl rfl HCN.out (tcells_one _ rfl rfl) (by unfold maxLen; omega) (by omega) (by simp [World.setCell]; omega) ?_; intro v4 w4 hown4 hg4 _)
            have hK4 : KeepT w2 w4 := HKS.out.trans ((KeepT.below ((Below.refl _ _).alloc (Nat.le_refl _) (.cells #[.int .i64 1, .func fn fi ca] 49))).trans (KeepT.grown (hown3.alloc _) hg4))
            have hB4 : Below w.heap.size w w4 := (hBS.alloc (by rw [HSZ.out]; omega) _).grown hg4 (by simp [World.setCell]; omega) (own_ge hown3)
            go_roundw
            case rel => exact ThSt.next hRl HT.out HP.out HNX.out (show ThingIs w4 (.int .i64 1, .func fn fi ca) (some p) from ⟨_, rfl, hfn.keep hK4⟩) (hKT.trans hK4) hown4 hB4
            case measure => simp only [sizeS, str_size, List.length_cons]; have := nextP_len HNX.out; simp at this; omega

def okP (L : List UInt8) : Bool := decide (L.length ≤ 4096) && (parse L).isSome
def matchP (L N : List UInt8) : Bool := decide (L.length ≤ 4096) && match parse L with
  | none => false
  | some ts => gm ts N
theorem PatIs.cases_ {L : List UInt8} {base : Nat} {w' : World} {e : Ending} (h : PatIs L base w' e) :
    (okP L = false ∧ (∀ N, matchP L N = false) ∧ ∃ v, e = .returned (.tuple #[v, .bool false])) ∨
    (∃ ts v xs, parse L = some ts ∧ okP L = true ∧ (∀ N, matchP L N = gm ts N) ∧ e = .returned (.tuple #[v, .bool true]) ∧ w'.ownsRow base 49 2 v xs.length (sv tcells xs) ∧ ThingsIs w' xs ts) := by
  unfold PatIs at h
  by_cases hb : 4096 < L.length
  · rw [if_pos hb] at h
    exact .inl ⟨by unfold okP; rw [decide_eq_false (by omega)]; rfl, fun N => by unfold matchP; rw [decide_eq_false (by omega)]; rfl, _, h⟩
  · rw [if_neg hb] at h
    cases hp : parse L with
    | none =>
      rw [hp] at h
      exact .inl ⟨by unfold okP; rw [hp]; simp, fun N => by unfold matchP; rw [hp]; simp, h⟩
    | some ts =>
      rw [hp] at h
      obtain ⟨v, xs, he, hown, hT⟩ := h
      exact .inr ⟨ts, v, xs, rfl, by unfold okP; rw [hp, decide_eq_true (by omega)]; rfl, fun N => by unfold matchP; rw [hp, decide_eq_true (by omega)]; rfl, he, hown, hT⟩
set_option maxHeartbeats 400000 in
theorem check_any (L : List UInt8) (w : World) (hL : L.length ≤ 2097152) :
    Calls Try.prog 14 #[.string (str L)] w fun e w' => e = .returned (.bool (okP L)) ∧ Below w.heap.size w w' := by
  go_enter Try.func14, Try.ntmps14
  go_wp2_with fail
  refine (things_any L w hL).mono ?_
  rintro e w2 ⟨hP, hB⟩
  rcases hP.cases_ with ⟨ho, _, v, rfl⟩ | ⟨ts, v, xs, _, ho, _, rfl, _⟩
  all_goals
    have HO := Lib.hid ho
    clear ho
    go_wp2_with fail
    go_ret
    exact ⟨ret_bool HO.out.symm, hB⟩
end Go.Proofs.Ytafiadlkfjacnaa
