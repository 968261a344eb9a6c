/-
  CodecBack: the law's walk.
-/
import Derived.Test.YtejneiakpeeamaaSameCall
namespace Go.Proofs.Ytejneiakpeeamaa
open Go.RowKit

def tupT (x : CallV) (data : List UInt8) : CallT := (x.kind, x.path.data.toList, x.other.data.toList, x.mode, x.user, x.group, x.time, data, x.eu, x.eg, x.em, x.ed)
theorem tup_enc (x : CallV) (data : List UInt8) : encCall x data = encCT (tupT x data) := rfl
theorem tup_cells (x : CallV) (data : List UInt8) (d : Value) : callCells (tupT x data) d = cc (.int .u8 (x.kind.toNat : Int)) (.string x.path) (.string x.other) (.int .i64 x.mode) (.int .i64 x.user) (.int .i64 x.group) (.int .i64 x.time) d (.int .i64 x.eu) (.int .i64 x.eg) (.int .i64 x.em) (.int .i64 x.ed) := by
  simp [callCells, tupT, cc]
def IntsOk (x : CallV) : Prop := isI64 x.mode ∧ isI64 x.user ∧ isI64 x.group ∧ isI64 x.time ∧ isI64 x.eu ∧ isI64 x.eg ∧ isI64 x.em ∧ isI64 x.ed
theorem tup_ok (x : CallV) (data : List UInt8) (hi : IntsOk x) (hd : data.length = x.n) (hb : callBad x = false) : okCT (tupT x data) := by
  simp only [callBad, Bool.or_eq_false_iff, decide_eq_false_iff_not] at hb
  obtain ⟨h1, h2, h3, h4, h5, h6, h7, h8⟩ := hi
  refine ⟨?_, ?_, h1, h2, h3, h4, by omega, h5, h6, h7, h8⟩
  · rw [Array.length_toList]; show x.path.size ≤ _; omega
  · rw [Array.length_toList]; show x.other.size ≤ _; omega
theorem GotV.good_ {β : Nat} {L : List UInt8} {w : World} {v : Value} {T : CallT} {k : Nat} (h : GotV β L w v) (e : rCall L ⟨0, false⟩ = (T, ⟨k, false⟩)) :
    ∃ gd, β ≤ gd ∧ v = .tuple #[.agg (callCells T (.slice (some ⟨gd, 0, none⟩) T.2.2.2.2.2.2.2.1.length T.2.2.2.2.2.2.2.1.length)), .int .i64 (k : Int), .int .i64 0] ∧ Buf w gd T.2.2.2.2.2.2.2.1.length (fun j => .int .u8 ((T.2.2.2.2.2.2.2.1.getD j 0).toNat : Int)) := by
  unfold GotV at h
  rw [e] at h
  rcases h with ⟨h, _⟩ | ⟨_, gd, h1, h2, h3⟩
  · cases h
  · exact ⟨gd, h1, h2, h3⟩
theorem buf_reads {w : World} {gd B : Nat} {l : List UInt8} (h : Buf w gd l.length (fun j => .int .u8 ((l.getD j 0).toNat : Int))) (hB : gd < B) : Reads w B 1 (some ⟨gd, 0, none⟩) l.length (bv l) :=
  h.reads (by simp [bv]) (Nat.le_refl _) (fun j hj => by rw [bv_get l j hj, List.getD_eq_getElem?_getD, List.getElem?_eq_getElem hj]; rfl) hB

theorem own_cap {w : World} {base n c : Nat} {e : TypeId} {A : Option Addr} {xs : List Value} (h : w.ownsRow base e 1 (.slice A n c) n xs) : n ≤ c ∧ c ≤ 9223372036854775807 := by
  rcases h.2 with ⟨e1, h0⟩ | ⟨g, cap, cur, hv, _, _, hnc, hcm, _⟩
  · injection e1 with _ h1 h2; omega
  · injection hv with _ _ h2; subst h2; exact ⟨hnc, hcm⟩
set_option maxHeartbeats 2000000 in
set_option maxRecDepth 100000 in
theorem codecBack_walk (x : CallV) (data : List UInt8) (A : Option Addr) (n c : Nat) (more : List UInt8) (w : World) (hi : IntsOk x) (hr : Reads w w.heap.size 1 x.A x.n (bv data)) (h1 : x.path.size ≤ 1125899906842) (h2 : x.other.size ≤ 1125899906842) (h3 : x.n ≤ 1125899906842)
    (hrm : Reads w w.heap.size 1 A n (bv more)) (hn : n ≤ 140737488351232) :
    Calls Try.prog 4 #[.agg (callC x), .slice A n c] w fun e w' => e = .returned (.bool true) ∧ Below w.heap.size w w' := by
  obtain ⟨i0, hi0, hz0, hz1, hz2⟩ := info_parts infoU8
  have hdl : data.length = x.n := by have := hr.1; simp [bv] at this; exact this
  have hok := tup_ok x data hi hdl
  have HOK := Lib.hid hok
  have hcc : callC x = cc (.int .u8 (x.kind.toNat : Int)) (.string x.path) (.string x.other) (.int .i64 x.mode) (.int .i64 x.user) (.int .i64 x.group) (.int .i64 x.time) (.slice x.A x.n x.c) (.int .i64 x.eu) (.int .i64 x.eg) (.int .i64 x.em) (.int .i64 x.ed) := rfl
  obtain ⟨wb, hwb⟩ : ∃ wb, wb = w.alloc (.cells (callC x) 33) := ⟨_, rfl⟩
  have hBb : Below w.heap.size w wb := by rw [hwb]; exact (Below.refl _ _).alloc (Nat.le_refl _) _
  have hbox : Blk wb w.heap.size 33 (callC x) := by rw [hwb]; exact Blk.new _ _ _
  have hput := put_any x data wb ((hr.below hBb).more hBb.size) h1 h2 h3
  have HPUT := Lib.hid hput
  clear hput hok
  have HDL := Lib.hid hdl
  clear hdl
  rw [hcc] at hwb hbox HPUT ⊢
  simp only [cc] at hwb HPUT ⊢
  go_enter Try.func4, Try.ntmps4
  go_wp2_with fail
  rw [← hwb]
  clear hwb
  refine HPUT.out.mono ?_
  rintro e w1 ⟨⟨v, rfl, hv⟩, hB1⟩
  have hrm1 := (((hrm.below hBb).more hBb.size).below hB1).more hB1.size
  have hr1 := (((hr.below hBb).more hBb.size).below hB1).more hB1.size
  have hB01 := below_then hBb hBb.size hB1
  rcases hv with ⟨hbad, rfl⟩ | ⟨hbad, A1, c1, rfl, hown⟩
  · clear HPUT
    go_wp2_with fail
    refine (lives_any _).mono ?_
    rintro e w2 ⟨rfl, hB2⟩
    go_wp2_with fail
    go_ret
    exact ⟨rfl, below_then hB01 hB01.size hB2⟩
  · rw [tup_enc] at hown ⊢
    have hT := HOK.out hbad
    obtain ⟨L, hL⟩ : ∃ L, L = encCT (tupT x data) := ⟨_, rfl⟩
    rw [← hL] at hown ⊢
    clear HPUT hbad
    by_cases hb : 3000 < L.length
    · clear hL
      go_wp2_with fail
      refine (lives_any _).mono ?_
      rintro e w2 ⟨rfl, hB2⟩
      go_wp2_with fail
      go_ret
      exact ⟨rfl, below_then hB01 hB01.size hB2⟩
    · by_cases hb2 : 3000 < n
      · clear hL
        go_wp2_with fail
        refine (lives_any _).mono ?_
        rintro e w2 ⟨rfl, hB2⟩
        go_wp2_with fail
        go_ret
        exact ⟨rfl, below_then hB01 hB01.size hB2⟩
      · have hrl := Reads.of_own hown
        have HL := Lib.hid hL
        clear hL
        have hmn : more.length = n := by have := hrm.1; simp [bv] at this; exact this
        have HMN := Lib.hid hmn
        clear hmn
        go_wp2_with (first
          | (at_builtin; refine wpList_append_any _ rfl (.const (.slice none 0 0)) (.tmp 42) 22 rfl w1.heap.size 5 i0 (.int .u8 0) 1 1 Try.underlying22 hi0 hz0 hz1 hz2 rfl (by decide) (.slice none 0 0) 0 [] rfl (World.ownsRow_nil _ _ _ _) w1.heap.size A1 L.length L.length (bv L) rfl hrl (bv_one L) (by unfold maxLen; omega) (by omega) (Nat.le_refl _) ?_; intro v2 w2 hown2 hg2 hat2; have hk2 := (Below.refl w1.heap.size w1).grown hg2 (Nat.le_refl _) (by intro q hq; simp [Value.ownBlock] at hq); have hrm2 := (hrm1.below hk2).more hk2.size; rw [List.nil_append, Nat.zero_add] at hown2)
          | (at_builtin; refine wpList_append_any _ rfl (.tmp 43) (.tmp 44) 22 rfl w1.heap.size 5 i0 (.int .u8 0) 1 1 Try.underlying22 hi0 hz0 hz1 hz2 rfl (by decide) v2 L.length (bv L) rfl hown2 w2.heap.size A n c (bv more) rfl hrm2 (bv_one more) (by unfold maxLen; omega) (by omega) hk2.size ?_; intro v3 w3 hown3 hg3 hat3))
        have hk3 := hk2.grown hg3 hk2.size (own_ge hown2)
        obtain ⟨A3, c3, rfl⟩ := own_slice hown3
        have hrm3 := (hrm1.below hk3).more hk3.size
        have hrl3 := (hrl.below hk3).more hk3.size
        have hr3 := Reads.of_own hown3
        rw [show bv L ++ bv more = bv (L ++ more) from by simp [bv]] at hr3
        have hcap := own_cap hown3
        have hcb := call_back (tupT x data) more hT
        rw [← HL.out] at hcb
        refine (get_any A3 (L.length + n) c3 (L ++ more) w3 hr3 (by omega) hcap.1 hcap.2).mono ?_
        rintro e w4 ⟨⟨v, rfl, hv⟩, hB4⟩
        obtain ⟨gd, hgd, rfl, hbuf⟩ : ∃ gd, w3.heap.size ≤ gd ∧ v = .tuple #[.agg (cc (.int .u8 (x.kind.toNat : Int)) (.string x.path) (.string x.other) (.int .i64 x.mode) (.int .i64 x.user) (.int .i64 x.group) (.int .i64 x.time) (.slice (some ⟨gd, 0, none⟩) x.n x.n) (.int .i64 x.eu) (.int .i64 x.eg) (.int .i64 x.em) (.int .i64 x.ed)), .int .i64 (L.length : Int), .int .i64 0] ∧ Buf w4 gd x.n (fun j => .int .u8 ((data.getD j 0).toNat : Int)) := by
          obtain ⟨gd, a, b, c⟩ := hv.good_ hcb
          rw [tup_cells] at b
          exact ⟨gd, a, by rw [← HDL.out]; exact b, by rw [← HDL.out]; exact c⟩
        simp only [cc]
        have hdr : Reads w4 w4.heap.size 1 (some ⟨gd, 0, none⟩) x.n (bv data) := by rw [← HDL.out] at hbuf ⊢; exact buf_reads hbuf hbuf.lt
        have hB03 : Below w.heap.size w w4 := below_then hB01 hB01.size (below_then hk3 hk3.size hB4)
        have hB13 : Below w1.heap.size w1 w4 := below_then hk3 hk3.size hB4
        have hb4 := hbox.below (below_then hB1 hB1.size hB13) hbox.lt
        have hrx4 := (hr1.below hB13).more hB13.size
        have hrl4 := (hrl3.below hB4).more hB4.size
        obtain ⟨w5, hw5⟩ : ∃ w5, w5 = w4.alloc (.cells #[.int .u8 (x.kind.toNat : Int), .string x.path, .string x.other, .int .i64 x.mode, .int .i64 x.user, .int .i64 x.group, .int .i64 x.time, .slice (some ⟨gd, 0, none⟩) x.n x.n, .int .i64 x.eu, .int .i64 x.eg, .int .i64 x.em, .int .i64 x.ed] 33) := ⟨_, rfl⟩
        have hB5 : Below w4.heap.size w4 w5 := by rw [hw5]; exact (Below.refl _ _).alloc (Nat.le_refl _) _
        have hb5 := hb4.below hB5 hb4.lt
        have hB05 := below_then hB03 hB03.size hB5
        have hrx5 := (hrx4.below hB5).more hB5.size
        have hrl5 := (hrl4.below hB5).more hB5.size
        have hdr5 := (hdr.below hB5).more hB5.size
        have q0 : w5.cell? ⟨w.heap.size, 0, none⟩ = some (.int .u8 (x.kind.toNat : Int)) := hb5.cell 0
        have q1 : w5.cell? ⟨w.heap.size, 1, none⟩ = some (.string x.path) := hb5.cell 1
        have q2 : w5.cell? ⟨w.heap.size, 2, none⟩ = some (.string x.other) := hb5.cell 2
        have q3 : w5.cell? ⟨w.heap.size, 3, none⟩ = some (.int .i64 x.mode) := hb5.cell 3
        have q4 : w5.cell? ⟨w.heap.size, 4, none⟩ = some (.int .i64 x.user) := hb5.cell 4
        have q5 : w5.cell? ⟨w.heap.size, 5, none⟩ = some (.int .i64 x.group) := hb5.cell 5
        have q6 : w5.cell? ⟨w.heap.size, 6, none⟩ = some (.int .i64 x.time) := hb5.cell 6
        have q7 : w5.cell? ⟨w.heap.size, 7, none⟩ = some (.slice x.A x.n x.c) := hb5.cell 7
        have q8 : w5.cell? ⟨w.heap.size, 8, none⟩ = some (.int .i64 x.eu) := hb5.cell 8
        have q9 : w5.cell? ⟨w.heap.size, 9, none⟩ = some (.int .i64 x.eg) := hb5.cell 9
        have q10 : w5.cell? ⟨w.heap.size, 10, none⟩ = some (.int .i64 x.em) := hb5.cell 10
        have q11 : w5.cell? ⟨w.heap.size, 11, none⟩ = some (.int .i64 x.ed) := hb5.cell 11
        rw [hw5] at q0 q1 q2 q3 q4 q5 q6 q7 q8 q9 q10 q11
        have HW5 := Lib.hid hw5
        clear hw5 hcb hv hbuf hr3 hrm3 hrl3 hown3 hown hB4 hb4 hrx4 hrl4 hdr hb5 hbox hk2 hk3 hB13
        go_wp2_with fail
        rw [← HW5.out]
        refine (sameCall_eq _ _ _ _ _ _ _ _ _ _ _ _ _ _ _ _ data w5 hdr5 hrx5 (by omega)).mono ?_
        rintro e w6 ⟨rfl, hB6⟩
        have hrl6 := (hrl5.below hB6).more hB6.size
        have hB06 := below_then hB05 hB05.size hB6
        clear q0 q1 q2 q3 q4 q5 q6 q7 q8 q9 q10 q11 hrl5 hdr5 hrx5 hB6 HW5 hrl hr1 hr hrm hrm1 hB05 hB03 hB01 hB5
        go_wp2_with fail
        go_loopw [10] (fun i wr => ∃ k : Nat, k ≤ L.length ∧ i = .int .i64 k ∧ Below w6.heap.size w6 wr) (fun i _ => L.length - (intOf i).toNat)
        case atStart => exact ⟨0, Nat.zero_le _, rfl, Below.refl _ _⟩
        case round =>
          obtain ⟨k, hk, rfl, hBr⟩ := hrel
          have hbs := hBr.size
          by_cases hlt : k < L.length
          · go_wp2_with fail
            refine (get_any A1 k L.length (L.take k) wr (((hrl6.below hBr).more hBr.size).take (by omega)) (by omega) (by omega) (by omega)).mono ?_
            rintro e w7 ⟨⟨v, rfl, hv⟩, hB7⟩
            have hsh : (rCall (L.take k) ⟨0, false⟩).2.bad = true := by rw [HL.out]; exact call_short _ hT k (by rw [← HL.out]; exact hlt)
            obtain rfl := hv.bad_ hsh
            simp only [callZero]
            clear hv hsh
            have hb7 := hB7.size
            go_wp2_with fail
            go_roundw
            case rel => exact ⟨k + 1, by omega, by go_num, below_then hBr hBr.size (hB7.alloc hb7 _)⟩
            case measure => simp [intOf]; omega
          · go_wp2_with fail
            refine (lives_any wr).mono ?_
            rintro e w7 ⟨rfl, hB7⟩
            go_wp2_with fail
            go_ret
            exact ⟨rfl, below_then hB06 hB06.size (below_then hBr hBr.size hB7)⟩
end Go.Proofs.Ytejneiakpeeamaa
