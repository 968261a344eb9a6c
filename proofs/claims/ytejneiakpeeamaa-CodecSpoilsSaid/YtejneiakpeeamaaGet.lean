/-
  codec.Get: its contract.
-/
import Derived.Test.YtejneiakpeeamaaRead3
import Derived.ChangeAlike
import Derived.RegionTactic
import Derived.Outline
namespace Go.Proofs.Ytejneiakpeeamaa
open Go.RowKit

theorem infoReader : (Try.prog.info? 62).map (fun i => (i.zero, i.size, i.bytes)) = some (some (.agg #[.slice none 0 0, .int .i64 0, .bool false]), 3, 40) := by kernel_rfl
def callCells (x : CallT) (d : Value) : Array Value :=
  #[.int .u8 (x.1.toNat : Int), .string ⟨x.2.1.toArray⟩, .string ⟨x.2.2.1.toArray⟩, .int .i64 x.2.2.2.1, .int .i64 x.2.2.2.2.1, .int .i64 x.2.2.2.2.2.1, .int .i64 x.2.2.2.2.2.2.1, d, .int .i64 x.2.2.2.2.2.2.2.2.1, .int .i64 x.2.2.2.2.2.2.2.2.2.1, .int .i64 x.2.2.2.2.2.2.2.2.2.2.1, .int .i64 x.2.2.2.2.2.2.2.2.2.2.2]
def callZero : Array Value := #[.int .u8 0, .string ByteArray.empty, .string ByteArray.empty, .int .i64 0, .int .i64 0, .int .i64 0, .int .i64 0, .slice none 0 0, .int .i64 0, .int .i64 0, .int .i64 0, .int .i64 0]
def cc (k p o m u g t d a b e f : Value) : Array Value := #[k, p, o, m, u, g, t, d, a, b, e, f]
/-- What Get tells. -/
def GotV (β : Nat) (L : List UInt8) (w : World) (v : Value) : Prop :=
  ((rCall L ⟨0, false⟩).2.bad = true ∧ v = .tuple #[.agg callZero, .int .i64 0, .int .i64 5]) ∨
  ((rCall L ⟨0, false⟩).2.bad = false ∧ ∃ gd, β ≤ gd ∧ v = .tuple #[.agg (callCells (rCall L ⟨0, false⟩).1 (.slice (some ⟨gd, 0, none⟩) (rCall L ⟨0, false⟩).1.2.2.2.2.2.2.2.1.length (rCall L ⟨0, false⟩).1.2.2.2.2.2.2.2.1.length)), .int .i64 ((rCall L ⟨0, false⟩).2.at_ : Int), .int .i64 0] ∧
    Buf w gd (rCall L ⟨0, false⟩).1.2.2.2.2.2.2.2.1.length (fun j => .int .u8 (((rCall L ⟨0, false⟩).1.2.2.2.2.2.2.2.1.getD j 0).toNat : Int)))

theorem rPair_mk {α β : Type} {f : RS → α × RS} {g : RS → β × RS} {s s1 s2 : RS} {a : α} {b : β} (h1 : f s = (a, s1)) (h2 : g s1 = (b, s2)) : rPair f g s = ((a, b), s2) := by
  unfold rPair; rw [h1, h2]
/-- How far Get is: its reader in block g, its answer in block gc. -/
structure GS (g gc : Nat) (A : Option Addr) (n c : Nat) (L : List UInt8) (B : Nat) (T : TypeId) (w0 : World) (s : RS) (C : Array Value) (w : World) : Prop where
  rd : IsR g A n c s w
  bx : Blk w gc T C
  k : WK gc (some g) w0 w (some g)
  rr : Reads w B 1 A n (bv L)
  at_ : s.at_ ≤ n
  hB : B ≤ g ∧ B ≤ gc ∧ gc ≠ g
section
variable {g gc : Nat} {A : Option Addr} {n c : Nat} {L : List UInt8} {B : Nat} {T : TypeId} {w0 w w' : World} {s s' : RS} {C : Array Value}
theorem GS.len (h : GS g gc A n c L B T w0 s C w) : L.length = n := by have := h.rr.1; simp [bv] at this; exact this
theorem GS.read (h : GS g gc A n c L B T w0 s C w) (hR : IsR g A n c s' w') (hk : WK g none w w' none) (hs : s'.at_ ≤ L.length) : GS g gc A n c L B T w0 s' C w' :=
  ⟨hR, (hk.block gc (Blk.lt h.bx) h.hB.2.2 (by simp)).trans h.bx, h.k.trans hk.two, hk.rd h.rr h.hB.1 h.rd.lt, by rw [← h.len]; exact hs, h.hB⟩
theorem GS.set_ (h : GS g gc A n c L B T w0 s C w) (i : Nat) (v : Value) : GS g gc A n c L B T w0 s (C.setIfInBounds i v) (w.setCell ⟨gc, i, none⟩ v) :=
  ⟨Blk.far h.rd (p := ⟨gc, i, none⟩) (fun e => h.hB.2.2 e.symm) v, h.bx.set_ i v, h.k.trans (wk_setCell gc (some g) i v w), h.rr.setCell (p := ⟨gc, i, none⟩) h.hB.2.1 v, h.at_, h.hB⟩
theorem GS.nums (h : GS g gc A n c L B T w0 s C w) {C' : Array Value} (hR : IsR g A n c s' w') (hb : Blk w' gc T C') (hk : WK gc (some g) w w' (some g)) (hs : s'.at_ ≤ L.length) : GS g gc A n c L B T w0 s' C' w' :=
  ⟨hR, hb, h.k.trans hk, by
    refine ⟨h.rr.1, fun h0 => ?_⟩
    obtain ⟨ad, e, hlt', hc'⟩ := h.rr.2 h0
    refine ⟨ad, e, hlt', fun j u hu => ?_⟩
    have hb' := hk.block ad.block (by have := h.rd.lt; have := h.hB.1; omega) (by have := h.hB.2.1; omega) (fun e => by injection e with e; have := h.hB.1; omega)
    rw [← hc' j u hu]
    simp only [World.cell?, block_of_add, hb'], by rw [← h.len]; exact hs, h.hB⟩
theorem GS.below (h : GS g gc A n c L B T w0 s C w) (hb : Below w.heap.size w w') : GS g gc A n c L B T w0 s C w' :=
  ⟨Blk.below h.rd hb h.rd.lt, Blk.below h.bx hb (Blk.lt h.bx), h.k.trans ⟨hb.os, hb.tape, hb.output, hb.size, fun k hk _ _ => hb.block k hk, .inl rfl⟩, h.rr.keep fun p hp => hb.cell (by have := h.rd.lt; have := h.hB.1; omega), h.at_, h.hB⟩
theorem GS.alloc (h : GS g gc A n c L B T w0 s C w) (o : Obj) : GS g gc A n c L B T w0 s C (w.alloc o) := h.below ((Below.refl _ _).alloc (Nat.le_refl _) _)
theorem GS.drewN (h : GS g gc A n c L B T w0 s C w) (k : Nat) : GS g gc A n c L B T w0 s C (w.drewN k) := h.below (below_drewN (Below.refl _ _) k)
end
theorem GS.all12 {g gc : Nat} {A : Option Addr} {n c : Nat} {L : List UInt8} {B : Nat} {T : TypeId} {w0 w : World} {s : RS} {a0 a1 a2 a3 a4 a5 a6 a7 a8 a9 a10 a11 : Value} (h : GS g gc A n c L B T w0 s (cc a0 a1 a2 a3 a4 a5 a6 a7 a8 a9 a10 a11) w) (v0 v1 v2 v3 v4 v5 v6 v7 v8 v9 v10 v11 : Value) :
    GS g gc A n c L B T w0 s (cc v0 v1 v2 v3 v4 v5 v6 v7 v8 v9 v10 v11) ((((((((((((w.setCell ⟨gc, 0, none⟩ v0).setCell ⟨gc, 1, none⟩ v1).setCell ⟨gc, 2, none⟩ v2).setCell ⟨gc, 3, none⟩ v3).setCell ⟨gc, 4, none⟩ v4).setCell ⟨gc, 5, none⟩ v5).setCell ⟨gc, 6, none⟩ v6).setCell ⟨gc, 7, none⟩ v7).setCell ⟨gc, 8, none⟩ v8).setCell ⟨gc, 9, none⟩ v9).setCell ⟨gc, 10, none⟩ v10).setCell ⟨gc, 11, none⟩ v11) := by
  have h0 : GS g gc A n c L B T w0 s (cc v0 a1 a2 a3 a4 a5 a6 a7 a8 a9 a10 a11) _ := h.set_ 0 v0
  have h1 : GS g gc A n c L B T w0 s (cc v0 v1 a2 a3 a4 a5 a6 a7 a8 a9 a10 a11) _ := h0.set_ 1 v1
  have h2 : GS g gc A n c L B T w0 s (cc v0 v1 v2 a3 a4 a5 a6 a7 a8 a9 a10 a11) _ := h1.set_ 2 v2
  have h3 : GS g gc A n c L B T w0 s (cc v0 v1 v2 v3 a4 a5 a6 a7 a8 a9 a10 a11) _ := h2.set_ 3 v3
  have h4 : GS g gc A n c L B T w0 s (cc v0 v1 v2 v3 v4 a5 a6 a7 a8 a9 a10 a11) _ := h3.set_ 4 v4
  have h5 : GS g gc A n c L B T w0 s (cc v0 v1 v2 v3 v4 v5 a6 a7 a8 a9 a10 a11) _ := h4.set_ 5 v5
  have h6 : GS g gc A n c L B T w0 s (cc v0 v1 v2 v3 v4 v5 v6 a7 a8 a9 a10 a11) _ := h5.set_ 6 v6
  have h7 : GS g gc A n c L B T w0 s (cc v0 v1 v2 v3 v4 v5 v6 v7 a8 a9 a10 a11) _ := h6.set_ 7 v7
  have h8 : GS g gc A n c L B T w0 s (cc v0 v1 v2 v3 v4 v5 v6 v7 v8 a9 a10 a11) _ := h7.set_ 8 v8
  have h9 : GS g gc A n c L B T w0 s (cc v0 v1 v2 v3 v4 v5 v6 v7 v8 v9 a10 a11) _ := h8.set_ 9 v9
  have h10 : GS g gc A n c L B T w0 s (cc v0 v1 v2 v3 v4 v5 v6 v7 v8 v9 v10 a11) _ := h9.set_ 10 v10
  have h11 : GS g gc A n c L B T w0 s (cc v0 v1 v2 v3 v4 v5 v6 v7 v8 v9 v10 v11) _ := h10.set_ 11 v11
  exact h11
theorem Buf.far12 {w : World} {gd k gc : Nat} {f : Nat → Value} (h : Buf w gd k f) (hne : gd ≠ gc) (v0 v1 v2 v3 v4 v5 v6 v7 v8 v9 v10 v11 : Value) : Buf ((((((((((((w.setCell ⟨gc, 0, none⟩ v0).setCell ⟨gc, 1, none⟩ v1).setCell ⟨gc, 2, none⟩ v2).setCell ⟨gc, 3, none⟩ v3).setCell ⟨gc, 4, none⟩ v4).setCell ⟨gc, 5, none⟩ v5).setCell ⟨gc, 6, none⟩ v6).setCell ⟨gc, 7, none⟩ v7).setCell ⟨gc, 8, none⟩ v8).setCell ⟨gc, 9, none⟩ v9).setCell ⟨gc, 10, none⟩ v10).setCell ⟨gc, 11, none⟩ v11) gd k f := by
  have h0 := h.far (a := ⟨gc, 0, none⟩) hne v0
  have h1 := h0.far (a := ⟨gc, 1, none⟩) hne v1
  have h2 := h1.far (a := ⟨gc, 2, none⟩) hne v2
  have h3 := h2.far (a := ⟨gc, 3, none⟩) hne v3
  have h4 := h3.far (a := ⟨gc, 4, none⟩) hne v4
  have h5 := h4.far (a := ⟨gc, 5, none⟩) hne v5
  have h6 := h5.far (a := ⟨gc, 6, none⟩) hne v6
  have h7 := h6.far (a := ⟨gc, 7, none⟩) hne v7
  have h8 := h7.far (a := ⟨gc, 8, none⟩) hne v8
  have h9 := h8.far (a := ⟨gc, 9, none⟩) hne v9
  have h10 := h9.far (a := ⟨gc, 10, none⟩) hne v10
  have h11 := h10.far (a := ⟨gc, 11, none⟩) hne v11
  exact h11
theorem results_row_tmp2 {P : Program} {fn : Func} {p t1 t2 : Tmp} {ty : TypeId} (h : fn.results = #[.cell p ty, .tmp t1, .tmp t2]) (tmps : Array Value) (w : World) (g : Nat) (t : TypeId) (cs : Array Value) (fr : Nat × Nat) (d : TypeDesc)
    (hp : tmps.getD p undef = .pointer (some ⟨g, 0, none⟩)) (hg : w.heap[g]? = some (.cells cs t fr))
    (hu : P.underlying ty = some d) (hd : (match d with | .struct _ | .array _ _ => true | _ => false) = true) (hi : (P.info? ty).map (·.size) = some cs.size) :
    (results fn tmps).run P w = .ok (.tuple #[.agg cs, tmps.getD t1 undef, tmps.getD t2 undef]) w := by
  have hp' : tmps[p]?.getD undef = .pointer (some ⟨g, 0, none⟩) := by simpa using hp
  simp [results, h, hp', asAddr, run_loadVar_row w g t ty cs fr d hg hu hd hi]
theorem infoCallSize (cs : Array Value) (h : cs.size = 12) : (Try.prog.info? 33).map (·.size) = some cs.size := by rw [h]; kernel_rfl
theorem ptrs_reads (w : World) (gc a b c d : Nat) (t : TypeId) : Reads (w.alloc (.cells #[.pointer (some ⟨gc, a, none⟩), .pointer (some ⟨gc, b, none⟩), .pointer (some ⟨gc, c, none⟩), .pointer (some ⟨gc, d, none⟩)] t)) (w.alloc (.cells #[.pointer (some ⟨gc, a, none⟩), .pointer (some ⟨gc, b, none⟩), .pointer (some ⟨gc, c, none⟩), .pointer (some ⟨gc, d, none⟩)] t)).heap.size 1 (some ⟨w.heap.size, 0, none⟩) 4 ([a, b, c, d].map fun o => (.pointer (some ⟨gc, o, none⟩) : Value)) :=
  ⟨rfl, fun _ => ⟨_, rfl, by simp, fun j x hx => by
    rw [Addr.add_lit, Nat.zero_add]
    simpa using hx⟩⟩

set_option maxHeartbeats 4000000 in
set_option maxRecDepth 100000 in
theorem get_any (A : Option Addr) (n c : Nat) (L : List UInt8) (w : World) (hr : Reads w w.heap.size 1 A n (bv L)) (hn : n ≤ 140737488351232) (hnc : n ≤ c) (hc : c ≤ 9223372036854775807) :
    Calls Try.prog 14 #[.slice A n c] w fun e w' => (∃ v, e = .returned v ∧ GotV w.heap.size L w' v) ∧ Below w.heap.size w w' := by
  go_enter Try.func14, Try.ntmps14
  go_wp2_with fail
  obtain ⟨w0, hw0⟩ : ∃ w0, w0 = ((w.alloc (.cells callZero 33)).alloc (.cells #[.slice A n c, .int .i64 0, .bool false] 62)) := ⟨_, rfl⟩
  have hsz0 : w0.heap.size = w.heap.size + 2 := by rw [hw0]; simp
  have hB0 : Below w.heap.size w w0 := by rw [hw0]; exact ((Below.refl _ _).alloc (Nat.le_refl _) _).alloc (by simp) _
  have G0 : GS (w.heap.size + 1) w.heap.size A n c L w.heap.size 33 w0 ⟨0, false⟩ callZero w0 := by
    refine ⟨?_, by rw [hw0]; exact (Blk.new w _ _).alloc _, WK.refl _ _ _, hr.below hB0, Nat.zero_le _, by omega⟩
    rw [hw0]
    have h := Blk.new (w.alloc (.cells callZero 33)) 62 #[.slice A n c, .int .i64 0, .bool false]
    simpa [IsR] using h
  have HL := Lib.hid G0.len
  simp only [callZero] at hw0
  rw [show (Obj.cells #[.int .u8 0, .string { data := #[] }, .string { data := #[] }, .int .i64 0, .int .i64 0, .int .i64 0, .int .i64 0, .slice none 0 0, .int .i64 0, .int .i64 0, .int .i64 0, .int .i64 0] 33) = (Obj.cells #[.int .u8 0, .string ByteArray.empty, .string ByteArray.empty, .int .i64 0, .int .i64 0, .int .i64 0, .int .i64 0, .slice none 0 0, .int .i64 0, .int .i64 0, .int .i64 0, .int .i64 0] 33) from rfl, ← hw0]
  clear hw0 hr
  have HB0 := Lib.hid hB0
  clear hB0
  have hlow := low_any (w.heap.size + 1) A n c L ⟨0, false⟩ 1 w.heap.size w0 G0.rd G0.rr G0.at_ (by omega) hn (by decide) hnc hc
  have hk1v := lowV_lt L ⟨0, false⟩ 1 (by decide)
  have hb1 : (UInt8.ofNat (lowV L ⟨0, false⟩ 1)).toNat = lowV L ⟨0, false⟩ 1 := by simp; omega
  have HK := Lib.hid hb1
  obtain ⟨K, hK⟩ : ∃ K, K = lowV L ⟨0, false⟩ 1 := ⟨_, rfl⟩
  rw [← hK] at hlow hk1v
  have HKK := Lib.hid hK
  clear hK hb1
  refine hlow.mono ?_
  rintro e w1 ⟨rfl, hR1, hk1⟩
  clear hlow
  have G1 := G0.read hR1 hk1 (takeS_at (Nat.zero_le _))
  clear hR1 hk1 G0
  have q0 : w1.cell? ⟨w.heap.size, 0, none⟩ = some (.int .u8 0) := G1.bx.cell 0
  have f0 := G1.bx.frozen 0
  have hKw : IntKind.u8.wrap (K : Int) = (K : Int) := by simp [IntKind.wrap, IntKind.bits, IntKind.signed]; omega
  go_wp2_with fail
  clear q0 f0 hKw
  have G1' : GS (w.heap.size + 1) w.heap.size A n c L w.heap.size 33 w0 (takeS L ⟨0, false⟩ 1) (cc (.int .u8 (K : Int)) (.string ByteArray.empty) (.string ByteArray.empty) (.int .i64 0) (.int .i64 0) (.int .i64 0) (.int .i64 0) (.slice none 0 0) (.int .i64 0) (.int .i64 0) (.int .i64 0) (.int .i64 0)) _ := G1.set_ 0 (.int .u8 (K : Int))
  clear G1
  obtain ⟨s1, hs1⟩ : ∃ s1, s1 = takeS L ⟨0, false⟩ 1 := ⟨_, rfl⟩
  rw [← hs1] at G1'
  have HS1 := Lib.hid hs1
  clear hs1
  -- the path
  refine (text_any (w.heap.size + 1) A n c L s1 w.heap.size _ G1'.rd G1'.rr G1'.at_ (by omega) hn hnc hc).mono ?_
  rintro e w2 ⟨rfl, hR2, hk2⟩
  have G2 := G1'.read hR2 hk2 (txtS_at (by rw [HL.out]; exact G1'.at_))
  clear hR2 hk2 G1'
  obtain ⟨s2, hs2⟩ : ∃ s2, s2 = txtS L s1 := ⟨_, rfl⟩
  obtain ⟨P, hP⟩ : ∃ P, P = txtV L s1 := ⟨_, rfl⟩
  rw [← hs2] at G2
  rw [← hP]
  have HS2 := Lib.hid hs2
  have HP := Lib.hid hP
  clear hs2 hP
  go_wp2_with fail
  -- the other
  refine (text_any (w.heap.size + 1) A n c L s2 w.heap.size _ G2.rd G2.rr G2.at_ (by omega) hn hnc hc).mono ?_
  rintro e w3 ⟨rfl, hR3, hk3⟩
  have G3 := G2.read hR3 hk3 (txtS_at (by rw [HL.out]; exact G2.at_))
  clear hR3 hk3 G2
  obtain ⟨s3, hs3⟩ : ∃ s3, s3 = txtS L s2 := ⟨_, rfl⟩
  obtain ⟨O, hO⟩ : ∃ O, O = txtV L s2 := ⟨_, rfl⟩
  rw [← hs3] at G3
  rw [← hO]
  have HS3 := Lib.hid hs3
  have HO := Lib.hid hO
  clear hs3 hO
  have q1 : w3.cell? ⟨w.heap.size, 1, none⟩ = some (.string ByteArray.empty) := G3.bx.cell 1
  have f1 := G3.bx.frozen 1
  have q2 : w3.cell? ⟨w.heap.size, 2, none⟩ = some (.string ByteArray.empty) := G3.bx.cell 2
  have f2 := G3.bx.frozen 2
  have hmf : ∀ (fn : Fn) (first cap : Array Value) (w : World), (Instr.makeFunc fn first cap).run Try.prog w = .ok (.func fn first cap) w := fun _ _ _ _ => rfl
  go_wp2_with fail
  clear q1 q2 f1 f2
  have hs3z := G3.rd.lt
  obtain ⟨w4, hw4⟩ : ∃ w4, w4 = (w3.setCell ⟨w.heap.size, 1, none⟩ (.string ⟨P.toArray⟩)).setCell ⟨w.heap.size, 2, none⟩ (.string ⟨O.toArray⟩) := ⟨_, rfl⟩
  have hsz4 : w4.heap.size = w3.heap.size := by rw [hw4]; simp [World.setCell]
  have G4 : GS (w.heap.size + 1) w.heap.size A n c L w.heap.size 33 w0 s3 (cc (.int .u8 (K : Int)) (.string ⟨P.toArray⟩) (.string ⟨O.toArray⟩) (.int .i64 0) (.int .i64 0) (.int .i64 0) (.int .i64 0) (.slice none 0 0) (.int .i64 0) (.int .i64 0) (.int .i64 0) (.int .i64 0)) w4 := by
    rw [hw4]; exact (G3.set_ 1 (.string ⟨P.toArray⟩)).set_ 2 (.string ⟨O.toArray⟩)
  rw [← hw4, ← hsz4]
  clear hw4 G3
  have hp4 := ptrs_reads w4 w.heap.size 3 4 5 6 68
  have G4' := G4.alloc (.cells #[.pointer (some ⟨w.heap.size, 3, none⟩), .pointer (some ⟨w.heap.size, 4, none⟩), .pointer (some ⟨w.heap.size, 5, none⟩), .pointer (some ⟨w.heap.size, 6, none⟩)] 68)
  refine (numbers_any (w.heap.size + 1) w.heap.size A n c L s3 w.heap.size w4.heap.size 4 4 33 _ [3, 4, 5, 6] _ G4'.rd G4'.rr G4'.at_ (by omega) hn hnc hc G4'.bx (Nat.le_refl _) (by omega) hp4 (by omega) (by omega) (by intro o ho; simp at ho; show o < 12; omega) (by decide)).mono ?_
  rintro e w5 ⟨rfl, hR5, hb5, hk5⟩
  have G5 : GS (w.heap.size + 1) w.heap.size A n c L w.heap.size 33 w0 (numsS L 4 s3) (cc (.int .u8 (K : Int)) (.string ⟨P.toArray⟩) (.string ⟨O.toArray⟩) (.int .i64 (numV L s3)) (.int .i64 (numV L (numsS L 1 s3))) (.int .i64 (numV L (numsS L 2 s3))) (.int .i64 (numV L (numsS L 3 s3))) (.slice none 0 0) (.int .i64 0) (.int .i64 0) (.int .i64 0) (.int .i64 0)) w5 := G4'.nums hR5 hb5 hk5 (numsS_at (by rw [HL.out]; exact G4'.at_) 4)
  clear hR5 hb5 hk5 G4' G4 hp4 hs3z hsz4
  obtain ⟨s5, hs5⟩ : ∃ s5, s5 = numsS L 4 s3 := ⟨_, rfl⟩
  rw [← hs5] at G5
  have HS5 := Lib.hid hs5
  clear hs5
  go_wp2_with fail
  -- the data
  refine (text_any (w.heap.size + 1) A n c L s5 w.heap.size _ G5.rd G5.rr G5.at_ (by omega) hn hnc hc).mono ?_
  rintro e w6 ⟨rfl, hR6, hk6⟩
  have G6 := G5.read hR6 hk6 (txtS_at (by rw [HL.out]; exact G5.at_))
  clear hR6 hk6 G5
  obtain ⟨s6, hs6⟩ : ∃ s6, s6 = txtS L s5 := ⟨_, rfl⟩
  obtain ⟨D, hD⟩ : ∃ D, D = txtV L s5 := ⟨_, rfl⟩
  rw [← hs6] at G6
  rw [← hD]
  have HS6 := Lib.hid hs6
  have HD := Lib.hid hD
  have HDL := Lib.hid (show D.length ≤ 65536 by rw [hD]; exact txtV_length _ _)
  clear hs6 hD
  have hds : (ByteArray.mk D.toArray).size = D.length := List.size_toArray
  have HDS := Lib.hid hds
  clear hds
  have hg6 := G6.rd.lt
  go_wp2_with (refine wpList_bytes_of_string _ rfl (.tmp 28) 9 22 5 rfl Try.underlying9 Try.underlying22 Try.underlying5 ⟨D.toArray⟩ rfl ?_; intro cap w7 hcap7 hbuf7 hB7 hlt7)
  rw [HDS.out] at hcap7 hbuf7
  have G7 := G6.below hB7
  clear G6
  refine (clip_any _ D.length cap _ hcap7).mono ?_
  rintro e w7' ⟨rfl, rfl⟩
  have q7 : w7.cell? ⟨w.heap.size, 7, none⟩ = some (.slice none 0 0) := G7.bx.cell 7
  have f7 := G7.bx.frozen 7
  have HBUF7 := Lib.hid hbuf7
  have HB7 := Lib.hid hB7
  clear hbuf7 hcap7 hB7
  go_wp2_with fail
  clear q7 f7
  obtain ⟨gd, hgd⟩ : ∃ gd, gd = w6.heap.size := ⟨_, rfl⟩
  rw [← hgd]
  obtain ⟨w8, hw8⟩ : ∃ w8, w8 = w7.setCell ⟨w.heap.size, 7, none⟩ (.slice (some ⟨gd, 0, none⟩) D.length D.length) := ⟨_, rfl⟩
  have hsz8 : w8.heap.size = w7.heap.size := by rw [hw8]; simp [World.setCell]
  have G8 : GS (w.heap.size + 1) w.heap.size A n c L w.heap.size 33 w0 s6 (cc (.int .u8 (K : Int)) (.string ⟨P.toArray⟩) (.string ⟨O.toArray⟩) (.int .i64 (numV L s3)) (.int .i64 (numV L (numsS L 1 s3))) (.int .i64 (numV L (numsS L 2 s3))) (.int .i64 (numV L (numsS L 3 s3))) (.slice (some ⟨gd, 0, none⟩) D.length D.length) (.int .i64 0) (.int .i64 0) (.int .i64 0) (.int .i64 0)) w8 := by
    rw [hw8]; exact G7.set_ 7 (.slice (some ⟨gd, 0, none⟩) D.length D.length)
  have hbuf8 : Buf w8 gd D.length (fun j => .int .u8 ((D.getD j 0).toNat : Int)) := by
    rw [hw8, hgd]; exact Buf.far HBUF7.out (a := ⟨w.heap.size, 7, none⟩) (by show w6.heap.size ≠ w.heap.size; omega) _
  have hgd8 : gd < w8.heap.size ∧ w.heap.size + 1 < gd := by omega
  rw [← hw8, ← hsz8]
  have HBUF8 := Lib.hid hbuf8
  clear hw8 G7 HBUF7 HB7 hbuf8
  have hp8 := ptrs_reads w8 w.heap.size 8 9 10 11 68
  have G8' := G8.alloc (.cells #[.pointer (some ⟨w.heap.size, 8, none⟩), .pointer (some ⟨w.heap.size, 9, none⟩), .pointer (some ⟨w.heap.size, 10, none⟩), .pointer (some ⟨w.heap.size, 11, none⟩)] 68)
  have hg8 := G8.rd.lt
  refine (numbers_any (w.heap.size + 1) w.heap.size A n c L s6 w.heap.size w8.heap.size 4 4 33 _ [8, 9, 10, 11] _ G8'.rd G8'.rr G8'.at_ (by omega) hn hnc hc G8'.bx (Nat.le_refl _) (by omega) hp8 (by omega) (by omega) (by intro o ho; simp at ho; show o < 12; omega) (by decide)).mono ?_
  rintro e w9 ⟨rfl, hR9, hb9, hk9⟩
  have G9 : GS (w.heap.size + 1) w.heap.size A n c L w.heap.size 33 w0 (numsS L 4 s6) (cc (.int .u8 (K : Int)) (.string ⟨P.toArray⟩) (.string ⟨O.toArray⟩) (.int .i64 (numV L s3)) (.int .i64 (numV L (numsS L 1 s3))) (.int .i64 (numV L (numsS L 2 s3))) (.int .i64 (numV L (numsS L 3 s3))) (.slice (some ⟨gd, 0, none⟩) D.length D.length) (.int .i64 (numV L s6)) (.int .i64 (numV L (numsS L 1 s6))) (.int .i64 (numV L (numsS L 2 s6))) (.int .i64 (numV L (numsS L 3 s6)))) w9 := G8'.nums hR9 hb9 hk9 (numsS_at (by rw [HL.out]; exact G8'.at_) 4)
  have hbuf9 : Buf w9 gd D.length (fun j => .int .u8 ((D.getD j 0).toNat : Int)) :=
    (HBUF8.out.alloc (.cells #[.pointer (some ⟨w.heap.size, 8, none⟩), .pointer (some ⟨w.heap.size, 9, none⟩), .pointer (some ⟨w.heap.size, 10, none⟩), .pointer (some ⟨w.heap.size, 11, none⟩)] 68)).of_block (hk9.block gd (by simp; omega) (by omega) (fun e => by injection e with e; omega))
  clear hR9 hb9 hk9 G8' G8 hp8 HBUF8
  obtain ⟨s9, hs9⟩ : ∃ s9, s9 = numsS L 4 s6 := ⟨_, rfl⟩
  rw [← hs9] at G9
  have hfin : rCall L ⟨0, false⟩ = ((UInt8.ofNat (lowV L ⟨0, false⟩ 1), P, O, numV L s3, numV L (numsS L 1 s3), numV L (numsS L 2 s3), numV L (numsS L 3 s3), D, numV L s6, numV L (numsS L 1 s6), numV L (numsS L 2 s6), numV L (numsS L 3 s6)), s9) := by
    refine rPair_mk (s1 := s1) (by rw [HS1.out]; rfl) <| rPair_mk (s1 := s2) (by rw [HP.out, HS2.out]; rfl) <| rPair_mk (s1 := s3) (by rw [HO.out, HS3.out]; rfl) <| rPair_mk (s1 := numsS L 1 s3) rfl <| rPair_mk (s1 := numsS L 2 s3) rfl <| rPair_mk (s1 := numsS L 3 s3) rfl <|
      rPair_mk (s1 := s5) (by rw [HS5.out]; rfl) <| rPair_mk (s1 := s6) (by rw [HD.out, HS6.out]; rfl) <| rPair_mk (s1 := numsS L 1 s6) rfl <| rPair_mk (s1 := numsS L 2 s6) rfl <| rPair_mk (s1 := numsS L 3 s6) rfl (by rw [hs9]; rfl)
  have HFIN := Lib.hid hfin
  have HBUF9 := Lib.hid hbuf9
  have hBf : Below w.heap.size w w9 := HB0.out.trans (G9.k.below (B := w.heap.size) (Nat.le_refl _) (by intro b hb; injection hb with hb; omega) (by omega))
  have HBF := Lib.hid hBf
  have HG9 := Lib.hid G9
  have r2 : w9.cell? ⟨w.heap.size + 1, 2, none⟩ = some (.bool s9.bad) := Blk.cell G9.rd 2
  have r1 : w9.cell? ⟨w.heap.size + 1, 1, none⟩ = some (.int .i64 (s9.at_ : Int)) := Blk.cell G9.rd 1
  have p0 := G9.bx.cell 0
  have p1 := G9.bx.cell 1
  have p2 := G9.bx.cell 2
  have p3 := G9.bx.cell 3
  have p4 := G9.bx.cell 4
  have p5 := G9.bx.cell 5
  have p6 := G9.bx.cell 6
  have p7 := G9.bx.cell 7
  have p8 := G9.bx.cell 8
  have p9 := G9.bx.cell 9
  have p10 := G9.bx.cell 10
  have p11 := G9.bx.cell 11
  have u0 := G9.bx.frozen 0
  have u1 := G9.bx.frozen 1
  have u2 := G9.bx.frozen 2
  have u3 := G9.bx.frozen 3
  have u4 := G9.bx.frozen 4
  have u5 := G9.bx.frozen 5
  have u6 := G9.bx.frozen 6
  have u7 := G9.bx.frozen 7
  have u8 := G9.bx.frozen 8
  have u9 := G9.bx.frozen 9
  have u10 := G9.bx.frozen 10
  have u11 := G9.bx.frozen 11
  simp only [cc, List.getElem?_toArray, List.getElem?_cons_zero, List.getElem?_cons_succ] at p0 p1 p2 p3 p4 p5 p6 p7 p8 p9 p10 p11
  clear hfin hs9 hbuf9 hBf G9 HS6 HS5 HS3 HS2 HS1 HP HO HD HL
  have hBK : UInt8.ofNat K = UInt8.ofNat (lowV L ⟨0, false⟩ 1) := by rw [HKK.out]
  have hKb : ((UInt8.ofNat K).toNat : Int) = (K : Int) := by rw [hBK, HK.out, ← HKK.out]
  have HKB := Lib.hid hKb
  have HBK := Lib.hid hBK
  clear hKb hBK
  obtain ⟨at9, bad9⟩ := s9
  cases bad9
  · go_wp2_with fail
    go_region
    all_goals
      go_wp2_with fail
      generalize hW : World.drew _ = wf
      have Gf : GS (w.heap.size + 1) w.heap.size A n c L w.heap.size 33 w0 ⟨at9, false⟩ (cc (.int .u8 (K : Int)) (.string ⟨P.toArray⟩) (.string ⟨O.toArray⟩) (.int .i64 (numV L s3)) (.int .i64 (numV L (numsS L 1 s3))) (.int .i64 (numV L (numsS L 2 s3))) (.int .i64 (numV L (numsS L 3 s3))) (.slice (some ⟨w6.heap.size, 0, none⟩) D.length D.length) (.int .i64 (numV L s6)) (.int .i64 (numV L (numsS L 1 s6))) (.int .i64 (numV L (numsS L 2 s6))) (.int .i64 (numV L (numsS L 3 s6)))) wf := by
        rw [← hW]
        exact (HG9.out.all12 _ _ _ _ _ _ _ _ _ _ _ _).drewN 1
      have hbf : Buf wf w6.heap.size D.length (fun j => .int .u8 ((D.getD j 0).toNat : Int)) := by
        rw [← hW, ← hgd]
        have hne : gd ≠ w.heap.size := by omega
        exact (HBUF9.out.far12 hne _ _ _ _ _ _ _ _ _ _ _ _).drew
      have hBf : Below w.heap.size w wf := HB0.out.trans (Gf.k.below (B := w.heap.size) (Nat.le_refl _) (by intro b hb; injection hb with hb; omega) (by omega))
      clear hW
      refine bodyPost_ret (v := .tuple #[.agg (callCells (UInt8.ofNat K, P, O, numV L s3, numV L (numsS L 1 s3), numV L (numsS L 2 s3), numV L (numsS L 3 s3), D, numV L s6, numV L (numsS L 1 s6), numV L (numsS L 2 s6), numV L (numsS L 3 s6)) (.slice (some ⟨w6.heap.size, 0, none⟩) D.length D.length)), .int .i64 (at9 : Int), .int .i64 0]) (by rw [show callCells (UInt8.ofNat K, P, O, numV L s3, numV L (numsS L 1 s3), numV L (numsS L 2 s3), numV L (numsS L 3 s3), D, numV L s6, numV L (numsS L 1 s6), numV L (numsS L 2 s6), numV L (numsS L 3 s6)) (.slice (some ⟨w6.heap.size, 0, none⟩) D.length D.length) = cc (.int .u8 (K : Int)) (.string ⟨P.toArray⟩) (.string ⟨O.toArray⟩) (.int .i64 (numV L s3)) (.int .i64 (numV L (numsS L 1 s3))) (.int .i64 (numV L (numsS L 2 s3))) (.int .i64 (numV L (numsS L 3 s3))) (.slice (some ⟨w6.heap.size, 0, none⟩) D.length D.length) (.int .i64 (numV L s6)) (.int .i64 (numV L (numsS L 1 s6))) (.int .i64 (numV L (numsS L 2 s6))) (.int .i64 (numV L (numsS L 3 s6))) from by unfold callCells cc; rw [HKB.out]]; refine results_row_tmp2 (p := 2) (t1 := 3) (t2 := 4) (ty := 33) ?_ _ _ w.heap.size _ _ _ _ ?_ Gf.bx Try.underlying33 rfl (infoCallSize _ rfl) <;> rfl) rfl ⟨⟨_, rfl, .inr ?_⟩, hBf⟩
      rw [HFIN.out]
      exact ⟨rfl, w6.heap.size, by omega, by rw [HBK.out], hbf⟩
  · go_wp2_with fail
    generalize hW : World.setCell _ _ _ = wf
    have Gf : GS (w.heap.size + 1) w.heap.size A n c L w.heap.size 33 w0 ⟨at9, true⟩ (cc (.int .u8 0) (.string ByteArray.empty) (.string ByteArray.empty) (.int .i64 0) (.int .i64 0) (.int .i64 0) (.int .i64 0) (.slice none 0 0) (.int .i64 0) (.int .i64 0) (.int .i64 0) (.int .i64 0)) wf := by
      rw [← hW]
      exact HG9.out.all12 _ _ _ _ _ _ _ _ _ _ _ _
    have hBf : Below w.heap.size w wf := HB0.out.trans (Gf.k.below (B := w.heap.size) (Nat.le_refl _) (by intro b hb; injection hb with hb; omega) (by omega))
    clear hW
    refine bodyPost_ret (v := .tuple #[.agg callZero, .int .i64 0, .int .i64 5]) (by refine results_row_tmp2 (p := 2) (t1 := 3) (t2 := 4) (ty := 33) ?_ _ _ w.heap.size _ _ _ _ ?_ Gf.bx Try.underlying33 rfl (infoCallSize _ rfl) <;> rfl) rfl ⟨⟨_, rfl, .inl ?_⟩, hBf⟩
    rw [HFIN.out]
    exact ⟨rfl, rfl⟩
end Go.Proofs.Ytejneiakpeeamaa
