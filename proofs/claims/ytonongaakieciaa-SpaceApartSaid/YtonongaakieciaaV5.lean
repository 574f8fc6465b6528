/- The machine's step: at the label 'touch'. -/
import Derived.Test.YtonongaakieciaaV4
namespace Go.Proofs.Ytonongaakieciaa
open Go.RowKit
set_option linter.unusedVariables false
set_option linter.unusedSimpArgs false
set_option maxRecDepth 100000
theorem trapped_any (n : Int) (w : World) : Calls Try.prog 75 #[.int .i64 n] w fun e w' => e = .returned (.agg #[.int .i64 2, .int .i64 n]) ∧ Fr [] w w' := by
  have HF := Lib.hid (fun o => (Fr.refl [] w).alloc o)
  go_enter Try.func75, Try.ntmps75
  go_wp2
  exact bodyPost_ret (v := .agg #[.int .i64 2, .int .i64 n]) (results_cell_row Try.results75 _ _ w.heap.size 65 _ (0, 0) _ rfl (Blk.new w 65 _) Try.underlying65 rfl (by kernel_rfl)) rfl ⟨rfl, HF.out _⟩
/-- What loads and stores come to. -/
def touchV (k : Nat) (x : Vm) (st : St) (t : List Pg) (a : Nat) (ad wd nx : Int) : (Int × Int) × Vm × St :=
  if k = 20 ∨ k = 21 then (if (ldR st t ad wd 1).2 ≠ 0 then ((2, 3), x, st) else ((0, 0), putP (putR x a ((ldR st t ad wd 1).1 % 4294967296)) nx, st))
  else if stE st t ad wd (x.r a) ≠ 0 then ((2, 4), x, st) else ((0, 0), putP x nx, stS st t ad wd (x.r a))
theorem stS_no {st : St} {t : List Pg} {a k n : Int} (h : stE st t a k n ≠ 0) : stS st t a k n = st := by
  unfold stE at h
  unfold stS
  split
  · rfl
  · next h1 =>
    rw [if_neg h1] at h
    split
    · rfl
    · next h2 =>
      rw [if_neg h2] at h
      unfold wrS
      rw [if_neg h]
/-- At the label 'touch'. -/
structure JTW (w : World) (v p F ev ii bt mm cap : Nat) (A : Option Addr) (k : Nat) (o1 o2 o3 : Int) (x : Vm) (st : St) (t : List Pg) (W : World) : Prop where
  hi : Blk W ii 53 #[.int .i64 (k : Int), .int .i64 o1, .int .i64 o2, .int .i64 o3]
  hv : VmAt W v x
  hm : MemAt W p F st
  ht : Tb W bt (.slice A mm cap) t
  hbt : bt < W.heap.size
  hf : Fr [] w W
  hb : Blk W ev 65 #[.int .i64 0, .int .i64 0]
  he : w.heap.size ≤ ev
  hl : v < w.heap.size ∧ F < w.heap.size
theorem JTW.fr {w W W' : World} {v p F ev ii bt mm cap : Nat} {A : Option Addr} {k : Nat} {o1 o2 o3 : Int} {x : Vm} {st : St} {t : List Pg} (h : JTW w v p F ev ii bt mm cap A k o1 o2 o3 x st t W) (hf : Fr [] W W') : JTW w v p F ev ii bt mm cap A k o1 o2 o3 x st t W' :=
  ⟨h.hi.fr hf (by simp), h.hv.fr hf (by simp), h.hm.to hf (by simp) (by simp), h.ht.fr hf (by simp), Nat.lt_of_lt_of_le h.hbt hf.size, h.hf.trans hf, h.hb.fr hf (by simp), h.he, h.hl⟩
/-- A step that traps. -/
theorem trap_end {w W : World} {v p F ev ii bt mm cap : Nat} {A : Option Addr} {k : Nat} {o1 o2 o3 : Int} {x : Vm} {st : St} {t : List Pg} (h : JTW w v p F ev ii bt mm cap A k o1 o2 o3 x st t W) (c n : Int) :
    Blk ((W.setCell ⟨ev, 0, none⟩ (.int .i64 c)).setCell ⟨ev, 1, none⟩ (.int .i64 n)) ev 65 #[.int .i64 c, .int .i64 n] ∧ StepQ w v p F (c, n) x st (.returned (.agg #[.int .i64 c, .int .i64 n])) ((W.setCell ⟨ev, 0, none⟩ (.int .i64 c)).setCell ⟨ev, 1, none⟩ (.int .i64 n)) := by
  obtain ⟨n3, n4⟩ := h.hm.ne_ev h.hb (by decide) (by decide)
  have n5 : v ≠ ev := Blk.ne_ h.hv.hb h.hb (by decide)
  have f1 := (Fr.refl [ev] W).setCell (p := ⟨ev, 0, none⟩) (.inl (by simp)) (.int .i64 c)
  have f2 := f1.setCell (p := ⟨ev, 1, none⟩) (.inl (by simp)) (.int .i64 n)
  refine ⟨(h.hb.set_ 0 _).set_ 1 _, rfl, h.hv.fr f2 (by simp; omega), h.hm.to f2 (by simp; omega) (by simp; omega), ?_⟩
  exact ((h.hf.mono (by simp)).setCell (p := ⟨ev, 0, none⟩) (.inr h.he) _).setCell (p := ⟨ev, 1, none⟩) (.inr h.he) _
/-- The same, behind a store. -/
structure JTX (w : World) (v p F ev : Nat) (x : Vm) (st : St) (W : World) : Prop where
  hv : VmAt W v x
  hm : MemAt W p F st
  hf : Fr [F] w W
  hb : Blk W ev 65 #[.int .i64 0, .int .i64 0]
  he : w.heap.size ≤ ev
theorem JTW.turn {w W W' W'' : World} {v p F ev ii bt mm cap : Nat} {A : Option Addr} {k : Nat} {o1 o2 o3 : Int} {x : Vm} {st st' : St} {t : List Pg} (h : JTW w v p F ev ii bt mm cap A k o1 o2 o3 x st t W) (hm : MemAt W' p F st') (hf : Fr [F] W W') (hf' : Fr [] W' W'') : JTX w v p F ev x st' W'' := by
  obtain ⟨n1, n2⟩ := h.hm.ne_vm h.hv
  obtain ⟨n3, n4⟩ := h.hm.ne_ev h.hb (by decide) (by decide)
  exact ⟨(h.hv.fr hf (by simp; omega)).fr hf' (by simp), hm.to hf' (by simp) (by simp), ((h.hf.mono (by simp)).trans hf).trans (hf'.mono (by simp)), (h.hb.fr hf (by simp; omega)).fr hf' (by simp), h.he⟩
theorem trap_end2 {w W : World} {v p F ev : Nat} {x : Vm} {st : St} (h : JTX w v p F ev x st W) (c n : Int) :
    Blk ((W.setCell ⟨ev, 0, none⟩ (.int .i64 c)).setCell ⟨ev, 1, none⟩ (.int .i64 n)) ev 65 #[.int .i64 c, .int .i64 n] ∧ StepQ w v p F (c, n) x st (.returned (.agg #[.int .i64 c, .int .i64 n])) ((W.setCell ⟨ev, 0, none⟩ (.int .i64 c)).setCell ⟨ev, 1, none⟩ (.int .i64 n)) := by
  obtain ⟨n3, n4⟩ := h.hm.ne_ev h.hb (by decide) (by decide)
  have n5 : v ≠ ev := Blk.ne_ h.hv.hb h.hb (by decide)
  have f1 := (Fr.refl [ev] W).setCell (p := ⟨ev, 0, none⟩) (.inl (by simp)) (.int .i64 c)
  have f2 := f1.setCell (p := ⟨ev, 1, none⟩) (.inl (by simp)) (.int .i64 n)
  refine ⟨(h.hb.set_ 0 _).set_ 1 _, rfl, h.hv.fr f2 (by simp; omega), h.hm.to f2 (by simp; omega) (by simp; omega), ?_⟩
  exact ((h.hf.mono (by simp)).setCell (p := ⟨ev, 0, none⟩) (.inr h.he) _).setCell (p := ⟨ev, 1, none⟩) (.inr h.he) _
def JT (w : World) (v p F ev : Nat) (E : Int × Int) (X : Vm) (S : St) (a : Act) (W : World) : Prop :=
  ∃ ts : Array Value, a = { tmps := ts, defers := [] } ∧ ts.size = 202 ∧ ts.getD 0 undef = ptr v ∧ ts.getD 1 undef = ptr p ∧ ts.getD 6 undef = ptr ev ∧ ∃ (ii bt mm cap : Nat) (A : Option Addr) (k r : Nat) (o1 o2 o3 ad wd nx : Int) (x : Vm) (st : St) (t : List Pg), ts.getD 2 undef = .slice A mm cap ∧ ts.getD 7 undef = ptr ii ∧ ts.getD 9 undef = .pointer (some ⟨v, r, none⟩) ∧ ts.getD 11 undef = .int .i64 ad ∧ ts.getD 12 undef = .int .i64 wd ∧ ts.getD 13 undef = .int .u32 nx ∧ u32b nx ∧ r < 16 ∧ ad ≤ 9223372036854775807 ∧ (k = 20 ∨ k = 21 ∨ k = 22 ∨ k = 23) ∧ JTW w v p F ev ii bt mm cap A k o1 o2 o3 x st t W ∧ touchV k x st t r ad wd nx = (E, X, S)
set_option maxHeartbeats 4000000 in
theorem touch_20_no (r0 c : Code) (hc : Try.f34.body = some (.seq r0 (.scope c))) (J : Nat → Act → World → Prop) (w : World) (v p F ev ii bt mm cap : Nat) (A : Option Addr) (r : Nat) (o1 o2 o3 ad wd nx : Int) (x : Vm) (st : St) (t : List Pg) (ts : Array Value) (W : World) (hs : ts.size = 202) (h0 : ts.getD 0 undef = ptr v) (h1 : ts.getD 1 undef = ptr p) (h6 : ts.getD 6 undef = ptr ev) (h2 : ts.getD 2 undef = .slice A mm cap) (h7 : ts.getD 7 undef = ptr ii) (h9 : ts.getD 9 undef = .pointer (some ⟨v, r, none⟩)) (h11 : ts.getD 11 undef = .int .i64 ad) (h12 : ts.getD 12 undef = .int .i64 wd) (h13 : ts.getD 13 undef = .int .u32 nx) (hn : u32b nx) (hr : r < 16) (had : ad ≤ 9223372036854775807)
    (hj : JTW w v p F ev ii bt mm cap A 20 o1 o2 o3 x st t W) (hno : (ldR st t ad wd 1).2 ≠ 0) :
    ∃ rest, findLabel c 1 = some rest ∧ rest.wp Try.prog (jumps J (bodyPost Try.prog Try.f34 (StepQ w v p F (2, 3) x st))) { tmps := ts, defers := [] } W := by
  cases hc
  refine ⟨_, rfl, ?_⟩
  rw [expand202 ts hs, h0, h1, h2, h6, h7, h9, h11, h12, h13]
  have HL := Lib.hid (Load_any bt p F mm cap st A t ad wd 1 W hj.ht hj.hm had hj.hbt)
  have HT := Lib.hid (fun n W => trapped_any n W)
  have HJ := Lib.hid hj
  have i0 : W.cell? ⟨ii, 0, none⟩ = some (.int .i64 20) := hj.hi.cell 0
  have k0 : W.cell? ⟨v, r, none⟩ = some (.int .u32 (x.r r)) := hj.hv.reg hr
  have kb : 0 ≤ x.r r ∧ x.r r < 4294967296 := hj.hv.r r
  generalize hE : (ldR st t ad wd 1).2 = E2 at *
  generalize (ldR st t ad wd 1).1 = N2 at *
  have hbe : (E2 != 0) = true := by simpa using hno
  clear hs h0 h1 h2 h6 h7 h9 h11 h12 h13 hj hno hE
  refine wp_seq (wp_skip ?_)
  go_wp2_with (first
    | (go_at_call 77; refine HL.out.mono ?_; rintro e w1 ⟨rfl, hf⟩; have HJ1 := Lib.hid (HJ.out.fr hf); clear hf)
    | (go_at_call 75; refine (HT.out _ _).mono ?_; rintro e w2 ⟨rfl, hf⟩; have HJ2 := Lib.hid (HJ1.out.fr hf); clear hf; have e0 : w2.cell? ⟨ev, 0, none⟩ = some (.int .i64 0) := HJ2.out.hb.cell 0; have e1 : w2.cell? ⟨ev, 1, none⟩ = some (.int .i64 0) := HJ2.out.hb.cell 1; have ef := HJ2.out.hb.frozen)
    | fail)
  unfold jumps
  have HE := trap_end HJ2.out 2 3
  refine bodyPost_ret (v := .agg #[.int .i64 2, .int .i64 3]) ?_ rfl HE.2
  exact results_cell_row Try.results34 _ _ ev 65 _ (0, 0) _ rfl HE.1 Try.underlying65 rfl (by kernel_rfl)
set_option maxHeartbeats 4000000 in
theorem touch_20_yes (r0 c : Code) (hc : Try.f34.body = some (.seq r0 (.scope c))) (J : Nat → Act → World → Prop) (w : World) (v p F ev ii bt mm cap : Nat) (A : Option Addr) (r : Nat) (o1 o2 o3 ad wd nx : Int) (x : Vm) (st : St) (t : List Pg) (ts : Array Value) (W : World) (hs : ts.size = 202) (h0 : ts.getD 0 undef = ptr v) (h1 : ts.getD 1 undef = ptr p) (h6 : ts.getD 6 undef = ptr ev) (h2 : ts.getD 2 undef = .slice A mm cap) (h7 : ts.getD 7 undef = ptr ii) (h9 : ts.getD 9 undef = .pointer (some ⟨v, r, none⟩)) (h11 : ts.getD 11 undef = .int .i64 ad) (h12 : ts.getD 12 undef = .int .i64 wd) (h13 : ts.getD 13 undef = .int .u32 nx) (hn : u32b nx) (hr : r < 16) (had : ad ≤ 9223372036854775807)
    (hj : JTW w v p F ev ii bt mm cap A 20 o1 o2 o3 x st t W) (hno : (ldR st t ad wd 1).2 = 0) (hJ : ∀ a W', JD w v p F ev (0, 0) (putP (putR x r ((ldR st t ad wd 1).1 % 4294967296)) nx) st a W' → J 0 a W') :
    ∃ rest, findLabel c 1 = some rest ∧ rest.wp Try.prog (jumps J (bodyPost Try.prog Try.f34 (StepQ w v p F (0, 0) (putP (putR x r ((ldR st t ad wd 1).1 % 4294967296)) nx) st))) { tmps := ts, defers := [] } W := by
  cases hc
  refine ⟨_, rfl, ?_⟩
  rw [expand202 ts hs, h0, h1, h2, h6, h7, h9, h11, h12, h13]
  have HL := Lib.hid (Load_any bt p F mm cap st A t ad wd 1 W hj.ht hj.hm had hj.hbt)
  rw [hno] at HL
  have HJ := Lib.hid hj
  have i0 : W.cell? ⟨ii, 0, none⟩ = some (.int .i64 20) := hj.hi.cell 0
  have k0 : W.cell? ⟨v, r, none⟩ = some (.int .u32 (x.r r)) := hj.hv.reg hr
  have kb : 0 ≤ x.r r ∧ x.r r < 4294967296 := hj.hv.r r
  have HJJ := Lib.hid hJ
  have HN := Lib.hid hn
  have HR := Lib.hid hr
  generalize (ldR st t ad wd 1).1 = N2 at *
  clear hs h0 h1 h2 h6 h7 h9 h11 h12 h13 hj hno hJ hn
  refine wp_seq (wp_skip ?_)
  go_wp2_with (first
    | (go_at_call 77; refine HL.out.mono ?_; rintro e w1 ⟨rfl, hf⟩; have HJ1 := Lib.hid (HJ.out.fr hf); clear hf; have k1 := HJ1.out.hv.reg HR.out; have kf := HJ1.out.hv.frozen)
    | fail)
  refine wp_goto ?_
  refine HJJ.out _ _ ?_
  have hn2 : u32b (N2 % 4294967296) := by unfold u32b; omega
  obtain ⟨n1, n2⟩ := HJ1.out.hm.ne_vm HJ1.out.hv
  have n5 : v ≠ ev := Blk.ne_ HJ1.out.hv.hb HJ1.out.hb (by decide)
  have f1 := (Fr.refl [v] w1).setCell (p := ⟨v, r, none⟩) (.inl (by simp)) (.int .u32 (N2 % 4294967296))
  refine ⟨_, rfl, rfl, rfl, rfl, nx, putR x r (N2 % 4294967296), rfl, HN.out, HJ1.out.hv.setR HR.out hn2, rfl, HJ1.out.hm.to f1 (by simp; omega) (by simp; omega), ((HJ1.out.hf.mono (by simp)).trans (f1.mono (by simp))), HJ1.out.hb.fr f1 (by simp; omega), HJ1.out.he⟩
set_option maxHeartbeats 4000000 in
theorem touch_21_no (r0 c : Code) (hc : Try.f34.body = some (.seq r0 (.scope c))) (J : Nat → Act → World → Prop) (w : World) (v p F ev ii bt mm cap : Nat) (A : Option Addr) (r : Nat) (o1 o2 o3 ad wd nx : Int) (x : Vm) (st : St) (t : List Pg) (ts : Array Value) (W : World) (hs : ts.size = 202) (h0 : ts.getD 0 undef = ptr v) (h1 : ts.getD 1 undef = ptr p) (h6 : ts.getD 6 undef = ptr ev) (h2 : ts.getD 2 undef = .slice A mm cap) (h7 : ts.getD 7 undef = ptr ii) (h9 : ts.getD 9 undef = .pointer (some ⟨v, r, none⟩)) (h11 : ts.getD 11 undef = .int .i64 ad) (h12 : ts.getD 12 undef = .int .i64 wd) (h13 : ts.getD 13 undef = .int .u32 nx) (hn : u32b nx) (hr : r < 16) (had : ad ≤ 9223372036854775807)
    (hj : JTW w v p F ev ii bt mm cap A 21 o1 o2 o3 x st t W) (hno : (ldR st t ad wd 1).2 ≠ 0) :
    ∃ rest, findLabel c 1 = some rest ∧ rest.wp Try.prog (jumps J (bodyPost Try.prog Try.f34 (StepQ w v p F (2, 3) x st))) { tmps := ts, defers := [] } W := by
  cases hc
  refine ⟨_, rfl, ?_⟩
  rw [expand202 ts hs, h0, h1, h2, h6, h7, h9, h11, h12, h13]
  have HL := Lib.hid (Load_any bt p F mm cap st A t ad wd 1 W hj.ht hj.hm had hj.hbt)
  have HT := Lib.hid (fun n W => trapped_any n W)
  have HJ := Lib.hid hj
  have i0 : W.cell? ⟨ii, 0, none⟩ = some (.int .i64 21) := hj.hi.cell 0
  have k0 : W.cell? ⟨v, r, none⟩ = some (.int .u32 (x.r r)) := hj.hv.reg hr
  have kb : 0 ≤ x.r r ∧ x.r r < 4294967296 := hj.hv.r r
  generalize hE : (ldR st t ad wd 1).2 = E2 at *
  generalize (ldR st t ad wd 1).1 = N2 at *
  have hbe : (E2 != 0) = true := by simpa using hno
  clear hs h0 h1 h2 h6 h7 h9 h11 h12 h13 hj hno hE
  refine wp_seq (wp_skip ?_)
  go_wp2_with (first
    | (go_at_call 77; refine HL.out.mono ?_; rintro e w1 ⟨rfl, hf⟩; have HJ1 := Lib.hid (HJ.out.fr hf); clear hf)
    | (go_at_call 75; refine (HT.out _ _).mono ?_; rintro e w2 ⟨rfl, hf⟩; have HJ2 := Lib.hid (HJ1.out.fr hf); clear hf; have e0 : w2.cell? ⟨ev, 0, none⟩ = some (.int .i64 0) := HJ2.out.hb.cell 0; have e1 : w2.cell? ⟨ev, 1, none⟩ = some (.int .i64 0) := HJ2.out.hb.cell 1; have ef := HJ2.out.hb.frozen)
    | fail)
  unfold jumps
  have HE := trap_end HJ2.out 2 3
  refine bodyPost_ret (v := .agg #[.int .i64 2, .int .i64 3]) ?_ rfl HE.2
  exact results_cell_row Try.results34 _ _ ev 65 _ (0, 0) _ rfl HE.1 Try.underlying65 rfl (by kernel_rfl)
set_option maxHeartbeats 4000000 in
theorem touch_21_yes (r0 c : Code) (hc : Try.f34.body = some (.seq r0 (.scope c))) (J : Nat → Act → World → Prop) (w : World) (v p F ev ii bt mm cap : Nat) (A : Option Addr) (r : Nat) (o1 o2 o3 ad wd nx : Int) (x : Vm) (st : St) (t : List Pg) (ts : Array Value) (W : World) (hs : ts.size = 202) (h0 : ts.getD 0 undef = ptr v) (h1 : ts.getD 1 undef = ptr p) (h6 : ts.getD 6 undef = ptr ev) (h2 : ts.getD 2 undef = .slice A mm cap) (h7 : ts.getD 7 undef = ptr ii) (h9 : ts.getD 9 undef = .pointer (some ⟨v, r, none⟩)) (h11 : ts.getD 11 undef = .int .i64 ad) (h12 : ts.getD 12 undef = .int .i64 wd) (h13 : ts.getD 13 undef = .int .u32 nx) (hn : u32b nx) (hr : r < 16) (had : ad ≤ 9223372036854775807)
    (hj : JTW w v p F ev ii bt mm cap A 21 o1 o2 o3 x st t W) (hno : (ldR st t ad wd 1).2 = 0) (hJ : ∀ a W', JD w v p F ev (0, 0) (putP (putR x r ((ldR st t ad wd 1).1 % 4294967296)) nx) st a W' → J 0 a W') :
    ∃ rest, findLabel c 1 = some rest ∧ rest.wp Try.prog (jumps J (bodyPost Try.prog Try.f34 (StepQ w v p F (0, 0) (putP (putR x r ((ldR st t ad wd 1).1 % 4294967296)) nx) st))) { tmps := ts, defers := [] } W := by
  cases hc
  refine ⟨_, rfl, ?_⟩
  rw [expand202 ts hs, h0, h1, h2, h6, h7, h9, h11, h12, h13]
  have HL := Lib.hid (Load_any bt p F mm cap st A t ad wd 1 W hj.ht hj.hm had hj.hbt)
  rw [hno] at HL
  have HJ := Lib.hid hj
  have i0 : W.cell? ⟨ii, 0, none⟩ = some (.int .i64 21) := hj.hi.cell 0
  have k0 : W.cell? ⟨v, r, none⟩ = some (.int .u32 (x.r r)) := hj.hv.reg hr
  have kb : 0 ≤ x.r r ∧ x.r r < 4294967296 := hj.hv.r r
  have HJJ := Lib.hid hJ
  have HN := Lib.hid hn
  have HR := Lib.hid hr
  generalize (ldR st t ad wd 1).1 = N2 at *
  clear hs h0 h1 h2 h6 h7 h9 h11 h12 h13 hj hno hJ hn
  refine wp_seq (wp_skip ?_)
  go_wp2_with (first
    | (go_at_call 77; refine HL.out.mono ?_; rintro e w1 ⟨rfl, hf⟩; have HJ1 := Lib.hid (HJ.out.fr hf); clear hf; have k1 := HJ1.out.hv.reg HR.out; have kf := HJ1.out.hv.frozen)
    | fail)
  refine wp_goto ?_
  refine HJJ.out _ _ ?_
  have hn2 : u32b (N2 % 4294967296) := by unfold u32b; omega
  obtain ⟨n1, n2⟩ := HJ1.out.hm.ne_vm HJ1.out.hv
  have n5 : v ≠ ev := Blk.ne_ HJ1.out.hv.hb HJ1.out.hb (by decide)
  have f1 := (Fr.refl [v] w1).setCell (p := ⟨v, r, none⟩) (.inl (by simp)) (.int .u32 (N2 % 4294967296))
  refine ⟨_, rfl, rfl, rfl, rfl, nx, putR x r (N2 % 4294967296), rfl, HN.out, HJ1.out.hv.setR HR.out hn2, rfl, HJ1.out.hm.to f1 (by simp; omega) (by simp; omega), ((HJ1.out.hf.mono (by simp)).trans (f1.mono (by simp))), HJ1.out.hb.fr f1 (by simp; omega), HJ1.out.he⟩
set_option maxHeartbeats 4000000 in
theorem touch_22_no (r0 c : Code) (hc : Try.f34.body = some (.seq r0 (.scope c))) (J : Nat → Act → World → Prop) (w : World) (v p F ev ii bt mm cap : Nat) (A : Option Addr) (r : Nat) (o1 o2 o3 ad wd nx : Int) (x : Vm) (st : St) (t : List Pg) (ts : Array Value) (W : World) (hs : ts.size = 202) (h0 : ts.getD 0 undef = ptr v) (h1 : ts.getD 1 undef = ptr p) (h6 : ts.getD 6 undef = ptr ev) (h2 : ts.getD 2 undef = .slice A mm cap) (h7 : ts.getD 7 undef = ptr ii) (h9 : ts.getD 9 undef = .pointer (some ⟨v, r, none⟩)) (h11 : ts.getD 11 undef = .int .i64 ad) (h12 : ts.getD 12 undef = .int .i64 wd) (h13 : ts.getD 13 undef = .int .u32 nx) (hn : u32b nx) (hr : r < 16) (had : ad ≤ 9223372036854775807)
    (hj : JTW w v p F ev ii bt mm cap A 22 o1 o2 o3 x st t W) (hno : stE st t ad wd (x.r r) ≠ 0) :
    ∃ rest, findLabel c 1 = some rest ∧ rest.wp Try.prog (jumps J (bodyPost Try.prog Try.f34 (StepQ w v p F (2, 4) x st))) { tmps := ts, defers := [] } W := by
  cases hc
  refine ⟨_, rfl, ?_⟩
  rw [expand202 ts hs, h0, h1, h2, h6, h7, h9, h11, h12, h13]
  have HL := Lib.hid (Store_any bt p F mm cap st A t ad wd (x.r r) W hj.ht hj.hm had hj.hbt)
  unfold StoreP at HL
  rw [stS_no hno] at HL
  have HT := Lib.hid (fun n W => trapped_any n W)
  have HJ := Lib.hid hj
  have i0 : W.cell? ⟨ii, 0, none⟩ = some (.int .i64 22) := hj.hi.cell 0
  have k0 : W.cell? ⟨v, r, none⟩ = some (.int .u32 (x.r r)) := hj.hv.reg hr
  have kb : 0 ≤ x.r r ∧ x.r r < 4294967296 := hj.hv.r r
  generalize hE : stE st t ad wd (x.r r) = E2 at *
  have hbe : (E2 != 0) = true := by simpa using hno
  clear hs h0 h1 h2 h6 h7 h9 h11 h12 h13 hj hno hE
  refine wp_seq (wp_skip ?_)
  go_wp2_with (first
    | (go_at_call 78; refine HL.out.mono ?_; rintro e w1 ⟨rfl, hm1, hf⟩; have HJ1 := Lib.hid (And.intro hm1 hf); clear hf hm1)
    | (go_at_call 75; refine (HT.out _ _).mono ?_; rintro e w2 ⟨rfl, hf⟩; have HJ2 := Lib.hid (HJ.out.turn HJ1.out.1 HJ1.out.2 hf); clear hf; have e0 : w2.cell? ⟨ev, 0, none⟩ = some (.int .i64 0) := HJ2.out.hb.cell 0; have e1 : w2.cell? ⟨ev, 1, none⟩ = some (.int .i64 0) := HJ2.out.hb.cell 1; have ef := HJ2.out.hb.frozen)
    | fail)
  unfold jumps
  have HE := trap_end2 HJ2.out 2 4
  refine bodyPost_ret (v := .agg #[.int .i64 2, .int .i64 4]) ?_ rfl HE.2
  exact results_cell_row Try.results34 _ _ ev 65 _ (0, 0) _ rfl HE.1 Try.underlying65 rfl (by kernel_rfl)
set_option maxHeartbeats 4000000 in
theorem touch_22_yes (r0 c : Code) (hc : Try.f34.body = some (.seq r0 (.scope c))) (J : Nat → Act → World → Prop) (w : World) (v p F ev ii bt mm cap : Nat) (A : Option Addr) (r : Nat) (o1 o2 o3 ad wd nx : Int) (x : Vm) (st : St) (t : List Pg) (ts : Array Value) (W : World) (hs : ts.size = 202) (h0 : ts.getD 0 undef = ptr v) (h1 : ts.getD 1 undef = ptr p) (h6 : ts.getD 6 undef = ptr ev) (h2 : ts.getD 2 undef = .slice A mm cap) (h7 : ts.getD 7 undef = ptr ii) (h9 : ts.getD 9 undef = .pointer (some ⟨v, r, none⟩)) (h11 : ts.getD 11 undef = .int .i64 ad) (h12 : ts.getD 12 undef = .int .i64 wd) (h13 : ts.getD 13 undef = .int .u32 nx) (hn : u32b nx) (hr : r < 16) (had : ad ≤ 9223372036854775807)
    (hj : JTW w v p F ev ii bt mm cap A 22 o1 o2 o3 x st t W) (hno : stE st t ad wd (x.r r) = 0) (hJ : ∀ a W', JD w v p F ev (0, 0) (putP x nx) (stS st t ad wd (x.r r)) a W' → J 0 a W') :
    ∃ rest, findLabel c 1 = some rest ∧ rest.wp Try.prog (jumps J (bodyPost Try.prog Try.f34 (StepQ w v p F (0, 0) (putP x nx) (stS st t ad wd (x.r r))))) { tmps := ts, defers := [] } W := by
  cases hc
  refine ⟨_, rfl, ?_⟩
  rw [expand202 ts hs, h0, h1, h2, h6, h7, h9, h11, h12, h13]
  have HL := Lib.hid (Store_any bt p F mm cap st A t ad wd (x.r r) W hj.ht hj.hm had hj.hbt)
  unfold StoreP at HL
  rw [hno] at HL
  have HJ := Lib.hid hj
  have i0 : W.cell? ⟨ii, 0, none⟩ = some (.int .i64 22) := hj.hi.cell 0
  have k0 : W.cell? ⟨v, r, none⟩ = some (.int .u32 (x.r r)) := hj.hv.reg hr
  have kb : 0 ≤ x.r r ∧ x.r r < 4294967296 := hj.hv.r r
  have HJJ := Lib.hid hJ
  have HN := Lib.hid hn
  have HR := Lib.hid hr
  generalize hS : stS st t ad wd (x.r r) = S2 at *
  clear hs h0 h1 h2 h6 h7 h9 h11 h12 h13 hj hno hJ hn
  refine wp_seq (wp_skip ?_)
  go_wp2_with (first
    | (go_at_call 78; refine HL.out.mono ?_; rintro e w1 ⟨rfl, hm1, hf⟩; have HJ1 := Lib.hid (HJ.out.turn hm1 hf (Fr.refl [] _)); clear hf hm1)
    | fail)
  refine wp_goto ?_
  refine HJJ.out _ _ ?_
  exact ⟨_, rfl, rfl, rfl, rfl, nx, x, rfl, HN.out, HJ1.out.hv, rfl, HJ1.out.hm, HJ1.out.hf.mono (by simp), HJ1.out.hb, HJ1.out.he⟩
set_option maxHeartbeats 4000000 in
theorem touch_23_no (r0 c : Code) (hc : Try.f34.body = some (.seq r0 (.scope c))) (J : Nat → Act → World → Prop) (w : World) (v p F ev ii bt mm cap : Nat) (A : Option Addr) (r : Nat) (o1 o2 o3 ad wd nx : Int) (x : Vm) (st : St) (t : List Pg) (ts : Array Value) (W : World) (hs : ts.size = 202) (h0 : ts.getD 0 undef = ptr v) (h1 : ts.getD 1 undef = ptr p) (h6 : ts.getD 6 undef = ptr ev) (h2 : ts.getD 2 undef = .slice A mm cap) (h7 : ts.getD 7 undef = ptr ii) (h9 : ts.getD 9 undef = .pointer (some ⟨v, r, none⟩)) (h11 : ts.getD 11 undef = .int .i64 ad) (h12 : ts.getD 12 undef = .int .i64 wd) (h13 : ts.getD 13 undef = .int .u32 nx) (hn : u32b nx) (hr : r < 16) (had : ad ≤ 9223372036854775807)
    (hj : JTW w v p F ev ii bt mm cap A 23 o1 o2 o3 x st t W) (hno : stE st t ad wd (x.r r) ≠ 0) :
    ∃ rest, findLabel c 1 = some rest ∧ rest.wp Try.prog (jumps J (bodyPost Try.prog Try.f34 (StepQ w v p F (2, 4) x st))) { tmps := ts, defers := [] } W := by
  cases hc
  refine ⟨_, rfl, ?_⟩
  rw [expand202 ts hs, h0, h1, h2, h6, h7, h9, h11, h12, h13]
  have HL := Lib.hid (Store_any bt p F mm cap st A t ad wd (x.r r) W hj.ht hj.hm had hj.hbt)
  unfold StoreP at HL
  rw [stS_no hno] at HL
  have HT := Lib.hid (fun n W => trapped_any n W)
  have HJ := Lib.hid hj
  have i0 : W.cell? ⟨ii, 0, none⟩ = some (.int .i64 23) := hj.hi.cell 0
  have k0 : W.cell? ⟨v, r, none⟩ = some (.int .u32 (x.r r)) := hj.hv.reg hr
  have kb : 0 ≤ x.r r ∧ x.r r < 4294967296 := hj.hv.r r
  generalize hE : stE st t ad wd (x.r r) = E2 at *
  have hbe : (E2 != 0) = true := by simpa using hno
  clear hs h0 h1 h2 h6 h7 h9 h11 h12 h13 hj hno hE
  refine wp_seq (wp_skip ?_)
  go_wp2_with (first
    | (go_at_call 78; refine HL.out.mono ?_; rintro e w1 ⟨rfl, hm1, hf⟩; have HJ1 := Lib.hid (And.intro hm1 hf); clear hf hm1)
    | (go_at_call 75; refine (HT.out _ _).mono ?_; rintro e w2 ⟨rfl, hf⟩; have HJ2 := Lib.hid (HJ.out.turn HJ1.out.1 HJ1.out.2 hf); clear hf; have e0 : w2.cell? ⟨ev, 0, none⟩ = some (.int .i64 0) := HJ2.out.hb.cell 0; have e1 : w2.cell? ⟨ev, 1, none⟩ = some (.int .i64 0) := HJ2.out.hb.cell 1; have ef := HJ2.out.hb.frozen)
    | fail)
  unfold jumps
  have HE := trap_end2 HJ2.out 2 4
  refine bodyPost_ret (v := .agg #[.int .i64 2, .int .i64 4]) ?_ rfl HE.2
  exact results_cell_row Try.results34 _ _ ev 65 _ (0, 0) _ rfl HE.1 Try.underlying65 rfl (by kernel_rfl)
set_option maxHeartbeats 4000000 in
theorem touch_23_yes (r0 c : Code) (hc : Try.f34.body = some (.seq r0 (.scope c))) (J : Nat → Act → World → Prop) (w : World) (v p F ev ii bt mm cap : Nat) (A : Option Addr) (r : Nat) (o1 o2 o3 ad wd nx : Int) (x : Vm) (st : St) (t : List Pg) (ts : Array Value) (W : World) (hs : ts.size = 202) (h0 : ts.getD 0 undef = ptr v) (h1 : ts.getD 1 undef = ptr p) (h6 : ts.getD 6 undef = ptr ev) (h2 : ts.getD 2 undef = .slice A mm cap) (h7 : ts.getD 7 undef = ptr ii) (h9 : ts.getD 9 undef = .pointer (some ⟨v, r, none⟩)) (h11 : ts.getD 11 undef = .int .i64 ad) (h12 : ts.getD 12 undef = .int .i64 wd) (h13 : ts.getD 13 undef = .int .u32 nx) (hn : u32b nx) (hr : r < 16) (had : ad ≤ 9223372036854775807)
    (hj : JTW w v p F ev ii bt mm cap A 23 o1 o2 o3 x st t W) (hno : stE st t ad wd (x.r r) = 0) (hJ : ∀ a W', JD w v p F ev (0, 0) (putP x nx) (stS st t ad wd (x.r r)) a W' → J 0 a W') :
    ∃ rest, findLabel c 1 = some rest ∧ rest.wp Try.prog (jumps J (bodyPost Try.prog Try.f34 (StepQ w v p F (0, 0) (putP x nx) (stS st t ad wd (x.r r))))) { tmps := ts, defers := [] } W := by
  cases hc
  refine ⟨_, rfl, ?_⟩
  rw [expand202 ts hs, h0, h1, h2, h6, h7, h9, h11, h12, h13]
  have HL := Lib.hid (Store_any bt p F mm cap st A t ad wd (x.r r) W hj.ht hj.hm had hj.hbt)
  unfold StoreP at HL
  rw [hno] at HL
  have HJ := Lib.hid hj
  have i0 : W.cell? ⟨ii, 0, none⟩ = some (.int .i64 23) := hj.hi.cell 0
  have k0 : W.cell? ⟨v, r, none⟩ = some (.int .u32 (x.r r)) := hj.hv.reg hr
  have kb : 0 ≤ x.r r ∧ x.r r < 4294967296 := hj.hv.r r
  have HJJ := Lib.hid hJ
  have HN := Lib.hid hn
  have HR := Lib.hid hr
  generalize hS : stS st t ad wd (x.r r) = S2 at *
  clear hs h0 h1 h2 h6 h7 h9 h11 h12 h13 hj hno hJ hn
  refine wp_seq (wp_skip ?_)
  go_wp2_with (first
    | (go_at_call 78; refine HL.out.mono ?_; rintro e w1 ⟨rfl, hm1, hf⟩; have HJ1 := Lib.hid (HJ.out.turn hm1 hf (Fr.refl [] _)); clear hf hm1)
    | fail)
  refine wp_goto ?_
  refine HJJ.out _ _ ?_
  exact ⟨_, rfl, rfl, rfl, rfl, nx, x, rfl, HN.out, HJ1.out.hv, rfl, HJ1.out.hm, HJ1.out.hf.mono (by simp), HJ1.out.hb, HJ1.out.he⟩
theorem pass_touch (r0 c : Code) (hc : Try.f34.body = some (.seq r0 (.scope c))) (J : Nat → Act → World → Prop) (w : World) (v p F ev : Nat) (E : Int × Int) (X : Vm) (S : St) (a : Act) (W : World) (h : JT w v p F ev E X S a W) (hJ : ∀ a W', JD w v p F ev E X S a W' → J 0 a W') :
    ∃ rest, findLabel c 1 = some rest ∧ rest.wp Try.prog (jumps J (bodyPost Try.prog Try.f34 (StepQ w v p F E X S))) a W := by
  obtain ⟨ts, rfl, hs, h0, h1, h6, ii, bt, mm, cap, A, k, r, o1, o2, o3, ad, wd, nx, x, st, t, h2, h7, h9, h11, h12, h13, hn, hr, had, hk, hj, he⟩ := h
  unfold touchV at he
  rcases hk with rfl | rfl | rfl | rfl
  · rw [if_pos (by decide)] at he
    by_cases hq : (ldR st t ad wd 1).2 = 0
    · rw [if_neg (by omega)] at he
      injection he with e1 e2
      injection e2 with e2 e3
      subst e1 e2 e3
      exact touch_20_yes r0 c hc J w v p F ev ii bt mm cap A r o1 o2 o3 ad wd nx x st t ts W hs h0 h1 h6 h2 h7 h9 h11 h12 h13 hn hr had hj hq hJ
    · rw [if_pos hq] at he
      injection he with e1 e2
      injection e2 with e2 e3
      subst e1 e2 e3
      exact touch_20_no r0 c hc J w v p F ev ii bt mm cap A r o1 o2 o3 ad wd nx x st t ts W hs h0 h1 h6 h2 h7 h9 h11 h12 h13 hn hr had hj hq
  · rw [if_pos (by decide)] at he
    by_cases hq : (ldR st t ad wd 1).2 = 0
    · rw [if_neg (by omega)] at he
      injection he with e1 e2
      injection e2 with e2 e3
      subst e1 e2 e3
      exact touch_21_yes r0 c hc J w v p F ev ii bt mm cap A r o1 o2 o3 ad wd nx x st t ts W hs h0 h1 h6 h2 h7 h9 h11 h12 h13 hn hr had hj hq hJ
    · rw [if_pos hq] at he
      injection he with e1 e2
      injection e2 with e2 e3
      subst e1 e2 e3
      exact touch_21_no r0 c hc J w v p F ev ii bt mm cap A r o1 o2 o3 ad wd nx x st t ts W hs h0 h1 h6 h2 h7 h9 h11 h12 h13 hn hr had hj hq
  · rw [if_neg (by decide)] at he
    by_cases hq : stE st t ad wd (x.r r) = 0
    · rw [if_neg (by omega)] at he
      injection he with e1 e2
      injection e2 with e2 e3
      subst e1 e2 e3
      exact touch_22_yes r0 c hc J w v p F ev ii bt mm cap A r o1 o2 o3 ad wd nx x st t ts W hs h0 h1 h6 h2 h7 h9 h11 h12 h13 hn hr had hj hq hJ
    · rw [if_pos hq] at he
      injection he with e1 e2
      injection e2 with e2 e3
      subst e1 e2 e3
      exact touch_22_no r0 c hc J w v p F ev ii bt mm cap A r o1 o2 o3 ad wd nx x st t ts W hs h0 h1 h6 h2 h7 h9 h11 h12 h13 hn hr had hj hq
  · rw [if_neg (by decide)] at he
    by_cases hq : stE st t ad wd (x.r r) = 0
    · rw [if_neg (by omega)] at he
      injection he with e1 e2
      injection e2 with e2 e3
      subst e1 e2 e3
      exact touch_23_yes r0 c hc J w v p F ev ii bt mm cap A r o1 o2 o3 ad wd nx x st t ts W hs h0 h1 h6 h2 h7 h9 h11 h12 h13 hn hr had hj hq hJ
    · rw [if_pos hq] at he
      injection he with e1 e2
      injection e2 with e2 e3
      subst e1 e2 e3
      exact touch_23_no r0 c hc J w v p F ev ii bt mm cap A r o1 o2 o3 ad wd nx x st t ts W hs h0 h1 h6 h2 h7 h9 h11 h12 h13 hn hr had hj hq
end Go.Proofs.Ytonongaakieciaa
