/- The machine in memory; fetch. -/
import Derived.Test.YtbmaecdlkchkeaaGreatDoorI3
import Derived.Test.YtbmaecdlkchkeaaGreatDoorV1
import Derived.Test.YtbmaecdlkchkeaaGreatDoorW13
namespace Go.Proofs.YtbmaecdlkchkeaaGreatDoor
open Go.RowKit
set_option linter.unusedVariables false
set_option linter.unusedSimpArgs false
set_option maxRecDepth 100000
/-- A machine: registers, the place, whether a call waits. -/
structure Vm where
  r : Nat → Int
  pl : Int
  wt : Bool
def vcells (x : Vm) : Array Value := #[.int .u32 (x.r 0), .int .u32 (x.r 1), .int .u32 (x.r 2), .int .u32 (x.r 3), .int .u32 (x.r 4), .int .u32 (x.r 5), .int .u32 (x.r 6), .int .u32 (x.r 7), .int .u32 (x.r 8), .int .u32 (x.r 9), .int .u32 (x.r 10), .int .u32 (x.r 11), .int .u32 (x.r 12), .int .u32 (x.r 13), .int .u32 (x.r 14), .int .u32 (x.r 15), .int .u32 x.pl, .bool x.wt]
def u32b (n : Int) : Prop := 0 ≤ n ∧ n < 4294967296
structure VmAt (w : World) (v : Nat) (x : Vm) : Prop where
  hb : Blk w v 98 (vcells x)
  r : ∀ k, u32b (x.r k)
  p : u32b x.pl
def putR (x : Vm) (k : Nat) (n : Int) : Vm := ⟨fun j => if j = k then n else x.r j, x.pl, x.wt⟩
def putP (x : Vm) (n : Int) : Vm := ⟨x.r, n, x.wt⟩
def putW (x : Vm) (b : Bool) : Vm := ⟨x.r, x.pl, b⟩
section
variable {w w' : World} {v : Nat} {x : Vm}
theorem VmAt.lt (h : VmAt w v x) : v < w.heap.size := h.hb.lt
theorem VmAt.fr {S : List Nat} (h : VmAt w v x) (hf : Fr S w w') (hv : v ∉ S) : VmAt w' v x := ⟨h.hb.fr hf hv, h.r, h.p⟩
theorem vc_at (x : Vm) (k : Nat) (hk : k < 16) : (vcells x)[k]? = some (.int .u32 (x.r k)) := by
  rcases (by omega : k = 0 ∨ k = 1 ∨ k = 2 ∨ k = 3 ∨ k = 4 ∨ k = 5 ∨ k = 6 ∨ k = 7 ∨ k = 8 ∨ k = 9 ∨ k = 10 ∨ k = 11 ∨ k = 12 ∨ k = 13 ∨ k = 14 ∨ k = 15) with rfl | rfl | rfl | rfl | rfl | rfl | rfl | rfl | rfl | rfl | rfl | rfl | rfl | rfl | rfl | rfl <;> rfl
theorem VmAt.reg (h : VmAt w v x) {k : Nat} (hk : k < 16) : w.cell? ⟨v, k, none⟩ = some (.int .u32 (x.r k)) := by rw [h.hb.cell, vc_at x k hk]
theorem VmAt.place (h : VmAt w v x) : w.cell? ⟨v, 16, none⟩ = some (.int .u32 x.pl) := by rw [h.hb.cell]; rfl
theorem VmAt.waits (h : VmAt w v x) : w.cell? ⟨v, 17, none⟩ = some (.bool x.wt) := by rw [h.hb.cell]; rfl
theorem VmAt.frozen (h : VmAt w v x) (i : Nat) : w.frozen? ⟨v, i, none⟩ = false := h.hb.frozen i
theorem vc_set (x : Vm) (k : Nat) (hk : k < 16) (n : Int) : (vcells x).setIfInBounds k (.int .u32 n) = vcells (putR x k n) := by
  rcases (by omega : k = 0 ∨ k = 1 ∨ k = 2 ∨ k = 3 ∨ k = 4 ∨ k = 5 ∨ k = 6 ∨ k = 7 ∨ k = 8 ∨ k = 9 ∨ k = 10 ∨ k = 11 ∨ k = 12 ∨ k = 13 ∨ k = 14 ∨ k = 15) with rfl | rfl | rfl | rfl | rfl | rfl | rfl | rfl | rfl | rfl | rfl | rfl | rfl | rfl | rfl | rfl <;> rfl
theorem VmAt.setR (h : VmAt w v x) {k : Nat} (hk : k < 16) {n : Int} (hn : u32b n) : VmAt (w.setCell ⟨v, k, none⟩ (.int .u32 n)) v (putR x k n) := by
  refine ⟨?_, fun j => ?_, h.p⟩
  · rw [← vc_set x k hk n]
    exact h.hb.set_ k _
  · unfold putR
    simp only
    split
    · exact hn
    · exact h.r j
theorem VmAt.setP (h : VmAt w v x) {n : Int} (hn : u32b n) : VmAt (w.setCell ⟨v, 16, none⟩ (.int .u32 n)) v (putP x n) := ⟨h.hb.set_ 16 _, h.r, hn⟩
theorem VmAt.setW (h : VmAt w v x) (b : Bool) : VmAt (w.setCell ⟨v, 17, none⟩ (.bool b)) v (putW x b) := ⟨h.hb.set_ 17 _, h.r, h.p⟩
end
/-- The next instruction; a trap other than 0: there is none. -/
def fetI (x : Vm) (st : St) (t : List Pg) : In × Int :=
  if x.wt then (In0, 2) else if (rdRM st t x.pl 4 4).2 ≠ 0 then (In0, 1) else
    if (decI ⟨(rdRM st t x.pl 4 4).1.toArray⟩).2 ≠ 0 then (In0, 2) else ((decI ⟨(rdRM st t x.pl 4 4).1.toArray⟩).1, 0)
theorem fetI_ok {x : Vm} {st : St} {t : List Pg} (h : (fetI x st t).2 = 0) : x.wt = false ∧ ∃ (k a b : Nat), (fetI x st t).1.op = (k : Int) ∧ (fetI x st t).1.a = (a : Int) ∧ (fetI x st t).1.b = (b : Int) ∧ k < 30 ∧ a < 16 ∧ b < 16 ∧ -32768 ≤ (fetI x st t).1.m ∧ (fetI x st t).1.m ≤ 65535 := by
  unfold fetI at h ⊢
  split at h
  · simp at h
  · next hw =>
    split at h
    · simp at h
    · next h1 =>
      split at h
      · simp at h
      · next h2 =>
        rw [if_neg hw, if_neg h1, if_neg h2]
        exact ⟨by simpa using hw, decI_ok (by omega)⟩
theorem res74 {tmps : Array Value} {w : World} {g : Nat} {e : Value} {cs : Array Value} (h2 : tmps.getD 6 undef = .pointer (some ⟨g, 0, none⟩)) (h3 : tmps.getD 7 undef = e) (hb : Blk w g 55 cs) (hs : cs.size = 4) : (results Tryz.f41 tmps).run Tryz.prog w = .ok (.tuple #[.agg cs, e]) w := by
  have h1 : (asAddr (tmps.getD 6 undef)).run Tryz.prog w = .ok ⟨g, 0, none⟩ w := by rw [h2]; rfl
  rw [results_cell_tmp Tryz.results41, h1, h3]
  have h4 := run_loadVar_row (P := Tryz.prog) w g 55 55 cs (0, 0) _ hb Tryz.underlying55 rfl (by rw [hs]; kernel_rfl)
  simp [Result.andThen, h4]
set_option maxHeartbeats 2000000 in
theorem fetch_any (v p F b m cap : Nat) (x : Vm) (st : St) (A : Option Addr) (t : List Pg) (w : World) (hv : VmAt w v x) (hm : MemAt w p F st) (ht : Tb w b (.slice A m cap) t) (hbw : b < w.heap.size) :
    Calls Tryz.prog 41 #[ptr v, ptr p, .slice A m cap] w fun e w' => e = .returned (.tuple #[(fetI x st t).1.v, .int .i64 (fetI x st t).2]) ∧ Fr [] w w' := by
  have c16 := hv.place
  have c17 := hv.waits
  have hfr := hv.frozen
  have hvl := hv.lt
  have hpl : x.pl ≤ 9223372036854775807 := by have := hv.p.2; omega
  have hp0 := hv.p.1
  have hp1 : x.pl < 4294967296 := hv.p.2
  have hvn : v < w.heap.size + 1 := by omega
  have H0 := Lib.hid (fun o => (Fr.refl [] w).alloc o)
  have HR := Lib.hid (Read_any b p F m cap st A t x.pl 4 4 (w.alloc (.cells Z4 55)) (ht.fr ((Fr.refl [] w).alloc _) (by simp)) (hm.to ((Fr.refl [] w).alloc _) (by simp) (by simp)) hpl (by simp; omega))
  have HD := Lib.hid (fun W => Decode_any ⟨(rdRM st t x.pl 4 4).1.toArray⟩ W)
  unfold fetI
  unfold ReadP at HR
  cases hw : x.wt with
  | true =>
    rw [hw] at c17
    simp only [if_true]
    clear hv hm ht HR HD
    unfold In0
    go_enter Tryz.func41, Tryz.ntmps41
    go_wp2
    exact bodyPost_ret (v := .tuple #[.agg #[.int .i64 0, .int .i64 0, .int .i64 0, .int .i64 0], .int .i64 2]) (res74 rfl rfl (Blk.new w 55 _) rfl) rfl ⟨rfl, H0.out _⟩
  | false =>
    rw [hw] at c17
    simp only [Bool.false_eq_true, if_false]
    generalize (rdRM st t x.pl 4 4).2 = E at *
    generalize (⟨(rdRM st t x.pl 4 4).1.toArray⟩ : ByteArray) = B at *
    by_cases hE : E = 0
    · subst hE
      simp only [ne_eq, not_true_eq_false, if_false]
      generalize hd1 : (decI B).2 = D at *
      generalize hd2 : (decI B).1 = I at *
      clear hd1 hd2
      by_cases hD : D = 0
      · subst hD
        simp only [not_true_eq_false, if_false]
        clear hv hm ht
        obtain ⟨io, ia, ib, im⟩ := I
        go_enter Tryz.func41, Tryz.ntmps41
        go_wp2_with (first
          | (go_at_call 47; refine HR.out.mono ?_; rintro e w1 ⟨rfl, hf⟩; have H1 := Lib.hid ((H0.out _).trans hf); have HB := Lib.hid ((Blk.new w 55 _).fr hf (by simp)); clear hf)
          | (go_at_call 39; refine (HD.out _).mono ?_; rintro e w2 ⟨rfl, hf⟩; have H2 := Lib.hid (H1.out.trans hf); have HB2 := Lib.hid (HB.out.fr hf (by simp)); clear hf; have j0 := (HB2.out.cell 0).trans rfl; have j1 := (HB2.out.cell 1).trans rfl; have j2 := (HB2.out.cell 2).trans rfl; have j3 := (HB2.out.cell 3).trans rfl; have jf := HB2.out.frozen; have jl : w.heap.size < w2.heap.size := HB2.out.lt)
          | fail)
        exact bodyPost_ret (v := .tuple #[.agg #[.int .i64 io, .int .i64 ia, .int .i64 ib, .int .i64 im], .int .i64 0]) (res74 rfl rfl ((HB2.out.set4 _ _ _ _).alloc _) rfl) rfl ⟨rfl, (H2.out.set4 (.inr (Nat.le_refl _)) _ _ _ _).alloc _⟩
      · rw [if_pos hD]
        have hb : (D != 0) = true := by simpa using hD
        clear hv hm ht hD
        unfold In0
        obtain ⟨io, ia, ib, im⟩ := I
        go_enter Tryz.func41, Tryz.ntmps41
        go_wp2_with (first
          | (go_at_call 47; refine HR.out.mono ?_; rintro e w1 ⟨rfl, hf⟩; have H1 := Lib.hid ((H0.out _).trans hf); have HB := Lib.hid ((Blk.new w 55 _).fr hf (by simp)); clear hf)
          | (go_at_call 39; refine (HD.out _).mono ?_; rintro e w2 ⟨rfl, hf⟩; have H2 := Lib.hid (H1.out.trans hf); have HB2 := Lib.hid (HB.out.fr hf (by simp)); clear hf; have j0 := (HB2.out.cell 0).trans rfl; have j1 := (HB2.out.cell 1).trans rfl; have j2 := (HB2.out.cell 2).trans rfl; have j3 := (HB2.out.cell 3).trans rfl; have jf := HB2.out.frozen; have jl : w.heap.size < w2.heap.size := HB2.out.lt)
          | fail)
        exact bodyPost_ret (v := .tuple #[.agg #[.int .i64 0, .int .i64 0, .int .i64 0, .int .i64 0], .int .i64 2]) (res74 rfl rfl ((HB2.out.set4 _ _ _ _).alloc _) rfl) rfl ⟨rfl, (H2.out.set4 (.inr (Nat.le_refl _)) _ _ _ _).alloc _⟩
    · rw [if_pos hE]
      have hb : (E != 0) = true := by simpa using hE
      clear hv hm ht HD hE
      unfold In0
      go_enter Tryz.func41, Tryz.ntmps41
      go_wp2_with (first
        | (go_at_call 47; refine HR.out.mono ?_; rintro e w1 ⟨rfl, hf⟩; have H1 := Lib.hid ((H0.out _).trans hf); have HB := Lib.hid ((Blk.new w 55 _).fr hf (by simp)); clear hf; have j0 := (HB.out.cell 0).trans rfl; have j1 := (HB.out.cell 1).trans rfl; have j2 := (HB.out.cell 2).trans rfl; have j3 := (HB.out.cell 3).trans rfl; have jf := HB.out.frozen; have jl : w.heap.size < w1.heap.size := HB.out.lt)
        | fail)
      exact bodyPost_ret (v := .tuple #[.agg #[.int .i64 0, .int .i64 0, .int .i64 0, .int .i64 0], .int .i64 1]) (res74 rfl rfl (HB.out.set4 _ _ _ _) rfl) rfl ⟨rfl, H1.out.set4 (.inr (Nat.le_refl _)) _ _ _ _⟩
end Go.Proofs.YtbmaecdlkchkeaaGreatDoor
