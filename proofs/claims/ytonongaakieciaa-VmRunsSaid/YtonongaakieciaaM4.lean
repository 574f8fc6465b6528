/- The document's machine in memory. The document's machine: what a step has when it has fetched; its end; the traps. -/
import Derived.Test.YtonongaakieciaaM1
import Derived.Test.YtonongaakieciaaM2
import Derived.Test.YtonongaakieciaaW22
import Derived.Test.YtonongaakieciaaV13
import Derived.BigQuiet
import Derived.Deep.QuietTactic
import Derived.RegionTactic
namespace Go.Proofs.Ytonongaakieciaa
open Go.RowKit
set_option linter.unusedVariables false
set_option linter.unusedSimpArgs false
set_option maxRecDepth 100000
def rcells (x : Vm) : Array Value := #[.int .i64 (x.r 0), .int .i64 (x.r 1), .int .i64 (x.r 2), .int .i64 (x.r 3), .int .i64 (x.r 4), .int .i64 (x.r 5), .int .i64 (x.r 6), .int .i64 (x.r 7), .int .i64 (x.r 8), .int .i64 (x.r 9), .int .i64 (x.r 10), .int .i64 (x.r 11), .int .i64 (x.r 12), .int .i64 (x.r 13), .int .i64 (x.r 14), .int .i64 (x.r 15), .int .i64 x.pl, .bool x.wt]
structure RvmAt (w : World) (y : Nat) (x : Vm) : Prop where
  hb : Blk w y 86 (rcells x)
  r : ∀ k, u32b (x.r k)
  p : u32b x.pl
section
variable {w w' : World} {y : Nat} {x : Vm}
theorem RvmAt.lt (h : RvmAt w y x) : y < w.heap.size := h.hb.lt
theorem RvmAt.fr {S : List Nat} (h : RvmAt w y x) (hf : Fr S w w') (hv : y ∉ S) : RvmAt w' y x := ⟨h.hb.fr hf hv, h.r, h.p⟩
theorem rc_at (x : Vm) (k : Nat) (hk : k < 16) : (rcells x)[k]? = some (.int .i64 (x.r k)) := by
  rcases (by omega : k = 0 ∨ k = 1 ∨ k = 2 ∨ k = 3 ∨ k = 4 ∨ k = 5 ∨ k = 6 ∨ k = 7 ∨ k = 8 ∨ k = 9 ∨ k = 10 ∨ k = 11 ∨ k = 12 ∨ k = 13 ∨ k = 14 ∨ k = 15) with rfl | rfl | rfl | rfl | rfl | rfl | rfl | rfl | rfl | rfl | rfl | rfl | rfl | rfl | rfl | rfl <;> rfl
theorem RvmAt.reg (h : RvmAt w y x) {k : Nat} (hk : k < 16) : w.cell? ⟨y, k, none⟩ = some (.int .i64 (x.r k)) := by rw [h.hb.cell, rc_at x k hk]
theorem RvmAt.place (h : RvmAt w y x) : w.cell? ⟨y, 16, none⟩ = some (.int .i64 x.pl) := by rw [h.hb.cell]; rfl
theorem RvmAt.waits (h : RvmAt w y x) : w.cell? ⟨y, 17, none⟩ = some (.bool x.wt) := by rw [h.hb.cell]; rfl
theorem RvmAt.frozen (h : RvmAt w y x) (i : Nat) : w.frozen? ⟨y, i, none⟩ = false := h.hb.frozen i
theorem rc_set (x : Vm) (k : Nat) (hk : k < 16) (n : Int) : (rcells x).setIfInBounds k (.int .i64 n) = rcells (putR x k n) := by
  rcases (by omega : k = 0 ∨ k = 1 ∨ k = 2 ∨ k = 3 ∨ k = 4 ∨ k = 5 ∨ k = 6 ∨ k = 7 ∨ k = 8 ∨ k = 9 ∨ k = 10 ∨ k = 11 ∨ k = 12 ∨ k = 13 ∨ k = 14 ∨ k = 15) with rfl | rfl | rfl | rfl | rfl | rfl | rfl | rfl | rfl | rfl | rfl | rfl | rfl | rfl | rfl | rfl <;> rfl
theorem RvmAt.setR (h : RvmAt w y x) {k : Nat} (hk : k < 16) {n : Int} (hn : u32b n) : RvmAt (w.setCell ⟨y, k, none⟩ (.int .i64 n)) y (putR x k n) := by
  refine ⟨?_, fun j => ?_, h.p⟩
  · rw [← rc_set x k hk n]
    exact h.hb.set_ k _
  · unfold putR
    simp only
    split
    · exact hn
    · exact h.r j
theorem RvmAt.setP (h : RvmAt w y x) {n : Int} (hn : u32b n) : RvmAt (w.setCell ⟨y, 16, none⟩ (.int .i64 n)) y (putP x n) := ⟨h.hb.set_ 16 _, h.r, hn⟩
theorem RvmAt.setW (h : RvmAt w y x) (b : Bool) : RvmAt (w.setCell ⟨y, 17, none⟩ (.bool b)) y (putW x b) := ⟨h.hb.set_ 17 _, h.r, h.p⟩
theorem RvmAt.ne_ (h : RvmAt w y x) {g : Nat} {t : TypeId} {cs : Array Value} (hb : Blk w g t cs) (ht : t ≠ 86) : g ≠ y := (Blk.ne_ h.hb hb ht.symm).symm
end
theorem RMem.ne_vm {w : World} {q G y : Nat} {st : St} {x : Vm} (h : RMem w q G st) (hv : RvmAt w y x) : q ≠ y ∧ G ≠ y := by
  obtain ⟨⟨⟨c3, h3, -⟩, -⟩, c4, h4, -⟩ := h
  exact ⟨Blk.ne_ h3 hv.hb (by decide), Blk.ne_ h4 hv.hb (by decide)⟩
theorem RMem.ne_ev {w : World} {q G g : Nat} {st : St} {t : TypeId} {cs : Array Value} (h : RMem w q G st) (hb : Blk w g t cs) (h1 : t ≠ 126) (h2 : t ≠ 9) : q ≠ g ∧ G ≠ g := by
  obtain ⟨⟨⟨c3, h3, -⟩, -⟩, c4, h4, -⟩ := h
  exact ⟨Blk.ne_ h3 hb (fun e => h1 e.symm), Blk.ne_ h4 hb (fun e => h2 e.symm)⟩
/-- What a step of the document's machine comes to. -/
def RStepQ (w : World) (y q G : Nat) (E : Int × Int) (X : Vm) (S : St) (e : Ending) (w' : World) : Prop :=
  e = .returned (.agg #[.int .i64 E.1, .int .i64 E.2]) ∧ RvmAt w' y X ∧ RMem w' q G S ∧ Fr [y, G] w w'
/-- What a fetch that tells an instruction has read. -/
theorem fet_parts {x : Vm} {st : St} {t : List Pg} {I : In} (h : fetI x st t = (I, 0)) : x.wt = false ∧ (rdR st t x.pl 4 4).2 = 0 ∧ decI ⟨(rdR st t x.pl 4 4).1.toArray⟩ = (I, 0) := by
  unfold fetI at h
  split at h
  · simp at h
  · next hw =>
    split at h
    · simp at h
    · next h1 =>
      split at h
      · simp at h
      · next h2 =>
        refine ⟨by simpa using hw, by simpa using h1, ?_⟩
        have h3 : (decI ⟨(rdR st t x.pl 4 4).1.toArray⟩).2 = 0 := by simpa using h2
        have h4 : (decI ⟨(rdR st t x.pl 4 4).1.toArray⟩).1 = I := by simpa using h
        exact Prod.ext h4 h3
theorem dec_okI {s : ByteArray} {k : Nat} {a b m : Int} (h : decI s = (⟨k, a, b, m⟩, 0)) : k < 30 ∧ okI ⟨k, a, b, m⟩ k = true := by
  unfold decI at h
  split at h
  · next c0 c1 c2 c3 heq =>
    unfold decB at h
    split at h
    · next hk =>
      simp only [Prod.mk.injEq, and_true] at h
      have e : (c0.toNat : Int) = (k : Int) := congrArg In.op h
      have e' : c0.toNat = k := by omega
      rw [h, e'] at hk
      exact hk
    · simp at h
  · simp at h
theorem fet_trap {x : Vm} {st : St} {t : List Pg} (h : (fetI x st t).2 ≠ 0) : (x.wt = true ∧ (fetI x st t).2 = 2) ∨ (x.wt = false ∧ (rdR st t x.pl 4 4).2 ≠ 0 ∧ (fetI x st t).2 = 1) ∨ (x.wt = false ∧ (rdR st t x.pl 4 4).2 = 0 ∧ (decI ⟨(rdR st t x.pl 4 4).1.toArray⟩).2 ≠ 0 ∧ (fetI x st t).2 = 2) := by
  unfold fetI at h ⊢
  split
  · next hw => exact .inl ⟨hw, rfl⟩
  · next hw =>
    have hw' : x.wt = false := by simpa using hw
    split
    · next h1 => exact .inr (.inl ⟨hw', h1, rfl⟩)
    · next h1 =>
      split
      · next h2 => exact .inr (.inr ⟨hw', by simpa using h1, h2, rfl⟩)
      · next h2 =>
        rw [if_neg hw, if_neg h1, if_neg h2] at h
        simp at h
theorem putR_putR (x : Vm) (k : Nat) (n n' : Int) : putR (putR x k n) k n' = putR x k n' := by
  unfold putR
  congr 1
  funext j
  by_cases h : j = k <;> simp [h]
theorem hi_eq (a m : Int) (h0 : 0 ≤ a) (h1 : a < 4294967296) (m0 : 0 ≤ m) (m1 : m ≤ 65535) : hiV a m = a % 65536 + 65536 * m := by
  have e := hi_low (a % 65536 + 65536 * m) (by omega) (by omega)
  have e1 : (a % 65536 + 65536 * m) % 65536 = a % 65536 := by omega
  have e2 : (a % 65536 + 65536 * m) / 65536 = m := by omega
  rw [e1, e2] at e
  rw [← e]
  unfold hiV
  obtain ⟨N, rfl⟩ := Int.eq_ofNat_of_zero_le h0
  have q1 : ((N : Int) % 65536 % 4294967296) = ((N % 65536 : Nat) : Int) := by omega
  rw [q1]
  have c1 : bits .and .u32 ((N : Nat) : Int) 65535 = ((N % 65536 : Nat) : Int) := by
    have := and32 N 65535 (by omega) (by decide)
    rw [show (65535 : Int) = ((65535 : Nat) : Int) from rfl, this]
    congr 1
    exact Nat.and_two_pow_sub_one_eq_mod N 16
  have c2 : bits .and .u32 ((N % 65536 : Nat) : Int) 65535 = ((N % 65536 : Nat) : Int) := by
    have := and32 (N % 65536) 65535 (by omega) (by decide)
    rw [show (65535 : Int) = ((65535 : Nat) : Int) from rfl, this]
    congr 1
    rw [show (65535 : Nat) = 2 ^ 16 - 1 from rfl, Nat.and_two_pow_sub_one_eq_mod]
    omega
  rw [c1, c2]
theorem fet_good {x : Vm} {st : St} {t : List Pg} {k a b : Nat} {m : Int} (h : fetI x st t = (⟨k, a, b, m⟩, 0)) : a < 16 ∧ b < 16 ∧ (-32768 ≤ m ∧ m ≤ 65535) ∧ okI ⟨k, a, b, m⟩ k = true := by
  obtain ⟨-, -, h3⟩ := fet_parts h
  obtain ⟨-, ho⟩ := dec_okI h3
  obtain ⟨h1, h2, h4, h5⟩ := okI_iff ho
  simp only at h1 h2 h4 h5
  refine ⟨by omega, by omega, ?_, ho⟩
  cases hc : hasC (fm k) 115 with
  | true => have := h4 hc; omega
  | false => have := h5 hc; omega
end Go.Proofs.Ytonongaakieciaa
namespace Go.Proofs.Ytonongaakieciaa
open Go.RowKit
set_option linter.unusedVariables false
set_option linter.unusedSimpArgs false
set_option maxRecDepth 100000
/-- The world behind a fetch. -/
structure RMd (w : World) (y q G bt mm cap : Nat) (A : Option Addr) (t : List Pg) (x : Vm) (st : St) (W : World) : Prop where
  hv : RvmAt W y x
  hm : RMem W q G st
  ht : Tb W bt (.slice A mm cap) t
  fr : Fr [] w W
  ev : Blk W w.heap.size 65 #[.int .i64 0, .int .i64 0]
  lt : w.heap.size < W.heap.size
section
variable {w W W' : World} {y q G bt mm cap : Nat} {A : Option Addr} {t : List Pg} {x : Vm} {st : St}
theorem RMd.to (h : RMd w y q G bt mm cap A t x st W) (hf : Fr [] W W') : RMd w y q G bt mm cap A t x st W' :=
  ⟨h.hv.fr hf (by simp), h.hm.to hf (by simp) (by simp), h.ht.fr hf (by simp), h.fr.trans hf, h.ev.fr hf (by simp), Nat.lt_of_lt_of_le h.lt hf.size⟩
/-- What is known ahead of a step. -/
structure RPre (w : World) (y q G bt mm cap : Nat) (A : Option Addr) (t : List Pg) (x : Vm) (st : St) : Prop where
  hv : RvmAt w y x
  hm : RMem w q G st
  ht : Tb w bt (.slice A mm cap) t
  hG : bt ≠ G
theorem RPre.md (h : RPre w y q G bt mm cap A t x st) : RMd w y q G bt mm cap A t x st (w.alloc (.cells #[.int .i64 0, .int .i64 0] 65)) :=
  ⟨h.hv.fr ((Fr.refl [] w).alloc _) (by simp), h.hm.to ((Fr.refl [] w).alloc _) (by simp) (by simp), h.ht.fr ((Fr.refl [] w).alloc _) (by simp), (Fr.refl [] w).alloc _, Blk.new w 65 _, by simp⟩
/-- The fetch: four bytes, and what they say. -/
theorem RMd.read (h : RMd w y q G bt mm cap A t x st W) : Calls Try.prog 65 #[ptr q, .slice A mm cap, .int .i64 x.pl, .int .i64 4, .int .i64 4] W fun e w' => e = .returned (.tuple #[.string ⟨(rdR st t x.pl 4 4).1.toArray⟩, .int .i64 (rdR st t x.pl 4 4).2]) ∧ RMd w y q G bt mm cap A t x st w' := by
  have hp := h.hv.p.2
  exact (rRead_any bt q G mm cap st A t x.pl 4 4 W h.ht h.hm (by omega)).mono fun e w' ⟨he, hf⟩ => ⟨he, h.to hf⟩
theorem RMd.dec (h : RMd w y q G bt mm cap A t x st W) (s : ByteArray) : Calls Try.prog 82 #[.string s] W fun e w' => e = .returned (.tuple #[(decI s).1.v, .int .i64 (decI s).2]) ∧ RMd w y q G bt mm cap A t x st w' :=
  (rDecode_any s W).mono fun e w' ⟨he, hf⟩ => ⟨he, h.to hf⟩
theorem RMd.trap (h : RMd w y q G bt mm cap A t x st W) (n : Int) : Calls Try.prog 81 #[.int .i64 n] W fun e w' => e = .returned (.agg #[.int .i64 2, .int .i64 n]) ∧ RMd w y q G bt mm cap A t x st w' :=
  (rTrap_any n W).mono fun e w' ⟨he, hf⟩ => ⟨he, h.to hf⟩
end
/-- The event is laid into the result. -/
theorem rev_end {w W : World} {y q G : Nat} {X : Vm} {S : St} {e0 e1 : Value} (hv : RvmAt W y X) (hm : RMem W q G S) (hf : Fr [y, G] w W) (hb : Blk W w.heap.size 65 #[e0, e1]) (k n : Int) :
    Blk ((W.setCell ⟨w.heap.size, 0, none⟩ (.int .i64 k)).setCell ⟨w.heap.size, 1, none⟩ (.int .i64 n)) w.heap.size 65 #[.int .i64 k, .int .i64 n] ∧ RStepQ w y q G (k, n) X S (.returned (.agg #[.int .i64 k, .int .i64 n])) ((W.setCell ⟨w.heap.size, 0, none⟩ (.int .i64 k)).setCell ⟨w.heap.size, 1, none⟩ (.int .i64 n)) := by
  have n1 := hv.ne_ hb (by decide)
  obtain ⟨n2, n3⟩ := hm.ne_ev hb (by decide) (by decide)
  have f1 : Fr [w.heap.size] W ((W.setCell ⟨w.heap.size, 0, none⟩ (.int .i64 k)).setCell ⟨w.heap.size, 1, none⟩ (.int .i64 n)) := ((Fr.refl [w.heap.size] W).setCell (p := ⟨w.heap.size, 0, none⟩) (.inl (by simp)) _).setCell (p := ⟨w.heap.size, 1, none⟩) (.inl (by simp)) _
  refine ⟨(hb.set_ 0 _).set_ 1 _, rfl, hv.fr f1 (by simpa using n1.symm), hm.to f1 (by simpa using n2) (by simpa using n3), ?_⟩
  exact (hf.setCell (p := ⟨w.heap.size, 0, none⟩) (.inr (Nat.le_refl _)) _).setCell (p := ⟨w.heap.size, 1, none⟩) (.inr (Nat.le_refl _)) _
/-- The end of a step that goes on: the place is laid. -/
theorem rdone_end {w W : World} {y q G : Nat} {X x : Vm} {S : St} {e0 e1 : Value} {nx : Int} (hn : u32b nx) (hv : RvmAt W y x) (hX : putP x nx = X) (hm : RMem W q G S) (hf : Fr [y, G] w W) (hb : Blk W w.heap.size 65 #[e0, e1]) (k n : Int) :
    Blk (((W.setCell ⟨y, 16, none⟩ (.int .i64 nx)).setCell ⟨w.heap.size, 0, none⟩ (.int .i64 k)).setCell ⟨w.heap.size, 1, none⟩ (.int .i64 n)) w.heap.size 65 #[.int .i64 k, .int .i64 n] ∧ RStepQ w y q G (k, n) X S (.returned (.agg #[.int .i64 k, .int .i64 n])) (((W.setCell ⟨y, 16, none⟩ (.int .i64 nx)).setCell ⟨w.heap.size, 0, none⟩ (.int .i64 k)).setCell ⟨w.heap.size, 1, none⟩ (.int .i64 n)) := by
  obtain ⟨m1, m2⟩ := hm.ne_vm hv
  have f1 : Fr [y] W (W.setCell ⟨y, 16, none⟩ (.int .i64 nx)) := (Fr.refl [y] W).setCell (p := ⟨y, 16, none⟩) (.inl (by simp)) _
  have n1 := hv.ne_ hb (by decide)
  have h := rev_end (w := w) (hv.setP hn) (hm.to f1 (by simpa using m1) (by simpa using m2)) (hf.setCell (p := ⟨y, 16, none⟩) (.inl (by simp)) (.int .i64 nx)) (hb.fr f1 (by simpa using n1)) k n
  rw [hX] at h
  exact h
set_option maxHeartbeats 4000000 in
theorem rs_trap (y q G bt mm cap : Nat) (x : Vm) (st : St) (A : Option Addr) (t : List Pg) (w : World) (h : RPre w y q G bt mm cap A t x st) (n : Int) (hf : (fetI x st t).2 = n) (hn : n ≠ 0) :
    Calls Try.prog 44 #[ptr y, ptr q, .slice A mm cap] w (RStepQ w y q G (2, n) x st) := by
  have Hmd := Lib.hid h.md
  have HT := Lib.hid (fun W (h : RMd w y q G bt mm cap A t x st W) => h.trap n)
  have HE := Lib.hid (fun W (h : RMd w y q G bt mm cap A t x st W) => rev_end h.hv h.hm (h.fr.mono (by simp)) h.ev 2 n)
  have HK := Lib.hid (fun W (h : RMd w y q G bt mm cap A t x st W) => (show W.cell? ⟨w.heap.size, 0, none⟩ = some (.int .i64 0) ∧ W.cell? ⟨w.heap.size, 1, none⟩ = some (.int .i64 0) ∧ (∀ i, W.frozen? ⟨w.heap.size, i, none⟩ = false) from ⟨h.ev.cell 0, h.ev.cell 1, h.ev.frozen⟩))
  have hyl := h.hv.lt
  have c17 := h.hv.waits
  have c16 := h.hv.place
  have hft := fet_trap (x := x) (st := st) (t := t) (by rw [hf]; exact hn)
  rw [hf] at hft
  have HRd := Lib.hid (fun W (h : RMd w y q G bt mm cap A t x st W) => h.read)
  have HDc := Lib.hid (fun W (h : RMd w y q G bt mm cap A t x st W) => h.dec ⟨(rdR st t x.pl 4 4).1.toArray⟩)
  clear h hf hn
  rcases hft with ⟨hw, rfl⟩ | ⟨hw, hr, rfl⟩ | ⟨hw, hr, hd, rfl⟩
  · rw [hw] at c17
    clear hw HRd HDc
    go_enter Try.func44, Try.ntmps44
    go_wp2_with (first
      | (go_at_call 81; refine (HT.out _ Hmd.out).mono ?_; rintro e w1 ⟨rfl, hm1⟩; obtain ⟨k0, k1, kf⟩ := HK.out _ hm1; have HE1 := Lib.hid (HE.out _ hm1); clear hm1)
      | fail)
    refine bodyPost_ret (v := .agg #[.int .i64 2, .int .i64 2]) ?_ rfl HE1.out.2
    exact results_cell_row Try.results44 _ _ w.heap.size 65 _ (0, 0) _ rfl HE1.out.1 Try.underlying65 rfl (by kernel_rfl)
  · rw [hw] at c17
    generalize (rdR st t x.pl 4 4).2 = E at *
    generalize (⟨(rdR st t x.pl 4 4).1.toArray⟩ : ByteArray) = B at *
    have hEb : (E != 0) = true := bne_iff_ne.2 hr
    clear hw HDc hr
    go_enter Try.func44, Try.ntmps44
    go_wp2_with (first
      | (go_at_call 65; refine (HRd.out _ Hmd.out).mono ?_; rintro e w1 ⟨rfl, hm1⟩; have Hm1 := Lib.hid hm1; clear hm1)
      | (go_at_call 81; refine (HT.out _ Hm1.out).mono ?_; rintro e w1 ⟨rfl, hm1⟩; obtain ⟨k0, k1, kf⟩ := HK.out _ hm1; have HE1 := Lib.hid (HE.out _ hm1); clear hm1)
      | fail)
    refine bodyPost_ret (v := .agg #[.int .i64 2, .int .i64 1]) ?_ rfl HE1.out.2
    exact results_cell_row Try.results44 _ _ w.heap.size 65 _ (0, 0) _ rfl HE1.out.1 Try.underlying65 rfl (by kernel_rfl)
  · rw [hw] at c17
    rw [hr] at HRd
    generalize (⟨(rdR st t x.pl 4 4).1.toArray⟩ : ByteArray) = B at *
    obtain ⟨P, hP⟩ : ∃ P, decI B = P := ⟨_, rfl⟩
    rw [hP] at hd HDc
    obtain ⟨⟨io, ia, ib, im⟩, D⟩ := P
    simp only at hd HDc
    have hDb : (D != 0) = true := bne_iff_ne.2 hd
    clear hw hr hd hP
    go_enter Try.func44, Try.ntmps44
    go_wp2_with (first
      | (go_at_call 65; refine (HRd.out _ Hmd.out).mono ?_; rintro e w1 ⟨rfl, hm1⟩; have Hm1 := Lib.hid hm1; clear hm1)
      | (go_at_call 82; refine (HDc.out _ Hm1.out).mono ?_; rintro e w2 ⟨rfl, hm2⟩; have Hm2 := Lib.hid (hm2.to ((Fr.refl [] w2).alloc (.cells #[.int .i64 io, .int .i64 ia, .int .i64 ib, .int .i64 im] 53))); clear hm2)
      | (go_at_call 81; refine (HT.out _ Hm2.out).mono ?_; rintro e w1 ⟨rfl, hm1⟩; obtain ⟨k0, k1, kf⟩ := HK.out _ hm1; have HE1 := Lib.hid (HE.out _ hm1); clear hm1)
      | fail)
    refine bodyPost_ret (v := .agg #[.int .i64 2, .int .i64 2]) ?_ rfl HE1.out.2
    exact results_cell_row Try.results44 _ _ w.heap.size 65 _ (0, 0) _ rfl HE1.out.1 Try.underlying65 rfl (by kernel_rfl)
theorem RStepQ.to {w W W' : World} {y q G : Nat} {E : Int × Int} {X : Vm} {S : St} {e : Ending} (h : RStepQ w y q G E X S e W) (hf : Fr [] W W') : RStepQ w y q G E X S e W' :=
  ⟨h.1, h.2.1.fr hf (by simp), h.2.2.1.to hf (by simp) (by simp), h.2.2.2.trans (hf.mono (by simp))⟩
section
variable {w W : World} {y q G bt mm cap : Nat} {A : Option Addr} {t : List Pg} {x : Vm} {st : St} (h : RMd w y q G bt mm cap A t x st W)
include h
theorem RMd.fin0 {nx : Int} (hn : u32b nx) (k n : Int) :
    Blk (((W.setCell ⟨y, 16, none⟩ (.int .i64 nx)).setCell ⟨w.heap.size, 0, none⟩ (.int .i64 k)).setCell ⟨w.heap.size, 1, none⟩ (.int .i64 n)) w.heap.size 65 #[.int .i64 k, .int .i64 n] ∧ RStepQ w y q G (k, n) (putP x nx) st (.returned (.agg #[.int .i64 k, .int .i64 n])) (((W.setCell ⟨y, 16, none⟩ (.int .i64 nx)).setCell ⟨w.heap.size, 0, none⟩ (.int .i64 k)).setCell ⟨w.heap.size, 1, none⟩ (.int .i64 n)) :=
  rdone_end hn h.hv rfl h.hm (h.fr.mono (by simp)) h.ev k n
theorem RMd.finR {a : Nat} (ha : a < 16) {v nx : Int} (hv : u32b v) (hn : u32b nx) :
    Blk ((((W.setCell ⟨y, a, none⟩ (.int .i64 v)).setCell ⟨y, 16, none⟩ (.int .i64 nx)).setCell ⟨w.heap.size, 0, none⟩ (.int .i64 0)).setCell ⟨w.heap.size, 1, none⟩ (.int .i64 0)) w.heap.size 65 #[.int .i64 0, .int .i64 0] ∧ RStepQ w y q G (0, 0) (putP (putR x a v) nx) st (.returned (.agg #[.int .i64 0, .int .i64 0])) ((((W.setCell ⟨y, a, none⟩ (.int .i64 v)).setCell ⟨y, 16, none⟩ (.int .i64 nx)).setCell ⟨w.heap.size, 0, none⟩ (.int .i64 0)).setCell ⟨w.heap.size, 1, none⟩ (.int .i64 0)) := by
  obtain ⟨m1, m2⟩ := h.hm.ne_vm h.hv
  have f1 : Fr [y] W (W.setCell ⟨y, a, none⟩ (.int .i64 v)) := (Fr.refl [y] W).setCell (p := ⟨y, a, none⟩) (.inl (by simp)) _
  have n1 := h.hv.ne_ h.ev (by decide)
  exact rdone_end hn (h.hv.setR ha hv) rfl (h.hm.to f1 (by simpa using m1) (by simpa using m2)) (((h.fr.mono (S' := [y, G]) (by simp)).setCell (p := ⟨y, a, none⟩) (.inl (by simp)) _)) (h.ev.fr f1 (by simpa using n1)) 0 0
theorem RMd.finRR {a : Nat} (ha : a < 16) {v' v nx : Int} (hv' : u32b v') (hv : u32b v) (hn : u32b nx) :
    Blk (((((W.setCell ⟨y, a, none⟩ (.int .i64 v')).setCell ⟨y, a, none⟩ (.int .i64 v)).setCell ⟨y, 16, none⟩ (.int .i64 nx)).setCell ⟨w.heap.size, 0, none⟩ (.int .i64 0)).setCell ⟨w.heap.size, 1, none⟩ (.int .i64 0)) w.heap.size 65 #[.int .i64 0, .int .i64 0] ∧ RStepQ w y q G (0, 0) (putP (putR x a v) nx) st (.returned (.agg #[.int .i64 0, .int .i64 0])) (((((W.setCell ⟨y, a, none⟩ (.int .i64 v')).setCell ⟨y, a, none⟩ (.int .i64 v)).setCell ⟨y, 16, none⟩ (.int .i64 nx)).setCell ⟨w.heap.size, 0, none⟩ (.int .i64 0)).setCell ⟨w.heap.size, 1, none⟩ (.int .i64 0)) := by
  obtain ⟨m1, m2⟩ := h.hm.ne_vm h.hv
  have f1 : Fr [y] W ((W.setCell ⟨y, a, none⟩ (.int .i64 v')).setCell ⟨y, a, none⟩ (.int .i64 v)) := ((Fr.refl [y] W).setCell (p := ⟨y, a, none⟩) (.inl (by simp)) _).setCell (p := ⟨y, a, none⟩) (.inl (by simp)) _
  have n1 := h.hv.ne_ h.ev (by decide)
  have e := putR_putR x a v' v
  exact rdone_end hn ((h.hv.setR ha hv').setR ha hv) (by rw [e]) (h.hm.to f1 (by simpa using m1) (by simpa using m2)) ((((h.fr.mono (S' := [y, G]) (by simp)).setCell (p := ⟨y, a, none⟩) (.inl (by simp)) _)).setCell (p := ⟨y, a, none⟩) (.inl (by simp)) _) (h.ev.fr f1 (by simpa using n1)) 0 0
theorem RMd.finW {nx : Int} (hn : u32b nx) (k n : Int) :
    Blk ((((W.setCell ⟨y, 17, none⟩ (.bool true)).setCell ⟨y, 16, none⟩ (.int .i64 nx)).setCell ⟨w.heap.size, 0, none⟩ (.int .i64 k)).setCell ⟨w.heap.size, 1, none⟩ (.int .i64 n)) w.heap.size 65 #[.int .i64 k, .int .i64 n] ∧ RStepQ w y q G (k, n) (putP (putW x true) nx) st (.returned (.agg #[.int .i64 k, .int .i64 n])) ((((W.setCell ⟨y, 17, none⟩ (.bool true)).setCell ⟨y, 16, none⟩ (.int .i64 nx)).setCell ⟨w.heap.size, 0, none⟩ (.int .i64 k)).setCell ⟨w.heap.size, 1, none⟩ (.int .i64 n)) := by
  obtain ⟨m1, m2⟩ := h.hm.ne_vm h.hv
  have f1 : Fr [y] W (W.setCell ⟨y, 17, none⟩ (.bool true)) := (Fr.refl [y] W).setCell (p := ⟨y, 17, none⟩) (.inl (by simp)) _
  have n1 := h.hv.ne_ h.ev (by decide)
  exact rdone_end hn (h.hv.setW true) rfl (h.hm.to f1 (by simpa using m1) (by simpa using m2)) (((h.fr.mono (S' := [y, G]) (by simp)).setCell (p := ⟨y, 17, none⟩) (.inl (by simp)) _)) (h.ev.fr f1 (by simpa using n1)) k n
theorem RMd.load (k : Int) (ad : Int) (had : ad ≤ 9223372036854775807) : Calls Try.prog 83 #[ptr q, .slice A mm cap, .int .i64 ad, .int .i64 k, .int .i64 1] W fun e w' => e = .returned (.tuple #[.int .i64 (ldR st t ad k 1).1, .int .i64 (ldR st t ad k 1).2]) ∧ RMd w y q G bt mm cap A t x st w' :=
  (rLoad_any bt q G mm cap st A t ad k 1 W h.ht h.hm had).mono fun e w' ⟨he, hf⟩ => ⟨he, h.to hf⟩
end
end Go.Proofs.Ytonongaakieciaa
