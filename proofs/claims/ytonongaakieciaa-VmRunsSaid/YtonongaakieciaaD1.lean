/- fixed: the machine's steps at the law's own program (no program in sight). A machine, a memory and a table in one world; fixed, walked. A program that lies in the first frame is fetched as it was written (no program in sight). The laws of VmAnswers and VmReturns: what their programs come to (no program in sight). The law's bytes, of any instructions; Low. A world of the law: Lay of any text, made. -/
import Derived.Test.YtonongaakieciaaF5
import Derived.Test.YtonongaakieciaaV13
import Derived.Test.YtonongaakieciaaB6
import Derived.Test.YtonongaakieciaaV14
import Derived.Test.YtonongaakieciaaLib2
import Derived.Test.YtonongaakieciaaW22
namespace Go.Proofs.Ytonongaakieciaa
open Go.RowKit
set_option linter.unusedVariables false
set_option maxRecDepth 100000
def fF (j : Nat) : In := if j = 0 then ⟨2, 1, 0, 7⟩ else if j = 1 then ⟨19, 3, 0, -1⟩ else if j = 2 then ⟨29, 0, 0, 9⟩ else ⟨8, 1, 4, 0⟩
def stF : St := layS ⟨1, fun _ => 0⟩ 0 0 (catE fF 4)
def tF : List Pg := [⟨0, 7⟩]
theorem lay0 : layE 1 0 0 (catE fF 4) = 0 := by kernel_rfl
theorem okF : ∀ j, j < 4 → ∃ k : Nat, k < 30 ∧ (fF j).op = (k : Int) ∧ okI (fF j) k = true := by
  intro j hj
  match j, hj with
  | 0, _ => exact ⟨2, by decide, rfl, by kernel_rfl⟩
  | 1, _ => exact ⟨19, by decide, rfl, by kernel_rfl⟩
  | 2, _ => exact ⟨29, by decide, rfl, by kernel_rfl⟩
  | 3, _ => exact ⟨8, by decide, rfl, by kernel_rfl⟩
def s1 := stepV vm0 stF tF
def s2 := stepV s1.2.1 s1.2.2 tF
def s3 := stepV s2.2.1 s2.2.2 tF
def s4 := stepV s3.2.1 s3.2.2 tF
theorem s1_1 : s1.1 = (0, 0) := by kernel_rfl
theorem s2_1 : s2.1 = (0, 0) := by kernel_rfl
theorem s3_1 : s3.1 = (3, 9) := by kernel_rfl
theorem s4_1 : s4.1 = (2, 2) := by kernel_rfl
theorem s4_w : s4.2.1.wt = true := by kernel_rfl
theorem s4_p : s4.2.1.pl = 12 := by kernel_rfl
theorem s4_r1 : s4.2.1.r 1 = 7 := by kernel_rfl
theorem s4_r3 : s4.2.1.r 3 = 4294967295 := by kernel_rfl
def lF (j : Nat) : Int := if j = 0 then 1 else if j = 1 then -1 else 2
def xF : Vm := ansV s4.2.1 lF
def s5 := stepV xF s4.2.2 tF
theorem s5_1 : s5.1 = (2, 5) := by kernel_rfl
theorem s5_r1 : s5.2.1.r 1 = 4294967295 := by kernel_rfl
theorem s5_r3 : s5.2.1.r 3 = 4294967295 := by kernel_rfl
theorem s5_p : s5.2.1.pl = 12 := by kernel_rfl
theorem s5_w : s5.2.1.wt = false := by kernel_rfl
end Go.Proofs.Ytonongaakieciaa
namespace Go.Proofs.Ytonongaakieciaa
open Go.RowKit
set_option linter.unusedVariables false
set_option linter.unusedSimpArgs false
set_option maxRecDepth 100000
/-- A machine, a memory that was made since w, and a table. -/
structure MW (w W : World) (v p F b mm cap : Nat) (A : Option Addr) (t : List Pg) (x : Vm) (st : St) : Prop where
  vm : VmAt W v x
  mem : MemAt W p F st
  tb : Tb W b (.slice A mm cap) t
  lt : b < W.heap.size
  nv : b ≠ v
  nF : b ≠ F
  fr : Fr [] w W
  gv : w.heap.size ≤ v
  gF : w.heap.size ≤ F
  gp : w.heap.size ≤ p
section
variable {w W W' : World} {v p F b mm cap : Nat} {A : Option Addr} {t : List Pg} {x : Vm} {st : St}
theorem MW.to (h : MW w W v p F b mm cap A t x st) (hf : Fr [] W W') : MW w W' v p F b mm cap A t x st :=
  ⟨h.vm.fr hf (by simp), h.mem.to hf (by simp) (by simp), h.tb.fr hf (by simp), Nat.lt_of_lt_of_le h.lt hf.size, h.nv, h.nF, h.fr.trans hf, h.gv, h.gF, h.gp⟩
theorem MW.step (h : MW w W v p F b mm cap A t x st) {E : Int × Int} {X : Vm} {S : St} (hs : stepV x st t = (E, X, S)) : Calls Try.prog 34 #[ptr v, ptr p, .slice A mm cap] W fun e w' => e = .returned (.agg #[.int .i64 E.1, .int .i64 E.2]) ∧ MW w w' v p F b mm cap A t X S := by
  refine (Step_any v p F b mm cap x st A t W h.vm h.mem h.tb h.lt).mono ?_
  rw [hs]
  rintro e w' ⟨he, hv, hm, hf⟩
  exact ⟨he, hv, hm, h.tb.fr hf (by simp [h.nv, h.nF]), Nat.lt_of_lt_of_le h.lt hf.size, h.nv, h.nF, h.fr.step hf (fun k hk => by simp at hk; rcases hk with rfl | rfl <;> first | exact .inr h.gv | exact .inr h.gF), h.gv, h.gF, h.gp⟩
theorem MW.yes (h : MW w W v p F b mm cap A t x st) (hw : x.wt = true) {g o c : Nat} {l : Nat → Int} (hl : ∀ j, j < 3 → W.cell? ⟨g, o + j, none⟩ = some (.int .i64 (l j))) (hg : g ≠ v) : Calls Try.prog 33 #[ptr v, .slice (some ⟨g, o, none⟩) 3 c] W fun e w' => e = .returned (.int .i64 0) ∧ MW w w' v p F b mm cap A t (ansV x l) st := by
  obtain ⟨n1, n2⟩ := h.mem.ne_vm h.vm
  refine (vAnswer_yes h.vm g o c l hw hl hg).mono ?_
  rintro e w' ⟨he, hv, hf⟩
  exact ⟨he, hv, h.mem.to hf (by simpa using n1) (by simpa using n2), h.tb.fr hf (by simpa using h.nv), Nat.lt_of_lt_of_le h.lt hf.size, h.nv, h.nF, h.fr.step hf (fun k hk => by simp at hk; subst hk; exact .inr h.gv), h.gv, h.gF, h.gp⟩
end
/-- A table of one page, just made. -/
theorem MW.one {w W : World} {v p F g : Nat} {f r : Int} {x : Vm} {st : St} (hv : VmAt W v x) (hm : MemAt W p F st) (hb : Blk W g 61 #[.int .i64 f, .int .i64 r]) (hf : Fr [] w W) (gv : w.heap.size ≤ v) (gF : w.heap.size ≤ F) (gp : w.heap.size ≤ p) : MW w W v p F g 1 1 (some ⟨g, 0, none⟩) [⟨f, r⟩] x st :=
  ⟨hv, hm, ⟨by simp [maxLen], some ⟨g, 0, none⟩, 1, rfl, fun i q hi => by
    match i, hi with
    | 0, hi => cases hi; exact ⟨0, rfl, hb.lt, hb.cell 0, hb.cell 1⟩
    | n + 1, hi => simp at hi⟩, hb.lt, (Blk.ne_ hv.hb hb (by decide)).symm, (hm.ne_ev hb (by decide) (by decide)).2.symm, hf, gv, gF, gp⟩
/-- A frame is laid, beside a machine. -/
theorem vm_lay {w W W' : World} {v p F : Nat} {x : Vm} {st st' : St} (hv : VmAt W v x) (hm : MemAt W p F st) (hf : Fr [] w W) (gF : w.heap.size ≤ F) (hm' : MemAt W' p F st') (hf' : Fr [F] W W') : VmAt W' v x ∧ MemAt W' p F st' ∧ Fr [] w W' := by
  have n3 : F ≠ v := (hm.ne_vm hv).2
  exact ⟨hv.fr hf' (by simpa using n3.symm), hm', hf.step hf' (fun k hk => by simp at hk; subst hk; exact .inr gF)⟩
set_option maxHeartbeats 8000000 in
theorem lFixed_any (w : World) : Calls Try.prog 37 #[] w fun e w' => e = .returned (.bool true) ∧ Fr [] w w' := by
  have HN := Lib.hid (New_ok 1 w (by decide) (by decide))
  have HV := Lib.hid vNew_any
  have hcz := catE_size fF 4
  have HB : Hid (∀ (W : World) (g cap : Nat), Blk W g 53 #[.int .i64 2, .int .i64 1, .int .i64 0, .int .i64 7, .int .i64 19, .int .i64 3, .int .i64 0, .int .i64 (-1), .int .i64 29, .int .i64 0, .int .i64 0, .int .i64 9, .int .i64 8, .int .i64 1, .int .i64 4, .int .i64 0] → Calls Try.prog 32 #[.slice (some ⟨g, 0, none⟩) 4 cap] W fun e w' => e = .returned (.string (catE fF 4)) ∧ Fr [] W w') :=
    Lib.hid (fun W g cap hb => lBytes_4 fF g cap W hb okF)
  have HL : Hid (∀ (W : World) (p F : Nat), MemAt W p F ⟨1, fun _ => 0⟩ → Calls Try.prog 31 #[ptr p, .int .i64 0, .int .i64 0, .string (catE fF 4)] W fun e w' => e = .returned (.int .i64 0) ∧ MemAt w' p F stF ∧ Fr [F] W w') :=
    Lib.hid (fun W p F hm => by
      have := Lay_any p F ⟨1, fun _ => 0⟩ W 0 0 (catE fF 4) hm (by omega)
      unfold LayP at this
      rw [lay0] at this
      exact this)
  obtain ⟨⟨X1, S1⟩, h1⟩ : ∃ q, stepV vm0 stF tF = ((0, 0), q) := ⟨_, Prod.ext s1_1 rfl⟩
  have e1 : s1 = ((0, 0), X1, S1) := h1
  obtain ⟨⟨X2, S2⟩, h2⟩ : ∃ q, stepV X1 S1 tF = ((0, 0), q) := ⟨_, Prod.ext (by have := s2_1; unfold s2 at this; rw [e1] at this; exact this) rfl⟩
  have e2 : s2 = ((0, 0), X2, S2) := by unfold s2; rw [e1]; exact h2
  obtain ⟨⟨X3, S3⟩, h3⟩ : ∃ q, stepV X2 S2 tF = ((3, 9), q) := ⟨_, Prod.ext (by have := s3_1; unfold s3 at this; rw [e2] at this; exact this) rfl⟩
  have e3 : s3 = ((3, 9), X3, S3) := by unfold s3; rw [e2]; exact h3
  obtain ⟨⟨X4, S4⟩, h4⟩ : ∃ q, stepV X3 S3 tF = ((2, 2), q) := ⟨_, Prod.ext (by have := s4_1; unfold s4 at this; rw [e3] at this; exact this) rfl⟩
  have e4 : s4 = ((2, 2), X4, S4) := by unfold s4; rw [e3]; exact h4
  have w4 : X4.wt = true := by have := s4_w; rw [e4] at this; exact this
  have exF : xF = ansV X4 lF := by unfold xF; rw [e4]
  obtain ⟨⟨X5, S5⟩, h5⟩ : ∃ q, stepV (ansV X4 lF) S4 tF = ((2, 5), q) := ⟨_, Prod.ext (by have := s5_1; unfold s5 at this; rw [exF, e4] at this; exact this) rfl⟩
  have e5 : s5 = ((2, 5), X5, S5) := by unfold s5; rw [exF, e4]; exact h5
  have r1 : X5.r 1 = 4294967295 := by have := s5_r1; rw [e5] at this; exact this
  have r3 : X5.r 3 = 4294967295 := by have := s5_r3; rw [e5] at this; exact this
  have p5 : X5.pl = 12 := by have := s5_p; rw [e5] at this; exact this
  have w5 : X5.wt = false := by have := s5_w; rw [e5] at this; exact this
  have H1 := Lib.hid (fun W v p F g (h : MW w W v p F g 1 1 (some ⟨g, 0, none⟩) tF vm0 stF) => h.step h1)
  have H2 := Lib.hid (fun W v p F g (h : MW w W v p F g 1 1 (some ⟨g, 0, none⟩) tF X1 S1) => h.step h2)
  have H3 := Lib.hid (fun W v p F g (h : MW w W v p F g 1 1 (some ⟨g, 0, none⟩) tF X2 S2) => h.step h3)
  have H4 := Lib.hid (fun W v p F g (h : MW w W v p F g 1 1 (some ⟨g, 0, none⟩) tF X3 S3) => h.step h4)
  have H5 := Lib.hid (fun W v p F g (h : MW w W v p F g 1 1 (some ⟨g, 0, none⟩) tF (ansV X4 lF) S4) => h.step h5)
  have HW4 := Lib.hid (fun W v p F g (h : MW w W v p F g 1 1 (some ⟨g, 0, none⟩) tF X4 S4) => (show Calls Try.prog 35 #[ptr v] W fun e w' => e = .returned (.bool true) ∧ W = w' by have := vWaits_any h.vm; rwa [w4] at this))
  have HA4 := Lib.hid (fun W v p F g (h : MW w W v p F g 1 1 (some ⟨g, 0, none⟩) tF X4 S4) (A : Option Addr) (c : Nat) => vAnswer_no h.vm A 2 c (.inr (by decide)))
  have HY4 := Lib.hid (fun W v p F g (h : MW w W v p F g 1 1 (some ⟨g, 0, none⟩) tF X4 S4) (k c : Nat) (hb : Blk W k 3 #[.int .i64 1, .int .i64 (-1), .int .i64 2]) => h.yes (c := c) (l := lF) w4 (g := k) (o := 0) (fun j hj => by
    rw [Nat.zero_add, hb.cell]
    rcases (by omega : j = 0 ∨ j = 1 ∨ j = 2) with rfl | rfl | rfl <;> rfl) (Blk.ne_ hb h.vm.hb (by decide)))
  have HW5 := Lib.hid (fun W v p F g (h : MW w W v p F g 1 1 (some ⟨g, 0, none⟩) tF X5 S5) => (show Calls Try.prog 35 #[ptr v] W fun e w' => e = .returned (.bool false) ∧ W = w' by have := vWaits_any h.vm; rwa [w5] at this))
  have HP5 := Lib.hid (fun W v p F g (h : MW w W v p F g 1 1 (some ⟨g, 0, none⟩) tF X5 S5) => (show Calls Try.prog 38 #[ptr v] W fun e w' => e = .returned (.int .i64 12) ∧ W = w' by have := vPlace_any h.vm; rwa [p5] at this))
  have HR1 := Lib.hid (fun W v p F g (h : MW w W v p F g 1 1 (some ⟨g, 0, none⟩) tF X5 S5) => (show Calls Try.prog 36 #[ptr v, .int .i64 1] W fun e w' => e = .returned (.int .i64 4294967295) ∧ W = w' by have := vReg_in h.vm 1 (by decide); rwa [r1] at this))
  have HR3 := Lib.hid (fun W v p F g (h : MW w W v p F g 1 1 (some ⟨g, 0, none⟩) tF X5 S5) => (show Calls Try.prog 36 #[ptr v, .int .i64 3] W fun e w' => e = .returned (.int .i64 4294967295) ∧ W = w' by have := vReg_in h.vm 3 (by decide); rwa [r3] at this))
  have HR16 := Lib.hid (fun W (v : Nat) => (show Calls Try.prog 36 #[ptr v, .int .i64 16] W fun e w' => e = .returned (.int .i64 0) ∧ W = w' from vReg_out 16 (.inr (by decide))))
  have HM : Hid (∀ (W1 W2 W3 W4 : World) (p F v g : Nat), MemAt W1 p F ⟨1, fun _ => 0⟩ → Fr [] w W1 → w.heap.size ≤ p → w.heap.size ≤ F → VmAt W2 v vm0 → Fr [] W1 W2 → v = W1.heap.size → Blk W3 g 61 #[.int .i64 0, .int .i64 7] → Fr [] W2 W3 → MemAt W4 p F stF → Fr [F] W3 W4 → MW w W4 v p F g 1 1 (some ⟨g, 0, none⟩) tF vm0 stF) := Lib.hid (by
    intro W1 W2 W3 W4 p F v g hm hf1 hp hF hv hf2 hvz hb hf3 hm4 hf4
    have hv3 := hv.fr hf3 (by simp)
    have n1 : g ≠ v := (Blk.ne_ hv3.hb hb (by decide)).symm
    have hm3 := (hm.to hf2 (by simp) (by simp)).to hf3 (by simp) (by simp)
    have n2 : g ≠ F := (hm3.ne_ev hb (by decide) (by decide)).2.symm
    have n3 : F ≠ v := (hm3.ne_vm hv3).2
    have hb4 := hb.fr hf4 (by simpa using n2)
    refine ⟨hv3.fr hf4 (by simpa using n3.symm), hm4, ⟨by decide, some ⟨g, 0, none⟩, 1, rfl, fun i q hi => ?_⟩, hb4.lt, n1, n2, ?_, by have := hf1.size; omega, hF, hp⟩
    · match i, hi with
      | 0, hi => cases hi; exact ⟨0, rfl, hb4.lt, hb4.cell 0, hb4.cell 1⟩
      | n + 1, hi => simp [tF] at hi
    · exact ((hf1.trans hf2).trans hf3).step hf4 (fun k hk => by simp at hk; subst hk; exact .inr hF))
  generalize ansV X4 lF = Y4 at *
  generalize catE fF 4 = B at *
  generalize stF = S0 at *
  generalize tF = T at *
  clear h1 h2 h3 h4 h5 e1 e2 e3 e4 e5 w4 w5 exF r1 r3 p5 hcz
  go_enter Try.func37, Try.ntmps37
  go_wp2_with (first
    | (go_at_call 29; refine HN.out.mono ?_; clear HN; rintro e w1 ⟨rfl, hm, hf⟩; have HM1 := Lib.hid hm; have HF1 := Lib.hid hf; clear hm hf)
    | (go_at_call 30; refine (HV.out _).mono ?_; clear HV; rintro e w2 ⟨rfl, hv, hf⟩; have HV2 := Lib.hid hv; have HF2 := Lib.hid hf; clear hv hf)
    | (go_at_call 32; refine (HB.out _ _ _ (Blk.new' (by simp))).mono ?_; clear HB; rintro e w3 ⟨rfl, hf⟩; have HB3 := Lib.hid ((Blk.new w2 61 _).fr (((Fr.refl [] _).alloc _).trans hf) (by simp)); have HF3 := Lib.hid ((((Fr.refl [] w2).alloc _).alloc _).trans hf); clear hf)
    | (go_at_call 31; refine (HL.out _ _ _ ((HM1.out.to HF2.out (by simp) (by simp)).to HF3.out (by simp) (by simp))).mono ?_; clear HL; rintro e w4 ⟨rfl, hm, hf⟩
       have hd := HM.out w1 w2 w3 w4 _ _ _ _ HM1.out HF1.out (by omega) (by omega) HV2.out HF2.out rfl HB3.out HF3.out hm hf; clear hm hf)
    | (go_at_call 34; have hq := H1.out _ _ _ _ _ hd; clear hd H1; refine hq.mono ?_; clear hq; rintro e w5 ⟨rfl, hd⟩)
    | (go_at_call 34; have hq := H2.out _ _ _ _ _ hd; clear hd H2; refine hq.mono ?_; clear hq; rintro e w6 ⟨rfl, hd⟩)
    | (go_at_call 34; have hq := H3.out _ _ _ _ _ hd; clear hd H3; refine hq.mono ?_; clear hq; rintro e w7 ⟨rfl, hd⟩)
    | (go_at_call 34; have hq := H4.out _ _ _ _ _ hd; clear hd H4; refine hq.mono ?_; clear hq; rintro e w8 ⟨rfl, hd⟩)
    | (go_at_call 35; refine (HW4.out _ _ _ _ _ (hd.to (by repeat (first | exact Fr.refl _ _ | (refine Fr.alloc ?_ _) | (refine Fr.setCell ?_ (.inr (by simp; try omega)) _))))).mono ?_; clear HW4; rintro e w9 ⟨rfl, rfl⟩)
    | (go_at_call 33; refine (HA4.out _ _ _ _ _ (hd.to (by repeat (first | exact Fr.refl _ _ | (refine Fr.alloc ?_ _) | (refine Fr.setCell ?_ (.inr (by simp; try omega)) _)))) _ _).mono ?_; clear HA4; rintro e w9 ⟨rfl, rfl⟩)
    | (go_at_call 33; refine (HY4.out _ _ _ _ _ (hd.to (by repeat (first | exact Fr.refl _ _ | (refine Fr.alloc ?_ _) | (refine Fr.setCell ?_ (.inr (by simp; try omega)) _)))) _ _ (Blk.new' (by simp))).mono ?_; clear hd HY4; rintro e w10 ⟨rfl, hd⟩)
    | (go_at_call 34; have hq := H5.out _ _ _ _ _ hd; clear hd H5; refine hq.mono ?_; clear hq; rintro e w11 ⟨rfl, hd⟩)
    | (go_at_call 36; refine (HR1.out _ _ _ _ _ (hd.to (by repeat (first | exact Fr.refl _ _ | (refine Fr.alloc ?_ _) | (refine Fr.setCell ?_ (.inr (by simp; try omega)) _))))).mono ?_; clear HR1; rintro e w12 ⟨rfl, rfl⟩)
    | (go_at_call 36; refine (HR3.out _ _ _ _ _ (hd.to (by repeat (first | exact Fr.refl _ _ | (refine Fr.alloc ?_ _) | (refine Fr.setCell ?_ (.inr (by simp; try omega)) _))))).mono ?_; clear HR3; rintro e w12 ⟨rfl, rfl⟩)
    | (go_at_call 36; refine (HR16.out _ _).mono ?_; clear HR16; rintro e w12 ⟨rfl, rfl⟩)
    | (go_at_call 38; refine (HP5.out _ _ _ _ _ (hd.to (by repeat (first | exact Fr.refl _ _ | (refine Fr.alloc ?_ _) | (refine Fr.setCell ?_ (.inr (by simp; try omega)) _))))).mono ?_; clear HP5; rintro e w12 ⟨rfl, rfl⟩)
    | (go_at_call 35; refine (HW5.out _ _ _ _ _ (hd.to (by repeat (first | exact Fr.refl _ _ | (refine Fr.alloc ?_ _) | (refine Fr.setCell ?_ (.inr (by simp; try omega)) _))))).mono ?_; clear HW5; rintro e w12 ⟨rfl, rfl⟩)
    | fail)
  go_ret
  exact ⟨rfl, (hd.to (by repeat (first | exact Fr.refl _ _ | (refine Fr.alloc ?_ _) | (refine Fr.setCell ?_ (.inr (by simp; try omega)) _)))).fr⟩
end Go.Proofs.Ytonongaakieciaa
namespace Go.Proofs.Ytonongaakieciaa
open Go.RowKit
set_option linter.unusedVariables false
set_option linter.unusedSimpArgs false
set_option maxRecDepth 100000
theorem and255 (m : Int) : bits .and .i64 m 255 = m % 256 := by
  show IntKind.i64.wrap (((BitVec.ofInt 64 m &&& BitVec.ofInt 64 255).toNat : Nat) : Int) = _
  have e : (BitVec.ofInt 64 255).toNat = 2 ^ 8 - 1 := by decide
  rw [BitVec.toNat_and, e, Nat.and_two_pow_sub_one_eq_mod, BitVec.toNat_ofInt]
  have h : ((((m % ((2 ^ 64 : Nat) : Int)).toNat % 2 ^ 8 : Nat)) : Int) = m % 256 := by omega
  rw [h]
  exact IntWalk.i64_in _ (by omega)
theorem bs4_list (a b c d : Int) : (bs4 a b c d).data.toList = [UInt8.ofNat a.toNat, UInt8.ofNat b.toNat, UInt8.ofNat c.toNat, UInt8.ofNat d.toNat] := rfl
theorem decI_of {s : ByteArray} {c0 c1 c2 c3 : UInt8} (h : s.data.toList = [c0, c1, c2, c3]) : decI s = decB c0.toNat c1.toNat c2.toNat c3.toNat := by
  unfold decI
  rw [h]
theorem okI_iff {i : In} {k : Nat} (h : okI i k = true) : (0 ≤ i.a ∧ i.a ≤ 15) ∧ (0 ≤ i.b ∧ i.b ≤ 15) ∧ (hasC (fm k) 115 = true → -32768 ≤ i.m ∧ i.m ≤ 32767) ∧ (hasC (fm k) 115 = false → 0 ≤ i.m ∧ i.m ≤ 65535) := by
  unfold okI fitsB at h
  cases hs : hasC (fm k) 115 <;> simp only [hs, if_true, if_false, Bool.false_eq_true] at h <;> simp at h <;> refine ⟨by omega, by omega, ?_, ?_⟩ <;> intro hh <;> simp_all <;> omega
theorem u8n (n : Int) (h0 : 0 ≤ n) (h : n < 256) : (UInt8.ofNat n.toNat).toNat = n.toNat := by
  rw [UInt8.toNat_ofNat']
  omega
theorem enc_dec {i : In} {k : Nat} (hk : k < 30) (hop : i.op = (k : Int)) (ho : okI i k = true) : decI (encB i) = (i, 0) := by
  obtain ⟨ha, hb, hs, hu⟩ := okI_iff ho
  obtain ⟨op, a, b, m⟩ := i
  simp only at hop ha hb hs hu
  subst hop
  unfold encB
  rw [decI_of (bs4_list ..)]
  simp only [and255]
  have hw1 : wrap64 (wrap64 (16 * a) + b) = 16 * a + b := by unfold wrap64; omega
  rw [hw1, u8n _ (by omega) (by omega), u8n _ (by omega) (by omega), u8n _ (by omega) (by omega), u8n _ (by omega) (by omega)]
  obtain ⟨A, rfl⟩ := Int.eq_ofNat_of_zero_le ha.1
  obtain ⟨B, rfl⟩ := Int.eq_ofNat_of_zero_le hb.1
  have e0 : ((k : Int) % 256).toNat = k := by omega
  have e1 : ((16 * (A : Int) + (B : Int)) % 256).toNat = 16 * A + B := by omega
  rw [e0, e1]
  have emk : mkI k (16 * A + B) (m / 256 % 256 % 256).toNat (m % 256 % 256).toNat = ⟨k, A, B, m⟩ := by
    unfold mkI imB
    have q1 : (16 * A + B) / 16 = A := by omega
    have q2 : (16 * A + B) % 16 = B := by omega
    rw [q1, q2]
    have q3 : (((m / 256 % 256 % 256).toNat * 256 + (m % 256 % 256).toNat : Nat) : Int) = m % 65536 := by
      have v1 : m = 256 * (m / 256) + m % 256 := by omega
      have v2 : 0 ≤ m % 256 ∧ m % 256 < 256 := by omega
      generalize m % 256 = y at *
      generalize m / 256 = q at *
      have v3 : q = 256 * (q / 256) + q % 256 := by omega
      have v4 : 0 ≤ q % 256 ∧ q % 256 < 256 := by omega
      generalize q % 256 = x at *
      generalize q / 256 = s at *
      clear hs hu hw1
      subst v3
      subst v1
      omega
    generalize (m / 256 % 256 % 256).toNat * 256 + (m % 256 % 256).toNat = N at *
    have q4 : (if hasC (fm k) 115 = true ∧ 32768 ≤ N then (N : Int) - 65536 else (N : Int)) = m := by
      cases hc : hasC (fm k) 115 with
      | true =>
        have := hs hc
        simp only [true_and]
        split <;> omega
      | false =>
        have := hu hc
        simp
        omega
    rw [q4]
  unfold decB
  rw [emk, if_pos ⟨hk, ho⟩]
theorem encB_list (i : In) : ∃ c0 c1 c2 c3, (encB i).data.toList = [c0, c1, c2, c3] := ⟨_, _, _, _, bs4_list ..⟩
theorem fet_law {x : Vm} {st : St} {t : List Pg} {i : In} {k : Nat} (hw : x.wt = false) (hk : k < 30) (hop : i.op = (k : Int)) (ho : okI i k = true) (hr : rdR st t x.pl 4 4 = ((encB i).data.toList, 0)) : fetI x st t = (i, 0) := by
  unfold fetI
  rw [hr, if_neg (by rw [hw]; simp), if_neg (by simp)]
  have e : (⟨(encB i).data.toList.toArray⟩ : ByteArray) = encB i := by simp
  simp only [e]
  rw [enc_dec hk hop ho, if_neg (by simp)]
theorem rd_law {st : St} {t : List Pg} {r : Int} (hT : okT st.n t = true) (h0 : t[0]? = some ⟨0, r⟩) (hr : bits .and .i64 r 4 ≠ 0) {a : Nat} (ha : a + 4 ≤ 256) : rdR st t (a : Int) 4 4 = ([st.b a, st.b (a + 1), st.b (a + 2), st.b (a + 3)], 0) := by
  have hq : ∀ i : Nat, i < 4 → t[(a + i) / 256]? = some ⟨0, r⟩ := fun i hi => by
    rw [show (a + i) / 256 = 0 from by omega]
    exact h0
  have hc : ∀ i : Nat, i < 4 → ch1 t 4 ((a : Int) + (i : Nat)) = 0 := fun i hi => by
    rw [show (a : Int) + (i : Nat) = ((a + i : Nat) : Int) from by omega, ch1_at (hq i hi)]
    simp [hr]
  have hl : ∀ i : Nat, i < 4 → loc t ((a : Int) + (i : Nat)) = a + i := fun i hi => by
    rw [show (a : Int) + (i : Nat) = ((a + i : Nat) : Int) from by omega, loc_at (hq i hi)]
    simp
    omega
  unfold rdR
  rw [if_neg (by rw [hT]; simp), if_neg (by omega)]
  have hz : thr t 4 (a : Int) (4 : Int).toNat = 0 := thr_zero (k := 4) hc
  rw [if_pos hz, hz]
  refine Prod.ext ?_ rfl
  show [st.b (loc t ((a : Int) + (0 : Nat))), st.b (loc t ((a : Int) + (1 : Nat))), st.b (loc t ((a : Int) + (2 : Nat))), st.b (loc t ((a : Int) + (3 : Nat)))] = _
  rw [hl 0 (by omega), hl 1 (by omega), hl 2 (by omega), hl 3 (by omega)]
  rfl
/-- The bytes of a program lie at the memory's start. -/
def PrgAt (st : St) (f : Nat → In) (n : Nat) : Prop := ∀ (j : Nat), j < n → [st.b (4 * j), st.b (4 * j + 1), st.b (4 * j + 2), st.b (4 * j + 3)] = (encB (f j)).data.toList
def okF_ (f : Nat → In) (n : Nat) : Prop := ∀ j, j < n → ∃ k : Nat, k < 30 ∧ (f j).op = (k : Int) ∧ okI (f j) k = true
theorem catE_at (f : Nat → In) : ∀ n j c, j < n → c < 4 → (catE f n).data.toList[4 * j + c]? = (encB (f j)).data.toList[c]? := by
  intro n
  induction n with
  | zero => intro j c h; omega
  | succ n ih =>
    intro j c hj hc
    have hs : (catE f n).data.toList.length = 4 * n := catE_size f n
    have e : (catE f (n + 1)).data.toList = (catE f n).data.toList ++ (encB (f n)).data.toList := by
      show (catE f n ++ encB (f n)).data.toList = _
      rw [ByteArray.data_append, Array.toList_append]
    rw [e]
    by_cases h : j < n
    · rw [List.getElem?_append_left (by omega)]
      exact ih j c h hc
    · obtain rfl : j = n := by omega
      rw [List.getElem?_append_right (by omega), hs]
      congr 1
      omega
theorem PrgAt.lay {N : Nat} (f : Nat → In) (n : Nat) (hn : n ≤ 64) (hN : 1 ≤ N) (b : Nat → UInt8) : PrgAt (layS ⟨N, b⟩ 0 0 (catE f n)) f n := by
  intro j hj
  have hsz := catE_size f n
  have hb : ∀ c, c < 4 → some ((layS ⟨N, b⟩ 0 0 (catE f n)).b (4 * j + c)) = (encB (f j)).data.toList[c]? := by
    intro c hc
    have h1 := layS_at (m := ⟨N, b⟩) (f := 0) ⟨by omega, by show (0 : Int) < (N : Int); omega⟩ (s := catE f n) (by omega) (o := 4 * j + c) (by omega)
    simp only [Int.toNat_zero, Nat.zero_mul, Nat.zero_add] at h1
    rw [h1, if_pos (by omega), ← catE_at f n j c hj hc]
    obtain ⟨u, hu⟩ : ∃ u, (catE f n).data.toList[4 * j + c]? = some u := ⟨_, List.getElem?_eq_getElem (by show _ < (catE f n).size; omega)⟩
    rw [byA_in hu, hu]
  obtain ⟨c0, c1, c2, c3, e⟩ := encB_list (f j)
  have h0 := hb 0 (by omega)
  have h1 := hb 1 (by omega)
  have h2 := hb 2 (by omega)
  have h3 := hb 3 (by omega)
  rw [e] at h0 h1 h2 h3 ⊢
  simp at h0 h1 h2 h3
  rw [h0, h1, h2, h3]
theorem layE_ok {N n : Nat} (f : Nat → In) (hn : n ≤ 64) (hN : 1 ≤ N) : layE N 0 0 (catE f n) = 0 := by
  have := catE_size f n
  unfold layE
  rw [if_neg (by omega), if_neg (by omega)]
theorem layS_n (m : St) (f a : Int) (s : ByteArray) : (layS m f a s).n = m.n := by
  unfold layS
  split <;> rfl
theorem fet_prog {f : Nat → In} {n : Nat} {x : Vm} {st : St} {t : List Pg} {r : Int} (hp : PrgAt st f n) (hf : okF_ f n) (hn : n ≤ 64) (hT : okT st.n t = true) (h0 : t[0]? = some ⟨0, r⟩) (hr : bits .and .i64 r 4 ≠ 0) (hw : x.wt = false) {j : Nat} (hj : j < n) (hpl : x.pl = ((4 * j : Nat) : Int)) : fetI x st t = (f j, 0) := by
  obtain ⟨k, hk, hop, ho⟩ := hf j hj
  refine fet_law hw hk hop ho ?_
  rw [hpl, rd_law hT h0 hr (by omega), hp j hj]
theorem step_prog {f : Nat → In} {n : Nat} {x : Vm} {st : St} {t : List Pg} {r : Int} (hp : PrgAt st f n) (hf : okF_ f n) (hn : n ≤ 64) (hT : okT st.n t = true) (h0 : t[0]? = some ⟨0, r⟩) (hr : bits .and .i64 r 4 ≠ 0) (hw : x.wt = false) {j : Nat} (hj : j < n) (hpl : x.pl = ((4 * j : Nat) : Int)) :
    stepV x st t = stepI x st t (f j).op.toNat (f j).a.toNat (f j).b.toNat (f j).m := by
  unfold stepV
  rw [fet_prog hp hf hn hT h0 hr hw hj hpl, if_neg (by simp)]
end Go.Proofs.Ytonongaakieciaa
namespace Go.Proofs.Ytonongaakieciaa
open Go.RowKit
set_option linter.unusedVariables false
set_option linter.unusedSimpArgs false
set_option maxRecDepth 100000
/-- A machine's steps, so many. -/
def xN (x : Vm) (st : St) (t : List Pg) : Nat → Vm
  | 0 => x
  | j + 1 => (stepV (xN x st t j) st t).2.1
def low (n : Int) : Int := n % 4294967296
theorem low_in (n : Int) : 0 ≤ low n ∧ low n < 4294967296 := by unfold low; omega
theorem hi_low (n : Int) (h0 : 0 ≤ n) (h : n < 4294967296) : hiV (n % 65536 % 4294967296) (n / 65536) = n := by
  unfold hiV
  obtain ⟨N, rfl⟩ := Int.eq_ofNat_of_zero_le h0
  have e1 : ((N : Int) % 65536 % 4294967296) = ((N % 65536 : Nat) : Int) := by omega
  have e2 : ((N : Int) / 65536 % 4294967296 * 65536 % 4294967296) = ((N / 65536 * 65536 : Nat) : Int) := by omega
  rw [e1, e2]
  have a1 : bits .and .u32 ((N % 65536 : Nat) : Int) 65535 = ((N % 65536 : Nat) : Int) := by
    show IntKind.u32.wrap (((BitVec.ofInt 32 ((N % 65536 : Nat) : Int) &&& BitVec.ofInt 32 65535).toNat : Nat) : Int) = _
    have e : (BitVec.ofInt 32 65535).toNat = 2 ^ 16 - 1 := by decide
    rw [BitVec.toNat_and, e, Nat.and_two_pow_sub_one_eq_mod, BitVec.ofInt_natCast, BitVec.toNat_ofNat, Nat.mod_eq_of_lt (by omega), Nat.mod_eq_of_lt (by omega)]
    exact IntWalk.u32_in _ (by omega)
  rw [a1]
  show IntKind.u32.wrap (((BitVec.ofInt 32 ((N % 65536 : Nat) : Int) ||| BitVec.ofInt 32 ((N / 65536 * 65536 : Nat) : Int)).toNat : Nat) : Int) = _
  rw [BitVec.toNat_or, BitVec.ofInt_natCast, BitVec.ofInt_natCast, BitVec.toNat_ofNat, BitVec.toNat_ofNat, Nat.mod_eq_of_lt (a := N % 65536) (by omega), Nat.mod_eq_of_lt (a := N / 65536 * 65536) (by omega)]
  have h2 : N % 65536 ||| N / 65536 * 65536 = N := by
    rw [Nat.or_comm, Nat.mul_comm]
    have := (Nat.two_pow_add_eq_or_of_lt (i := 16) (b := N % 65536) (by omega) (N / 65536)).symm
    rw [show (65536 : Nat) = 2 ^ 16 from rfl] at *
    rw [this]
    exact Nat.div_add_mod N (2 ^ 16)
  rw [h2]
  exact IntWalk.u32_in _ (by omega)
theorem pN_mod (n : Nat) (h : n ≤ 1000) : ((4 * n : Nat) : Int) + 4 = ((4 * (n + 1) : Nat) : Int) ∧ (((4 * n : Nat) : Int) + 4) % 4294967296 = ((4 * (n + 1) : Nat) : Int) := by omega
section
variable {f : Nat → In} {n : Nat} {st : St} {t : List Pg} {r : Int} (hp : PrgAt st f n) (hf : okF_ f n) (hn : n ≤ 64) (hT : okT st.n t = true) (h0 : t[0]? = some ⟨0, r⟩) (hr : bits .and .i64 r 4 ≠ 0)
include hp hf hn hT h0 hr
/-- Set, and High behind it, put a whole number into a register. -/
theorem set_high {x : Vm} (hw : x.wt = false) {j a : Nat} (hj : j + 1 < n) (hpl : x.pl = ((4 * j : Nat) : Int)) {v : Int} (hv : 0 ≤ v ∧ v < 4294967296) (f1 : f j = ⟨2, a, 0, v % 65536⟩) (f2 : f (j + 1) = ⟨3, a, 0, v / 65536⟩) :
    ∃ x1 x2 : Vm, stepV x st t = ((0, 0), x1, st) ∧ x1.wt = false ∧ stepV x1 st t = ((0, 0), x2, st) ∧ x2.wt = false ∧ x2.pl = ((4 * (j + 2) : Nat) : Int) ∧ x2.r a = v ∧ ∀ k, k ≠ a → x2.r k = x.r k := by
  have s1 := step_prog hp hf hn hT h0 hr hw (j := j) (by omega) hpl
  rw [f1] at s1
  have s1' : stepV x st t = ((0, 0), putP (putR x a (v % 65536 % 4294967296)) ((x.pl + 4) % 4294967296), st) := s1
  rw [hpl, (pN_mod j (by omega)).2] at s1'
  have s2 := step_prog hp hf hn hT h0 hr (x := putP (putR x a (v % 65536 % 4294967296)) ((4 * (j + 1) : Nat) : Int)) hw (j := j + 1) (by omega) rfl
  rw [f2] at s2
  have s2' : stepV (putP (putR x a (v % 65536 % 4294967296)) ((4 * (j + 1) : Nat) : Int)) st t = ((0, 0), putP (putR (putP (putR x a (v % 65536 % 4294967296)) ((4 * (j + 1) : Nat) : Int)) a (hiV ((putP (putR x a (v % 65536 % 4294967296)) ((4 * (j + 1) : Nat) : Int)).r a) (v / 65536))) ((((4 * (j + 1) : Nat) : Int) + 4) % 4294967296), st) := s2
  rw [(pN_mod (j + 1) (by omega)).2] at s2'
  have e : (putP (putR x a (v % 65536 % 4294967296)) ((4 * (j + 1) : Nat) : Int)).r a = v % 65536 % 4294967296 := by simp [putP, putR]
  rw [e, hi_low v hv.1 hv.2] at s2'
  refine ⟨_, _, s1', hw, s2', hw, rfl, by simp [putP, putR], fun k hk => by simp [putP, putR, hk]⟩
end
/-- VmAnswers' program. -/
def fA (r0 r1 r2 : Int) (j : Nat) : In :=
  match j with
  | 0 => ⟨2, 2, 0, low r0 % 65536⟩
  | 1 => ⟨3, 2, 0, low r0 / 65536⟩
  | 2 => ⟨2, 3, 0, low r1 % 65536⟩
  | 3 => ⟨3, 3, 0, low r1 / 65536⟩
  | 4 => ⟨2, 4, 0, low r2 % 65536⟩
  | 5 => ⟨3, 4, 0, low r2 / 65536⟩
  | _ => ⟨29, 0, 0, 7⟩
theorem okI_set (k a : Nat) (hk : k = 2 ∨ k = 3) (ha : a < 16) (m : Int) (h0 : 0 ≤ m) (h1 : m ≤ 65535) : okI ⟨k, a, 0, m⟩ k = true := by
  have a0 : (0 : Int) ≤ (a : Int) := by omega
  have a1 : (a : Int) ≤ 15 := by omega
  have e : fm 2 = fm 3 := rfl
  have c1 : hasC (fm 3) 97 = true := by decide
  have c2 : hasC (fm 3) 98 = false := by decide
  have c3 : hasU (fm 3) = true := by decide
  have c4 : hasC (fm 3) 115 = false := by decide
  rcases hk with rfl | rfl <;> simp [okI, fitsB, e, c1, c2, c3, c4, a0, a1, h0, h1]
theorem okF_A (r0 r1 r2 : Int) : okF_ (fA r0 r1 r2) 7 := by
  have l0 := low_in r0
  have l1 := low_in r1
  have l2 := low_in r2
  intro j hj
  match j, hj with
  | 0, _ => exact ⟨2, by decide, rfl, okI_set 2 2 (.inl rfl) (by decide) _ (by omega) (by omega)⟩
  | 1, _ => exact ⟨3, by decide, rfl, okI_set 3 2 (.inr rfl) (by decide) _ (by omega) (by omega)⟩
  | 2, _ => exact ⟨2, by decide, rfl, okI_set 2 3 (.inl rfl) (by decide) _ (by omega) (by omega)⟩
  | 3, _ => exact ⟨3, by decide, rfl, okI_set 3 3 (.inr rfl) (by decide) _ (by omega) (by omega)⟩
  | 4, _ => exact ⟨2, by decide, rfl, okI_set 2 4 (.inl rfl) (by decide) _ (by omega) (by omega)⟩
  | 5, _ => exact ⟨3, by decide, rfl, okI_set 3 4 (.inr rfl) (by decide) _ (by omega) (by omega)⟩
  | 6, _ => exact ⟨29, by decide, rfl, by kernel_rfl⟩
def stA (r0 r1 r2 : Int) : St := layS ⟨1, fun _ => 0⟩ 0 0 (catE (fA r0 r1 r2) 7)
theorem okTF : okT 1 tF = true := by decide
theorem bits74 : bits .and .i64 7 4 ≠ 0 := by decide
theorem bits54 : bits .and .i64 5 4 ≠ 0 := by decide
theorem ans_run (r0 r1 r2 : Int) : ∃ xs : Nat → Vm, xs 0 = vm0 ∧ (∀ j, j < 7 → (xs j).wt = false ∧ (stepV (xs j) (stA r0 r1 r2) tF).2 = (xs (j + 1), stA r0 r1 r2)) ∧ (xs 7).wt = true ∧ (xs 7).pl = 28 ∧ (xs 7).r 0 = 0 ∧ (xs 7).r 2 = low r0 ∧ (xs 7).r 3 = low r1 ∧ (xs 7).r 4 = low r2 := by
  have hp : PrgAt (stA r0 r1 r2) (fA r0 r1 r2) 7 := PrgAt.lay (fA r0 r1 r2) 7 (by decide) (by decide) _
  have hT : okT (stA r0 r1 r2).n tF = true := by unfold stA; rw [layS_n]; exact okTF
  have hf := okF_A r0 r1 r2
  obtain ⟨x1, x2, a1, a2, a3, a4, a5, a6, a7⟩ := set_high hp hf (by decide) hT rfl bits74 (x := vm0) rfl (j := 0) (a := 2) (by decide) rfl (low_in r0) rfl rfl
  obtain ⟨x3, x4, b1, b2, b3, b4, b5, b6, b7⟩ := set_high hp hf (by decide) hT rfl bits74 (x := x2) a4 (j := 2) (a := 3) (by decide) a5 (low_in r1) rfl rfl
  obtain ⟨x5, x6, c1, c2, c3, c4, c5, c6, c7⟩ := set_high hp hf (by decide) hT rfl bits74 (x := x4) b4 (j := 4) (a := 4) (by decide) b5 (low_in r2) rfl rfl
  have d1 := step_prog hp hf (by decide) hT rfl bits74 c4 (j := 6) (by decide) c5
  have d1' : stepV x6 (stA r0 r1 r2) tF = ((3, 7), putP (putW x6 true) ((x6.pl + 4) % 4294967296), stA r0 r1 r2) := d1
  refine ⟨fun j => match j with | 0 => vm0 | 1 => x1 | 2 => x2 | 3 => x3 | 4 => x4 | 5 => x5 | 6 => x6 | _ => putP (putW x6 true) ((x6.pl + 4) % 4294967296), rfl, ?_, rfl, ?_, ?_, ?_, ?_, ?_⟩
  · intro j hj
    match j, hj with
    | 0, _ => exact ⟨rfl, congrArg Prod.snd a1⟩
    | 1, _ => exact ⟨a2, congrArg Prod.snd a3⟩
    | 2, _ => exact ⟨a4, congrArg Prod.snd b1⟩
    | 3, _ => exact ⟨b2, congrArg Prod.snd b3⟩
    | 4, _ => exact ⟨b4, congrArg Prod.snd c1⟩
    | 5, _ => exact ⟨c2, congrArg Prod.snd c3⟩
    | 6, _ => exact ⟨c4, congrArg Prod.snd d1'⟩
  · show (x6.pl + 4) % 4294967296 = 28
    rw [c5]
    decide
  · show x6.r 0 = 0
    rw [c7 0 (by decide), b7 0 (by decide), a7 0 (by decide)]
    rfl
  · show x6.r 2 = _
    rw [c7 2 (by decide), b7 2 (by decide), a6]
  · show x6.r 3 = _
    rw [c7 3 (by decide), b6]
  · exact c6
/-- VmReturns' program. -/
def fR (at_ far : Nat) (j : Nat) : In := if j < at_ then ⟨0, 0, 0, 0⟩ else if j = at_ then ⟨28, 9, 0, far⟩ else if j < at_ + 1 + far then ⟨1, 0, 0, 0⟩ else ⟨27, 9, 0, 0⟩
theorem okI_call (far : Nat) (h : far ≤ 32767) : okI ⟨28, 9, 0, (far : Int)⟩ 28 = true := by
  have c1 : hasC (fm 28) 97 = true := by decide
  have c2 : hasC (fm 28) 98 = false := by decide
  have c3 : hasU (fm 28) = true := by decide
  have c4 : hasC (fm 28) 115 = true := by decide
  have h1 : (-32768 : Int) ≤ (far : Int) := by omega
  have h2 : (far : Int) ≤ 32767 := by omega
  simp [okI, fitsB, c1, c2, c3, c4, h1, h2]
theorem okF_R (at_ far n : Nat) (h : far ≤ 32767) : okF_ (fR at_ far) n := by
  intro j hj
  unfold fR
  split
  · exact ⟨0, by decide, rfl, by decide⟩
  · split
    · exact ⟨28, by decide, rfl, okI_call far h⟩
    · split
      · exact ⟨1, by decide, rfl, by decide⟩
      · exact ⟨27, by decide, rfl, by decide⟩
def tR : List Pg := [⟨0, 5⟩]
theorem okTR : okT 1 tR = true := by decide
def stR (at_ far : Nat) : St := layS ⟨1, fun _ => 0⟩ 0 0 (catE (fR at_ far) (at_ + far + 2))
theorem ret_run (at_ far : Nat) (h1 : at_ < 20) (h2 : 1 ≤ far) (h3 : far ≤ 20) : ∃ xs : Nat → Vm, xs 0 = vm0 ∧ (∀ j, j < at_ + 2 → stepV (xs j) (stR at_ far) tR = ((0, 0), xs (j + 1), stR at_ far)) ∧ (xs (at_ + 2)).pl = ((4 * at_ + 4 : Nat) : Int) ∧ (xs (at_ + 2)).r 9 = ((4 * at_ + 4 : Nat) : Int) ∧ stepV (xs (at_ + 2)) (stR at_ far) tR = ((1, 0), xs (at_ + 2), stR at_ far) := by
  have hp : PrgAt (stR at_ far) (fR at_ far) (at_ + far + 2) := PrgAt.lay (fR at_ far) (at_ + far + 2) (by omega) (by decide) _
  have hT : okT (stR at_ far).n tR = true := by unfold stR; rw [layS_n]; exact okTR
  have hf := okF_R at_ far (at_ + far + 2) (by omega)
  let xa : Nat → Vm := fun j => ⟨fun _ => 0, ((4 * j : Nat) : Int), false⟩
  let xb : Vm := ⟨fun k => if k = 9 then ((4 * (at_ + 1) : Nat) : Int) else 0, ((4 * (at_ + 1 + far) : Nat) : Int), false⟩
  let xc : Vm := ⟨fun k => if k = 9 then ((4 * (at_ + 1) : Nat) : Int) else 0, ((4 * (at_ + 1) : Nat) : Int), false⟩
  have sa : ∀ j, j < at_ → stepV (xa j) (stR at_ far) tR = ((0, 0), xa (j + 1), stR at_ far) := by
    intro j hj
    have s := step_prog hp hf (by omega) hT rfl bits54 (x := xa j) rfl (j := j) (by omega) rfl
    have e : fR at_ far j = ⟨0, 0, 0, 0⟩ := by unfold fR; rw [if_pos hj]
    rw [e] at s
    have s' : stepV (xa j) (stR at_ far) tR = ((0, 0), putP (xa j) ((((4 * j : Nat) : Int) + 4) % 4294967296), stR at_ far) := s
    rw [s', (pN_mod j (by omega)).2]
    rfl
  have sb : stepV (xa at_) (stR at_ far) tR = ((0, 0), xb, stR at_ far) := by
    have s := step_prog hp hf (by omega) hT rfl bits54 (x := xa at_) rfl (j := at_) (by omega) rfl
    have e : fR at_ far at_ = ⟨28, 9, 0, far⟩ := by unfold fR; rw [if_neg (by omega), if_pos rfl]
    rw [e] at s
    have s' : stepV (xa at_) (stR at_ far) tR = ((0, 0), putP (putR (xa at_) 9 ((((4 * at_ : Nat) : Int) + 4) % 4294967296)) ((((((4 * at_ : Nat) : Int) + 4) % 4294967296) + 4 * (far : Int)) % 4294967296), stR at_ far) := s
    rw [s', (pN_mod at_ (by omega)).2]
    have e2 : (((4 * (at_ + 1) : Nat) : Int) + 4 * (far : Int)) % 4294967296 = ((4 * (at_ + 1 + far) : Nat) : Int) := by omega
    rw [e2]
    rfl
  have sc : stepV xb (stR at_ far) tR = ((0, 0), xc, stR at_ far) := by
    have s := step_prog hp hf (by omega) hT rfl bits54 (x := xb) rfl (j := at_ + 1 + far) (by omega) rfl
    have e : fR at_ far (at_ + 1 + far) = ⟨27, 9, 0, 0⟩ := by unfold fR; rw [if_neg (by omega), if_neg (by omega), if_neg (by omega)]
    rw [e] at s
    exact s
  have sd : stepV xc (stR at_ far) tR = ((1, 0), xc, stR at_ far) := by
    have s := step_prog hp hf (by omega) hT rfl bits54 (x := xc) rfl (j := at_ + 1) (by omega) rfl
    have e : fR at_ far (at_ + 1) = ⟨1, 0, 0, 0⟩ := by unfold fR; rw [if_neg (by omega), if_neg (by omega), if_pos (by omega)]
    rw [e] at s
    exact s
  refine ⟨fun j => if j ≤ at_ then xa j else if j = at_ + 1 then xb else xc, ?_, ?_, ?_, ?_, ?_⟩
  · simp only [Nat.zero_le, if_true]
    rfl
  · intro j hj
    simp only
    by_cases h : j < at_
    · rw [if_pos (by omega), if_pos (by omega)]
      exact sa j h
    · by_cases h' : j = at_
      · subst h'
        rw [if_pos (by omega), if_neg (by omega), if_pos rfl]
        exact sb
      · obtain rfl : j = at_ + 1 := by omega
        rw [if_neg (by omega), if_pos rfl, if_neg (by omega), if_neg (by omega)]
        exact sc
  · simp only
    rw [if_neg (by omega), if_neg (by omega)]
    show ((4 * (at_ + 1) : Nat) : Int) = _
    omega
  · simp only
    rw [if_neg (by omega), if_neg (by omega)]
    show ((4 * (at_ + 1) : Nat) : Int) = _
    omega
  · simp only
    rw [if_neg (by omega), if_neg (by omega)]
    exact sd
end Go.Proofs.Ytonongaakieciaa
namespace Go.Proofs.Ytonongaakieciaa
open Go.RowKit
set_option linter.unusedVariables false
set_option linter.unusedSimpArgs false
set_option maxRecDepth 100000
/-- A slice of instructions. -/
def InsS (w : World) (A : Option Addr) (n : Nat) (f : Nat → In) : Prop :=
  ∀ k, k < n → ∃ g o, A = some ⟨g, o, none⟩ ∧ w.cell? ⟨g, o + k * 4, none⟩ = some (.int .i64 (f k).op) ∧ w.cell? ⟨g, o + k * 4 + 1, none⟩ = some (.int .i64 (f k).a) ∧ w.cell? ⟨g, o + k * 4 + 2, none⟩ = some (.int .i64 (f k).b) ∧ w.cell? ⟨g, o + k * 4 + 3, none⟩ = some (.int .i64 (f k).m)
theorem InsS.fr {w w' : World} {A : Option Addr} {n : Nat} {f : Nat → In} (h : InsS w A n f) (hf : Fr [] w w') : InsS w' A n f := fun k hk => by
  obtain ⟨g, o, e, c0, c1, c2, c3⟩ := h k hk
  exact ⟨g, o, e, hf.cell_some c0 (by simp), hf.cell_some c1 (by simp), hf.cell_some c2 (by simp), hf.cell_some c3 (by simp)⟩
/-- Their cells. -/
def insV (f : Nat → In) (n : Nat) : List Value := (List.range n).flatMap fun k => [.int .i64 (f k).op, .int .i64 (f k).a, .int .i64 (f k).b, .int .i64 (f k).m]
theorem insV_succ (f : Nat → In) (n : Nat) : insV f (n + 1) = insV f n ++ [.int .i64 (f n).op, .int .i64 (f n).a, .int .i64 (f n).b, .int .i64 (f n).m] := by
  unfold insV
  rw [List.range_succ, List.flatMap_append]
  rfl
theorem insV_len (f : Nat → In) : ∀ n, (insV f n).length = n * 4
  | 0 => rfl
  | n + 1 => by rw [insV_succ, List.length_append, insV_len f n]; simp; omega
theorem insV_at (f : Nat → In) : ∀ n k, k < n → (insV f n)[k * 4]? = some (.int .i64 (f k).op) ∧ (insV f n)[k * 4 + 1]? = some (.int .i64 (f k).a) ∧ (insV f n)[k * 4 + 2]? = some (.int .i64 (f k).b) ∧ (insV f n)[k * 4 + 3]? = some (.int .i64 (f k).m) := by
  intro n
  induction n with
  | zero => intro k h; omega
  | succ n ih =>
    intro k hk
    have hl := insV_len f n
    rw [insV_succ]
    by_cases h : k < n
    · rw [List.getElem?_append_left (by omega), List.getElem?_append_left (by omega), List.getElem?_append_left (by omega), List.getElem?_append_left (by omega)]
      exact ih k h
    · obtain rfl : k = n := by omega
      rw [List.getElem?_append_right (by omega), List.getElem?_append_right (by omega), List.getElem?_append_right (by omega), List.getElem?_append_right (by omega), hl]
      have e0 : k * 4 - k * 4 = 0 := by omega
      have e1 : k * 4 + 1 - k * 4 = 1 := by omega
      have e2 : k * 4 + 2 - k * 4 = 2 := by omega
      have e3 : k * 4 + 3 - k * 4 = 3 := by omega
      rw [e0, e1, e2, e3]
      exact ⟨rfl, rfl, rfl, rfl⟩
theorem InsS.of_own {w : World} {base : Nat} {A : Option Addr} {n c : Nat} {f : Nat → In} (h : w.ownsRow base 53 4 (.slice A n c) n (insV f n)) : InsS w A n f := by
  intro k hk
  obtain ⟨m, rfl⟩ : ∃ m, n = m + 1 := ⟨n - 1, by omega⟩
  obtain ⟨g, cap, e⟩ := own_succ h
  have hs := Sl.of_own h
  obtain ⟨a0, a1, a2, a3⟩ := insV_at f (m + 1) k hk
  have hc := hs.cells g 0 cap e
  injection e with e1 e2 e3
  exact ⟨g, 0, e1, hc _ _ a0, hc _ _ a1, hc _ _ a2, hc _ _ a3⟩
set_option maxHeartbeats 8000000 in
theorem lBytes_any (f : Nat → In) (n : Nat) (A : Option Addr) (cap : Nat) (w : World) (hb : InsS w A n f) (hn : n ≤ 1000) (hok : okF_ f n) :
    Calls Try.prog 32 #[.slice A n cap] w fun e w' => e = .returned (.string (catE f n)) ∧ Fr [] w w' := by
  have HE := Lib.hid (fun (j : Nat) (hj : j < n) (W : World) => (show Calls Try.prog 42 #[.agg #[.int .i64 (f j).op, .int .i64 (f j).a, .int .i64 (f j).b, .int .i64 (f j).m]] W fun e w' => e = .returned (.tuple #[.string (encB (f j)), .int .i64 0]) ∧ Fr [] W w' by
    obtain ⟨k, h1, h2, h3⟩ := hok j hj
    exact rEncode_good (f j) k h1 h2 h3 W))
  have HB := Lib.hid (fun (W : World) (hf : Fr [] w W) => hb.fr hf)
  have H0 := Lib.hid (Fr.refl [] w)
  clear hb hok
  go_enter Try.func32, Try.ntmps32
  go_wp2_with fail
  go_loopg [3, 4] n (fun gg vs vi wr => ∃ (k : Nat), k + gg = n ∧ vi = .int .i64 (k : Int) ∧ vs = .string (catE f k) ∧ Fr [] w wr)
  case atStart => exact ⟨0, by omega, rfl, rfl, H0.out⟩
  case round =>
    obtain ⟨k, hk, rfl, rfl, hf⟩ := hrel
    have Hk := Lib.hid hk
    have Hf := Lib.hid hf
    clear hk
    by_cases hlt : k < n
    · have hlt' : (k : Int) < (n : Int) := by omega
      have hk0 : (0 : Int) ≤ (k : Int) := by omega
      have hwk : IntKind.i64.wrap ((k : Int) + 1) = (k : Int) + 1 := IntWalk.i64_in _ (by omega)
      have HEk := Lib.hid (fun W => HE.out k hlt W)
      obtain ⟨g, o, rfl, k0, k1, k2, k3⟩ := HB.out wr hf k hlt
      have hcat : ¬ 9223372036854775807 < (catE f k).size + (encB (f k)).size := by
        rw [catE_size]
        unfold encB
        rw [bs4_size]
        omega
      clear hf
      go_wp2_with (first
        | (go_at_call 42; refine (HEk.out _).mono ?_; rintro e w3 ⟨rfl, hf3⟩; have H3 := Lib.hid (Hf.out.trans hf3); clear hf3)
        | fail)
      go_roundg (n - (k + 1))
      case measure => have := Hk.out; omega
      case rel => exact ⟨k + 1, by have := Hk.out; omega, by go_num, rfl, H3.out⟩
    · have hlt' : ¬ (k : Int) < (n : Int) := by omega
      obtain rfl : k = n := by have := Hk.out; omega
      have H4 := Lib.hid hf
      clear hf
      go_wp2_with fail
      go_ret
      exact ⟨rfl, H4.out⟩
set_option maxHeartbeats 2000000 in
theorem rLow_any (a : Int) (w : World) : Calls Try.prog 28 #[.int .i64 a] w fun e w' => e = .returned (.int .i64 (low a)) ∧ w = w' := by
  unfold low
  go_enter Try.func28, Try.ntmps28
  go_wp2_with fail
  · rename_i hneg
    have e1 : wrap64 (a.tmod 4294967296 + 4294967296) = a % 4294967296 := by
      rw [← tmod_place a 4294967296 (by omega), if_pos hneg]
      have := Int.lt_tmod_of_pos a (show (0 : Int) < 4294967296 by omega)
      unfold wrap64
      omega
    rw [e1]
    go_ret
    exact ⟨rfl, rfl⟩
  · rename_i hneg
    have e1 : a.tmod 4294967296 = a % 4294967296 := by
      rw [← tmod_place a 4294967296 (by omega), if_neg (by omega)]
    rw [e1]
    go_ret
    exact ⟨rfl, rfl⟩
end Go.Proofs.Ytonongaakieciaa
namespace Go.Proofs.Ytonongaakieciaa
open Go.RowKit
set_option linter.unusedVariables false
set_option linter.unusedSimpArgs false
set_option maxRecDepth 100000
theorem lay_ne {n : Nat} {f a : Int} {s : ByteArray} (hb : (f < 0 ∨ (n : Int) ≤ f) ∨ (a < 0 ∨ 256 < a ∨ 256 - a < s.size)) : layE n f a s ≠ 0 := by
  unfold layE
  rcases hb with h1 | h1
  · rw [if_pos h1]; omega
  · split
    · omega
    · first | omega | (rw [if_pos h1]; omega)
set_option maxHeartbeats 400000 in
theorem Lay_bad2 (p F : Nat) (st : St) (w : World) (f a : Int) (s : ByteArray) (h : MemAt w p F st) (hs : s.size ≤ maxLen) (hb : (f < 0 ∨ (st.n : Int) ≤ f) ∨ (a < 0 ∨ 256 < a ∨ 256 - a < s.size)) :
    Calls Try.prog 31 #[ptr p, .int .i64 f, .int .i64 a, .string s] w fun e w' => e = .returned (.int .i64 (layE st.n f a s)) ∧ w = w' := by
  obtain ⟨cap, hc, -, -⟩ := h.hd.cell
  have e0 : (if f < 0 ∨ (st.n : Int) ≤ f then (83 : Int) else 80) = layE st.n f a s := by
    unfold layE
    by_cases h1 : f < 0 ∨ (st.n : Int) ≤ f
    · rw [if_pos h1, if_pos h1]
    · rw [if_neg h1, if_neg h1, if_pos (hb.resolve_left h1)]
  have E := Lib.hid e0
  clear h e0
  obtain ⟨N, hN⟩ : ∃ N, s.size = N := ⟨_, rfl⟩
  rw [hN] at hb hs
  simp only [maxLen] at hs
  by_cases h1 : f < 0
  · rw [if_pos (.inl h1)] at E
    go_enter Try.func31, Try.ntmps31
    go_wp2
    go_ret
    exact ⟨ret_int E.out, rfl⟩
  · by_cases h2 : (st.n : Int) ≤ f
    · rw [if_pos (.inr h2)] at E
      go_enter Try.func31, Try.ntmps31
      go_wp2
      go_ret
      exact ⟨ret_int E.out, rfl⟩
    · rw [if_neg (by omega)] at E
      have hb' := hb.resolve_left (by omega)
      by_cases h3 : a < 0
      · clear hb hb'
        go_enter Try.func31, Try.ntmps31
        go_wp2
        go_ret
        exact ⟨ret_int E.out, rfl⟩
      · by_cases h4 : 256 < a
        · clear hb hb'
          go_enter Try.func31, Try.ntmps31
          go_wp2
          go_ret
          exact ⟨ret_int E.out, rfl⟩
        · have h5 : 256 - a < (N : Int) := by omega
          clear hb hb'
          go_enter Try.func31, Try.ntmps31
          go_wp2
          go_ret
          exact ⟨ret_int E.out, rfl⟩
theorem Lay_law (p F : Nat) (st : St) (w : World) (f : Int) (s : ByteArray) (h : MemAt w p F st) (hs : s.size ≤ maxLen) : Calls Try.prog 31 #[ptr p, .int .i64 f, .int .i64 0, .string s] w fun e w' => e = .returned (.int .i64 (layE st.n f 0 s)) ∧ MemAt w' p F (layS st f 0 s) ∧ Fr [F] w w' := by
  by_cases hb : (f < 0 ∨ (st.n : Int) ≤ f) ∨ ((0 : Int) < 0 ∨ (256 : Int) < 0 ∨ 256 - (0 : Int) < s.size)
  · refine (Lay_bad2 p F st w f 0 s h hs hb).mono fun e w' ⟨he, hw⟩ => ?_
    subst hw
    refine ⟨he, ?_, Fr.refl _ _⟩
    unfold layS
    rw [if_neg (lay_ne hb)]
    exact h
  · exact Lay_any p F st w f 0 s h (by omega)
theorem rLay_law (q G : Nat) (st : St) (w : World) (f : Int) (s : ByteArray) (h : RMem w q G st) (hs : s.size ≤ maxLen) : Calls Try.prog 43 #[ptr q, .int .i64 f, .int .i64 0, .string s] w fun e w' => e = .returned (.int .i64 (layE st.n f 0 s)) ∧ RMem w' q G (layS st f 0 s) ∧ Fr [G] w w' :=
  rLay_any q G st w f 0 s h hs
/-- A slice of numbers. -/
def NumS (w : World) (A : Option Addr) (n : Nat) (l : Nat → Int) : Prop :=
  n ≤ maxLen ∧ ∀ i, i < n → (-9223372036854775808 ≤ l i ∧ l i ≤ 9223372036854775807) ∧ ∃ b off, A = some ⟨b, off, none⟩ ∧ w.cell? ⟨b, off + i, none⟩ = some (.int .i64 (l i))
theorem NumS.fr {w w' : World} {A : Option Addr} {n : Nat} {l : Nat → Int} (h : NumS w A n l) (hf : Fr [] w w') : NumS w' A n l :=
  ⟨h.1, fun i hi => by obtain ⟨hz, b, off, e, hc⟩ := h.2 i hi; exact ⟨hz, b, off, e, hf.cell_some hc (by simp)⟩⟩
/-- A slice of slices of numbers. -/
def NumsS (w : World) (A : Option Addr) (n : Nat) (B : Nat → Option Addr) (k c : Nat → Nat) (l : Nat → Nat → Int) : Prop :=
  n ≤ maxLen ∧ ∀ i, i < n → NumS w (B i) (k i) (l i) ∧ ∃ b off, A = some ⟨b, off, none⟩ ∧ w.cell? ⟨b, off + i, none⟩ = some (.slice (B i) (k i) (c i))
theorem NumsS.fr {w w' : World} {A : Option Addr} {n : Nat} {B : Nat → Option Addr} {k c : Nat → Nat} {l : Nat → Nat → Int} (h : NumsS w A n B k c l) (hf : Fr [] w w') : NumsS w' A n B k c l :=
  ⟨h.1, fun i hi => by obtain ⟨hz, b, off, e, hc⟩ := h.2 i hi; exact ⟨hz.fr hf, b, off, e, hf.cell_some hc (by simp)⟩⟩
/-- A slice of texts, with their sizes. -/
def PrZ (w : World) (A : Option Addr) (n : Nat) (l : Nat → ByteArray) : Prop :=
  n ≤ maxLen ∧ ∀ i, i < n → (l i).size ≤ maxLen ∧ ∃ b off, A = some ⟨b, off, none⟩ ∧ w.cell? ⟨b, off + i, none⟩ = some (.string (l i))
theorem PrZ.fr {w w' : World} {A : Option Addr} {n : Nat} {l : Nat → ByteArray} (h : PrZ w A n l) (hf : Fr [] w w') : PrZ w' A n l :=
  ⟨h.1, fun i hi => by obtain ⟨hz, b, off, e, hc⟩ := h.2 i hi; exact ⟨hz, b, off, e, hf.cell_some hc (by simp)⟩⟩
/-- A memory into whose frames texts are laid. -/
def layN (n : Nat) (l : Nat → ByteArray) : Nat → St
  | 0 => ⟨n, fun _ => 0⟩
  | k + 1 => layS (layN n l k) (k : Int) 0 (l k)
theorem layN_n (n : Nat) (l : Nat → ByteArray) : ∀ k, (layN n l k).n = n
  | 0 => rfl
  | k + 1 => by
    show (layS _ _ _ _).n = n
    unfold layS
    split <;> exact layN_n n l k
set_option maxHeartbeats 2000000 in
theorem made_bad (n : Int) (LA : Option Addr) (nl cl : Nat) (TA : Option Addr) (nt ct : Nat) (w : World) (h : n < 1 ∨ 160 < n) :
    Calls Try.prog 40 #[.agg #[.int .i64 n, .slice LA nl cl, .slice TA nt ct]] w fun e w' => e = .returned (.tuple #[.pointer none, .pointer none]) ∧ Fr [] w w' := by
  have H1 := Lib.hid (fun W => New_bad n W h)
  have H2 := Lib.hid (fun W => rNew_bad n W h)
  have HF := Lib.hid (fun o => (Fr.refl [] w).alloc o)
  clear h
  go_enter Try.func40, Try.ntmps40
  go_wp2_with (first
    | (go_at_call 29; refine (H1.out _).mono ?_; rintro e w1 ⟨rfl, rfl⟩)
    | (go_at_call 41; refine (H2.out _).mono ?_; rintro e w2 ⟨rfl, rfl⟩)
    | fail)
  go_ret2
  exact ⟨rfl, HF.out _⟩
/-- Two memories, the program's and the document's, in one state. -/
structure Mms (w0 W : World) (p F q G : Nat) (st st' : St) : Prop where
  m : MemAt W p F st
  r : RMem W q G st'
  fr : Fr [] w0 W
  gp : w0.heap.size ≤ p ∧ w0.heap.size ≤ F ∧ w0.heap.size ≤ q ∧ w0.heap.size ≤ G
theorem Mms.ne {w0 W : World} {p F q G : Nat} {st st' : St} (h : Mms w0 W p F q G st st') : F ≠ q ∧ F ≠ G ∧ p ≠ q ∧ p ≠ G := by
  obtain ⟨⟨⟨c1, h1, -⟩, -, -⟩, ⟨c2, h2, -⟩⟩ := h.m
  obtain ⟨⟨⟨c3, h3, -⟩, -⟩, c4, h4, -⟩ := h.r
  exact ⟨Blk.ne_ h2 h3 (by decide), Blk.ne_ h2 h4 (by decide), Blk.ne_ h1 h3 (by decide), Blk.ne_ h1 h4 (by decide)⟩
theorem Mms.to {w0 W W' : World} {p F q G : Nat} {st st' : St} (h : Mms w0 W p F q G st st') (hf : Fr [] W W') : Mms w0 W' p F q G st st' :=
  ⟨h.m.to hf (by simp) (by simp), h.r.to hf (by simp) (by simp), h.fr.trans hf, h.gp⟩
theorem Mms.lay {w0 W : World} {p F q G : Nat} {st st' : St} (h : Mms w0 W p F q G st st') (f : Int) (s : ByteArray) (hs : s.size ≤ maxLen) : Calls Try.prog 31 #[ptr p, .int .i64 f, .int .i64 0, .string s] W fun e w' => e = .returned (.int .i64 (layE st.n f 0 s)) ∧ Mms w0 w' p F q G (layS st f 0 s) st' := by
  obtain ⟨n1, n2, n3, n4⟩ := h.ne
  refine (Lay_law p F st W f s h.m hs).mono fun e w' ⟨he, hm, hf⟩ => ⟨he, hm, h.r.to hf (by simpa using n1.symm) (by simpa using n2.symm), h.fr.step hf (fun k hk => by simp at hk; subst hk; exact .inr h.gp.2.1), h.gp⟩
theorem Mms.rlay {w0 W : World} {p F q G : Nat} {st st' : St} (h : Mms w0 W p F q G st st') (f : Int) (s : ByteArray) (hs : s.size ≤ maxLen) : Calls Try.prog 43 #[ptr q, .int .i64 f, .int .i64 0, .string s] W fun e w' => e = .returned (.int .i64 (layE st'.n f 0 s)) ∧ Mms w0 w' p F q G st (layS st' f 0 s) := by
  obtain ⟨n1, n2, n3, n4⟩ := h.ne
  refine (rLay_law q G st' W f s h.r hs).mono fun e w' ⟨he, hm, hf⟩ => ⟨he, h.m.to hf (by simpa using n4) (by simpa using n2), hm, h.fr.step hf (fun k hk => by simp at hk; subst hk; exact .inr h.gp.2.2.2), h.gp⟩
theorem Mms.base {w0 w1 W : World} {p F q G : Nat} {st st' : St} (h : Mms w1 W p F q G st st') (hf : Fr [] w0 w1) : Mms w0 W p F q G st st' :=
  ⟨h.m, h.r, hf.trans h.fr, by have := hf.size; have := h.gp; omega⟩
/-- What made tells. -/
def MadeP (w : World) (n : Nat) (l : Nat → ByteArray) (nl : Nat) (e : Ending) (w' : World) : Prop :=
  ∃ p F q G, e = .returned (.tuple #[ptr p, ptr q]) ∧ Mms w w' p F q G (layN n l nl) (layN n l nl)
set_option maxHeartbeats 4000000 in
theorem made_ok (n : Nat) (LA : Option Addr) (nl cl : Nat) (l : Nat → ByteArray) (TA : Option Addr) (nt ct : Nat) (w : World) (h1 : 1 ≤ n) (h2 : n ≤ 160) (hl : PrZ w LA nl l) :
    Calls Try.prog 40 #[.agg #[.int .i64 (n : Int), .slice LA nl cl, .slice TA nt ct]] w (MadeP w n l nl) := by
  have H1 := Lib.hid (fun W => New_ok n W h1 h2)
  have H2 := Lib.hid (fun W => rNew_ok n W h1 h2)
  unfold RNewP at H2
  have HF := Lib.hid ((Fr.refl [] w).alloc (.cells #[.int .i64 (n : Int), .slice LA nl cl, .slice TA nt ct] 72))
  have HB := Lib.hid (Blk.new w 72 #[.int .i64 (n : Int), .slice LA nl cl, .slice TA nt ct])
  generalize hW0 : w.alloc (.cells #[.int .i64 (n : Int), .slice LA nl cl, .slice TA nt ct] 72) = W0 at *
  have HMs : Hid (∀ (W1 W2 : World) (p F q G : Nat), MemAt W1 p F (layN n l 0) → Fr [] W0 W1 → RMem W2 q G (layN n l 0) → Fr [] W1 W2 → W1.heap.size ≤ q → W1.heap.size ≤ G → W0.heap.size ≤ F → W0.heap.size ≤ p → Mms W0 W2 p F q G (layN n l 0) (layN n l 0)) :=
    Lib.hid (fun W1 W2 p F q G hm hf hr hf2 hq hG hF hp => ⟨hm.to hf2 (by simp) (by simp), hr, hf.trans hf2, by have := hf.size; omega⟩)
  have HL := Lib.hid (hl.fr HF.out)
  have hnl := hl.1
  simp only [maxLen] at hnl
  have c0 : W0.cell? ⟨w.heap.size, 0, none⟩ = some (.int .i64 (n : Int)) := HB.out.cell 0
  clear hl
  go_enter Try.func40, Try.ntmps40
  go_wp2_with (first
    | (go_at_call 29; refine (H1.out _).mono ?_; rintro e w1 ⟨rfl, hm1, hf1⟩; have HF1 := Lib.hid hf1; have c1 : w1.cell? ⟨w.heap.size, 0, none⟩ = some (.int .i64 (n : Int)) := (HB.out.fr hf1 (by simp)).cell 0; clear hf1)
    | (go_at_call 41; refine (H2.out _).mono ?_; rintro e w2 ⟨q, G, rfl, hm2, hf2, hq, hG⟩; have hd := HMs.out _ _ _ _ _ _ hm1 HF1.out hm2 hf2 hq hG (Nat.le_refl _) (Nat.le_succ _); clear hm1 hm2 hf2 hq hG c0 c1)
    | fail)
  have HD := Lib.hid hd
  clear hd
  go_loopg [8] nl (fun gg vi wr => ∃ (k : Nat), k + gg = nl ∧ vi = .int .i64 (k : Int) ∧ Mms W0 wr (W0.heap.size + 1) W0.heap.size q G (layN n l k) (layN n l k))
  case atStart => exact ⟨0, by omega, rfl, HD.out⟩
  case round =>
    obtain ⟨k, hk, rfl, hd⟩ := hrel
    have Hk := Lib.hid hk
    have Hd := Lib.hid hd
    have c1 : wr.cell? ⟨w.heap.size, 1, none⟩ = some (.slice LA nl cl) := (HB.out.fr hd.fr (by simp)).cell 1
    clear hk
    by_cases hlt : k < nl
    · have hlt' : (k : Int) < (nl : Int) := by omega
      have hk0 : (0 : Int) ≤ (k : Int) := by omega
      have hwk : IntKind.i64.wrap ((k : Int) + 1) = (k : Int) + 1 := IntWalk.i64_in _ (by omega)
      obtain ⟨hz, bl, ol, rfl, cl0⟩ := (HL.out.fr hd.fr).2 k hlt
      have hz1 := Lib.hid hz
      have HLy := Lib.hid (hd.lay (k : Int) (l k) hz)
      have HRy := Lib.hid (fun W (h : Mms W0 W (W0.heap.size + 1) W0.heap.size q G (layS (layN n l k) (k : Int) 0 (l k)) (layN n l k)) => h.rlay (k : Int) (l k) hz1.out)
      have HK := Lib.hid (fun W (h : Fr [] W0 W) => (show W.cell? ⟨w.heap.size, 1, none⟩ = some (.slice (some ⟨bl, ol, none⟩) nl cl) ∧ W.cell? ⟨bl, ol + k, none⟩ = some (.string (l k)) from by
        refine ⟨(HB.out.fr h (by simp)).cell 1, ?_⟩
        obtain ⟨-, b3, o3, e3, hc3⟩ := (HL.out.fr h).2 k hlt
        injection e3 with e3
        injection e3 with e3 e4
        subst e3 e4
        exact hc3))
      generalize layE (layN n l k).n (k : Int) 0 (l k) = E0 at *
      clear hd hz
      go_wp2_with (first
        | (go_at_call 31; refine HLy.out.mono ?_; clear HLy; rintro e w3 ⟨rfl, hd⟩; obtain ⟨d1, d2⟩ := HK.out _ hd.fr)
        | (go_at_call 43; refine (HRy.out _ hd).mono ?_; clear hd HRy; rintro e w4 ⟨rfl, hd4⟩)
        | fail)
      go_roundg (nl - (k + 1))
      case measure => have := Hk.out; omega
      case rel => exact ⟨k + 1, by have := Hk.out; omega, by go_num, hd4⟩
    · have hlt' : ¬ (k : Int) < (nl : Int) := by omega
      obtain rfl : k = nl := by have := Hk.out; omega
      clear hd
      go_wp2_with fail
      go_ret2
      exact ⟨_, _, _, _, rfl, Hd.out.base HF.out⟩
end Go.Proofs.Ytonongaakieciaa
