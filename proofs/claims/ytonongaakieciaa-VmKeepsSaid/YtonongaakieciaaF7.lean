/- A machine, a memory and a table in one world; fixed, walked. -/
import Derived.Test.YtonongaakieciaaF6
namespace Go.Proofs.Ytonongaakieciaa
open Go.RowKit
set_option linter.unusedVariables false
set_option linter.unusedSimpArgs false
set_option maxRecDepth 100000
/-- A machine, a memory that was made since w, and a table. -/
structure MW (w W : World) (v p F b mm cap : Nat) (A : Option Addr) (t : List Pg) (x : Vm) (st : St) : Prop where
  vm : VmAt W v x
  mem : MemAt W p F st
  tb : Tb W b (.slice A mm cap) t
  lt : b < W.heap.size
  nv : b ≠ v
  nF : b ≠ F
  fr : Fr [] w W
  gv : w.heap.size ≤ v
  gF : w.heap.size ≤ F
  gp : w.heap.size ≤ p
section
variable {w W W' : World} {v p F b mm cap : Nat} {A : Option Addr} {t : List Pg} {x : Vm} {st : St}
theorem MW.to (h : MW w W v p F b mm cap A t x st) (hf : Fr [] W W') : MW w W' v p F b mm cap A t x st :=
  ⟨h.vm.fr hf (by simp), h.mem.to hf (by simp) (by simp), h.tb.fr hf (by simp), Nat.lt_of_lt_of_le h.lt hf.size, h.nv, h.nF, h.fr.trans hf, h.gv, h.gF, h.gp⟩
theorem MW.step (h : MW w W v p F b mm cap A t x st) {E : Int × Int} {X : Vm} {S : St} (hs : stepV x st t = (E, X, S)) : Calls Try.prog 34 #[ptr v, ptr p, .slice A mm cap] W fun e w' => e = .returned (.agg #[.int .i64 E.1, .int .i64 E.2]) ∧ MW w w' v p F b mm cap A t X S := by
  refine (Step_any v p F b mm cap x st A t W h.vm h.mem h.tb h.lt).mono ?_
  rw [hs]
  rintro e w' ⟨he, hv, hm, hf⟩
  exact ⟨he, hv, hm, h.tb.fr hf (by simp [h.nv, h.nF]), Nat.lt_of_lt_of_le h.lt hf.size, h.nv, h.nF, h.fr.step hf (fun k hk => by simp at hk; rcases hk with rfl | rfl <;> first | exact .inr h.gv | exact .inr h.gF), h.gv, h.gF, h.gp⟩
theorem MW.yes (h : MW w W v p F b mm cap A t x st) (hw : x.wt = true) {g o c : Nat} {l : Nat → Int} (hl : ∀ j, j < 3 → W.cell? ⟨g, o + j, none⟩ = some (.int .i64 (l j))) (hg : g ≠ v) : Calls Try.prog 33 #[ptr v, .slice (some ⟨g, o, none⟩) 3 c] W fun e w' => e = .returned (.int .i64 0) ∧ MW w w' v p F b mm cap A t (ansV x l) st := by
  obtain ⟨n1, n2⟩ := h.mem.ne_vm h.vm
  refine (vAnswer_yes h.vm g o c l hw hl hg).mono ?_
  rintro e w' ⟨he, hv, hf⟩
  exact ⟨he, hv, h.mem.to hf (by simpa using n1) (by simpa using n2), h.tb.fr hf (by simpa using h.nv), Nat.lt_of_lt_of_le h.lt hf.size, h.nv, h.nF, h.fr.step hf (fun k hk => by simp at hk; subst hk; exact .inr h.gv), h.gv, h.gF, h.gp⟩
end
/-- A table of one page, just made. -/
theorem MW.one {w W : World} {v p F g : Nat} {f r : Int} {x : Vm} {st : St} (hv : VmAt W v x) (hm : MemAt W p F st) (hb : Blk W g 61 #[.int .i64 f, .int .i64 r]) (hf : Fr [] w W) (gv : w.heap.size ≤ v) (gF : w.heap.size ≤ F) (gp : w.heap.size ≤ p) : MW w W v p F g 1 1 (some ⟨g, 0, none⟩) [⟨f, r⟩] x st :=
  ⟨hv, hm, ⟨by simp [maxLen], some ⟨g, 0, none⟩, 1, rfl, fun i q hi => by
    match i, hi with
    | 0, hi => cases hi; exact ⟨0, rfl, hb.lt, hb.cell 0, hb.cell 1⟩
    | n + 1, hi => simp at hi⟩, hb.lt, (Blk.ne_ hv.hb hb (by decide)).symm, (hm.ne_ev hb (by decide) (by decide)).2.symm, hf, gv, gF, gp⟩
/-- A frame is laid, beside a machine. -/
theorem vm_lay {w W W' : World} {v p F : Nat} {x : Vm} {st st' : St} (hv : VmAt W v x) (hm : MemAt W p F st) (hf : Fr [] w W) (gF : w.heap.size ≤ F) (hm' : MemAt W' p F st') (hf' : Fr [F] W W') : VmAt W' v x ∧ MemAt W' p F st' ∧ Fr [] w W' := by
  have n3 : F ≠ v := (hm.ne_vm hv).2
  exact ⟨hv.fr hf' (by simpa using n3.symm), hm', hf.step hf' (fun k hk => by simp at hk; subst hk; exact .inr gF)⟩
set_option maxHeartbeats 8000000 in
theorem lFixed_any (w : World) : Calls Try.prog 37 #[] w fun e w' => e = .returned (.bool true) ∧ Fr [] w w' := by
  have HN := Lib.hid (New_ok 1 w (by decide) (by decide))
  have HV := Lib.hid vNew_any
  have hcz := catE_size fF 4
  have HB : Hid (∀ (W : World) (g cap : Nat), Blk W g 53 #[.int .i64 2, .int .i64 1, .int .i64 0, .int .i64 7, .int .i64 19, .int .i64 3, .int .i64 0, .int .i64 (-1), .int .i64 29, .int .i64 0, .int .i64 0, .int .i64 9, .int .i64 8, .int .i64 1, .int .i64 4, .int .i64 0] → Calls Try.prog 32 #[.slice (some ⟨g, 0, none⟩) 4 cap] W fun e w' => e = .returned (.string (catE fF 4)) ∧ Fr [] W w') :=
    Lib.hid (fun W g cap hb => lBytes_4 fF g cap W hb okF)
  have HL : Hid (∀ (W : World) (p F : Nat), MemAt W p F ⟨1, fun _ => 0⟩ → Calls Try.prog 31 #[ptr p, .int .i64 0, .int .i64 0, .string (catE fF 4)] W fun e w' => e = .returned (.int .i64 0) ∧ MemAt w' p F stF ∧ Fr [F] W w') :=
    Lib.hid (fun W p F hm => by
      have := Lay_any p F ⟨1, fun _ => 0⟩ W 0 0 (catE fF 4) hm (by omega)
      unfold LayP at this
      rw [lay0] at this
      exact this)
  obtain ⟨⟨X1, S1⟩, h1⟩ : ∃ q, stepV vm0 stF tF = ((0, 0), q) := ⟨_, Prod.ext s1_1 rfl⟩
  have e1 : s1 = ((0, 0), X1, S1) := h1
  obtain ⟨⟨X2, S2⟩, h2⟩ : ∃ q, stepV X1 S1 tF = ((0, 0), q) := ⟨_, Prod.ext (by have := s2_1; unfold s2 at this; rw [e1] at this; exact this) rfl⟩
  have e2 : s2 = ((0, 0), X2, S2) := by unfold s2; rw [e1]; exact h2
  obtain ⟨⟨X3, S3⟩, h3⟩ : ∃ q, stepV X2 S2 tF = ((3, 9), q) := ⟨_, Prod.ext (by have := s3_1; unfold s3 at this; rw [e2] at this; exact this) rfl⟩
  have e3 : s3 = ((3, 9), X3, S3) := by unfold s3; rw [e2]; exact h3
  obtain ⟨⟨X4, S4⟩, h4⟩ : ∃ q, stepV X3 S3 tF = ((2, 2), q) := ⟨_, Prod.ext (by have := s4_1; unfold s4 at this; rw [e3] at this; exact this) rfl⟩
  have e4 : s4 = ((2, 2), X4, S4) := by unfold s4; rw [e3]; exact h4
  have w4 : X4.wt = true := by have := s4_w; rw [e4] at this; exact this
  have exF : xF = ansV X4 lF := by unfold xF; rw [e4]
  obtain ⟨⟨X5, S5⟩, h5⟩ : ∃ q, stepV (ansV X4 lF) S4 tF = ((2, 5), q) := ⟨_, Prod.ext (by have := s5_1; unfold s5 at this; rw [exF, e4] at this; exact this) rfl⟩
  have e5 : s5 = ((2, 5), X5, S5) := by unfold s5; rw [exF, e4]; exact h5
  have r1 : X5.r 1 = 4294967295 := by have := s5_r1; rw [e5] at this; exact this
  have r3 : X5.r 3 = 4294967295 := by have := s5_r3; rw [e5] at this; exact this
  have p5 : X5.pl = 12 := by have := s5_p; rw [e5] at this; exact this
  have w5 : X5.wt = false := by have := s5_w; rw [e5] at this; exact this
  have H1 := Lib.hid (fun W v p F g (h : MW w W v p F g 1 1 (some ⟨g, 0, none⟩) tF vm0 stF) => h.step h1)
  have H2 := Lib.hid (fun W v p F g (h : MW w W v p F g 1 1 (some ⟨g, 0, none⟩) tF X1 S1) => h.step h2)
  have H3 := Lib.hid (fun W v p F g (h : MW w W v p F g 1 1 (some ⟨g, 0, none⟩) tF X2 S2) => h.step h3)
  have H4 := Lib.hid (fun W v p F g (h : MW w W v p F g 1 1 (some ⟨g, 0, none⟩) tF X3 S3) => h.step h4)
  have H5 := Lib.hid (fun W v p F g (h : MW w W v p F g 1 1 (some ⟨g, 0, none⟩) tF (ansV X4 lF) S4) => h.step h5)
  have HW4 := Lib.hid (fun W v p F g (h : MW w W v p F g 1 1 (some ⟨g, 0, none⟩) tF X4 S4) => (show Calls Try.prog 35 #[ptr v] W fun e w' => e = .returned (.bool true) ∧ W = w' by have := vWaits_any h.vm; rwa [w4] at this))
  have HA4 := Lib.hid (fun W v p F g (h : MW w W v p F g 1 1 (some ⟨g, 0, none⟩) tF X4 S4) (A : Option Addr) (c : Nat) => vAnswer_no h.vm A 2 c (.inr (by decide)))
  have HY4 := Lib.hid (fun W v p F g (h : MW w W v p F g 1 1 (some ⟨g, 0, none⟩) tF X4 S4) (k c : Nat) (hb : Blk W k 3 #[.int .i64 1, .int .i64 (-1), .int .i64 2]) => h.yes (c := c) (l := lF) w4 (g := k) (o := 0) (fun j hj => by
    rw [Nat.zero_add, hb.cell]
    rcases (by omega : j = 0 ∨ j = 1 ∨ j = 2) with rfl | rfl | rfl <;> rfl) (Blk.ne_ hb h.vm.hb (by decide)))
  have HW5 := Lib.hid (fun W v p F g (h : MW w W v p F g 1 1 (some ⟨g, 0, none⟩) tF X5 S5) => (show Calls Try.prog 35 #[ptr v] W fun e w' => e = .returned (.bool false) ∧ W = w' by have := vWaits_any h.vm; rwa [w5] at this))
  have HP5 := Lib.hid (fun W v p F g (h : MW w W v p F g 1 1 (some ⟨g, 0, none⟩) tF X5 S5) => (show Calls Try.prog 38 #[ptr v] W fun e w' => e = .returned (.int .i64 12) ∧ W = w' by have := vPlace_any h.vm; rwa [p5] at this))
  have HR1 := Lib.hid (fun W v p F g (h : MW w W v p F g 1 1 (some ⟨g, 0, none⟩) tF X5 S5) => (show Calls Try.prog 36 #[ptr v, .int .i64 1] W fun e w' => e = .returned (.int .i64 4294967295) ∧ W = w' by have := vReg_in h.vm 1 (by decide); rwa [r1] at this))
  have HR3 := Lib.hid (fun W v p F g (h : MW w W v p F g 1 1 (some ⟨g, 0, none⟩) tF X5 S5) => (show Calls Try.prog 36 #[ptr v, .int .i64 3] W fun e w' => e = .returned (.int .i64 4294967295) ∧ W = w' by have := vReg_in h.vm 3 (by decide); rwa [r3] at this))
  have HR16 := Lib.hid (fun W (v : Nat) => (show Calls Try.prog 36 #[ptr v, .int .i64 16] W fun e w' => e = .returned (.int .i64 0) ∧ W = w' from vReg_out 16 (.inr (by decide))))
  have HM : Hid (∀ (W1 W2 W3 W4 : World) (p F v g : Nat), MemAt W1 p F ⟨1, fun _ => 0⟩ → Fr [] w W1 → w.heap.size ≤ p → w.heap.size ≤ F → VmAt W2 v vm0 → Fr [] W1 W2 → v = W1.heap.size → Blk W3 g 61 #[.int .i64 0, .int .i64 7] → Fr [] W2 W3 → MemAt W4 p F stF → Fr [F] W3 W4 → MW w W4 v p F g 1 1 (some ⟨g, 0, none⟩) tF vm0 stF) := Lib.hid (by
    intro W1 W2 W3 W4 p F v g hm hf1 hp hF hv hf2 hvz hb hf3 hm4 hf4
    have hv3 := hv.fr hf3 (by simp)
    have n1 : g ≠ v := (Blk.ne_ hv3.hb hb (by decide)).symm
    have hm3 := (hm.to hf2 (by simp) (by simp)).to hf3 (by simp) (by simp)
    have n2 : g ≠ F := (hm3.ne_ev hb (by decide) (by decide)).2.symm
    have n3 : F ≠ v := (hm3.ne_vm hv3).2
    have hb4 := hb.fr hf4 (by simpa using n2)
    refine ⟨hv3.fr hf4 (by simpa using n3.symm), hm4, ⟨by decide, some ⟨g, 0, none⟩, 1, rfl, fun i q hi => ?_⟩, hb4.lt, n1, n2, ?_, by have := hf1.size; omega, hF, hp⟩
    · match i, hi with
      | 0, hi => cases hi; exact ⟨0, rfl, hb4.lt, hb4.cell 0, hb4.cell 1⟩
      | n + 1, hi => simp [tF] at hi
    · exact ((hf1.trans hf2).trans hf3).step hf4 (fun k hk => by simp at hk; subst hk; exact .inr hF))
  generalize ansV X4 lF = Y4 at *
  generalize catE fF 4 = B at *
  generalize stF = S0 at *
  generalize tF = T at *
  clear h1 h2 h3 h4 h5 e1 e2 e3 e4 e5 w4 w5 exF r1 r3 p5 hcz
  go_enter Try.func37, Try.ntmps37
  go_wp2_with (first
    | (go_at_call 29; refine HN.out.mono ?_; clear HN; rintro e w1 ⟨rfl, hm, hf⟩; have HM1 := Lib.hid hm; have HF1 := Lib.hid hf; clear hm hf)
    | (go_at_call 30; refine (HV.out _).mono ?_; clear HV; rintro e w2 ⟨rfl, hv, hf⟩; have HV2 := Lib.hid hv; have HF2 := Lib.hid hf; clear hv hf)
    | (go_at_call 32; refine (HB.out _ _ _ (Blk.new' (by simp))).mono ?_; clear HB; rintro e w3 ⟨rfl, hf⟩; have HB3 := Lib.hid ((Blk.new w2 61 _).fr (((Fr.refl [] _).alloc _).trans hf) (by simp)); have HF3 := Lib.hid ((((Fr.refl [] w2).alloc _).alloc _).trans hf); clear hf)
    | (go_at_call 31; refine (HL.out _ _ _ ((HM1.out.to HF2.out (by simp) (by simp)).to HF3.out (by simp) (by simp))).mono ?_; clear HL; rintro e w4 ⟨rfl, hm, hf⟩
       have hd := HM.out w1 w2 w3 w4 _ _ _ _ HM1.out HF1.out (by omega) (by omega) HV2.out HF2.out rfl HB3.out HF3.out hm hf; clear hm hf)
    | (go_at_call 34; have hq := H1.out _ _ _ _ _ hd; clear hd H1; refine hq.mono ?_; clear hq; rintro e w5 ⟨rfl, hd⟩)
    | (go_at_call 34; have hq := H2.out _ _ _ _ _ hd; clear hd H2; refine hq.mono ?_; clear hq; rintro e w6 ⟨rfl, hd⟩)
    | (go_at_call 34; have hq := H3.out _ _ _ _ _ hd; clear hd H3; refine hq.mono ?_; clear hq; rintro e w7 ⟨rfl, hd⟩)
    | (go_at_call 34; have hq := H4.out _ _ _ _ _ hd; clear hd H4; refine hq.mono ?_; clear hq; rintro e w8 ⟨rfl, hd⟩)
    | (go_at_call 35; refine (HW4.out _ _ _ _ _ (hd.to (by repeat (first | exact Fr.refl _ _ | (refine Fr.alloc ?_ _) | (refine Fr.setCell ?_ (.inr (by simp; try omega)) _))))).mono ?_; clear HW4; rintro e w9 ⟨rfl, rfl⟩)
    | (go_at_call 33; refine (HA4.out _ _ _ _ _ (hd.to (by repeat (first | exact Fr.refl _ _ | (refine Fr.alloc ?_ _) | (refine Fr.setCell ?_ (.inr (by simp; try omega)) _)))) _ _).mono ?_; clear HA4; rintro e w9 ⟨rfl, rfl⟩)
    | (go_at_call 33; refine (HY4.out _ _ _ _ _ (hd.to (by repeat (first | exact Fr.refl _ _ | (refine Fr.alloc ?_ _) | (refine Fr.setCell ?_ (.inr (by simp; try omega)) _)))) _ _ (Blk.new' (by simp))).mono ?_; clear hd HY4; rintro e w10 ⟨rfl, hd⟩)
    | (go_at_call 34; have hq := H5.out _ _ _ _ _ hd; clear hd H5; refine hq.mono ?_; clear hq; rintro e w11 ⟨rfl, hd⟩)
    | (go_at_call 36; refine (HR1.out _ _ _ _ _ (hd.to (by repeat (first | exact Fr.refl _ _ | (refine Fr.alloc ?_ _) | (refine Fr.setCell ?_ (.inr (by simp; try omega)) _))))).mono ?_; clear HR1; rintro e w12 ⟨rfl, rfl⟩)
    | (go_at_call 36; refine (HR3.out _ _ _ _ _ (hd.to (by repeat (first | exact Fr.refl _ _ | (refine Fr.alloc ?_ _) | (refine Fr.setCell ?_ (.inr (by simp; try omega)) _))))).mono ?_; clear HR3; rintro e w12 ⟨rfl, rfl⟩)
    | (go_at_call 36; refine (HR16.out _ _).mono ?_; clear HR16; rintro e w12 ⟨rfl, rfl⟩)
    | (go_at_call 38; refine (HP5.out _ _ _ _ _ (hd.to (by repeat (first | exact Fr.refl _ _ | (refine Fr.alloc ?_ _) | (refine Fr.setCell ?_ (.inr (by simp; try omega)) _))))).mono ?_; clear HP5; rintro e w12 ⟨rfl, rfl⟩)
    | (go_at_call 35; refine (HW5.out _ _ _ _ _ (hd.to (by repeat (first | exact Fr.refl _ _ | (refine Fr.alloc ?_ _) | (refine Fr.setCell ?_ (.inr (by simp; try omega)) _))))).mono ?_; clear HW5; rintro e w12 ⟨rfl, rfl⟩)
    | fail)
  go_ret
  exact ⟨rfl, (hd.to (by repeat (first | exact Fr.refl _ _ | (refine Fr.alloc ?_ _) | (refine Fr.setCell ?_ (.inr (by simp; try omega)) _)))).fr⟩
end Go.Proofs.Ytonongaakieciaa
