/- The document's machine: its step, by operations (printed by genM5.py). -/
import Derived.Test.YtonongaakieciaaM4
import Derived.Deep.RegionLaw
namespace Go.Proofs.Ytonongaakieciaa
open Go.RowKit
set_option linter.unusedVariables false
set_option linter.unusedSimpArgs false
set_option maxRecDepth 100000
set_option maxHeartbeats 8000000 in
theorem rs_24 (y q G bt mm cap : Nat) (x : Vm) (st : St) (A : Option Addr) (t : List Pg) (w : World) (h : RPre w y q G bt mm cap A t x st) (a b : Nat) (m : Int) (hf : fetI x st t = (⟨24, a, b, m⟩, 0)) :
    Calls Try.prog 44 #[ptr y, ptr q, .slice A mm cap] w (RStepQ w y q G (0, 0) (putP x ((((x.pl + 4) % 4294967296) + 4 * m) % 4294967296)) st) := by
  have Hmd := Lib.hid h.md
  have HL := Lib.hid rLow_any
  obtain ⟨f1, f2, f3⟩ := fet_parts hf
  obtain ⟨ai, bi, mi, ok⟩ := fet_good hf
  have HRd := Lib.hid (fun W (h : RMd w y q G bt mm cap A t x st W) => h.read)
  have HDc := Lib.hid (fun W (h : RMd w y q G bt mm cap A t x st W) => h.dec ⟨(rdR st t x.pl 4 4).1.toArray⟩)
  rw [f3] at HDc
  rw [f2] at HRd
  have HT := Lib.hid (fun n W (h : RMd w y q G bt mm cap A t x st W) => h.trap n)
  have hyl := h.hv.lt
  have c17 := h.hv.waits
  have c16 := h.hv.place
  rw [f1] at c17
  have hp0 : 0 ≤ x.pl := h.hv.p.1
  have hp1 : x.pl < 4294967296 := h.hv.p.2
  have ha0 : 0 ≤ x.r a := (h.hv.r a).1
  have ha1 : x.r a < 4294967296 := (h.hv.r a).2
  have hb0 : 0 ≤ x.r b := (h.hv.r b).1
  have hb1 : x.r b < 4294967296 := (h.hv.r b).2
  have HK := Lib.hid (fun W (h : RMd w y q G bt mm cap A t x st W) => (show W.cell? ⟨w.heap.size, 0, none⟩ = some (.int .i64 0) ∧ W.cell? ⟨w.heap.size, 1, none⟩ = some (.int .i64 0) ∧ (∀ i, W.frozen? ⟨w.heap.size, i, none⟩ = false) ∧ W.cell? ⟨y, a, none⟩ = some (.int .i64 (x.r a)) ∧ W.cell? ⟨y, b, none⟩ = some (.int .i64 (x.r b)) ∧ W.cell? ⟨y, 16, none⟩ = some (.int .i64 x.pl) ∧ (∀ i, W.frozen? ⟨y, i, none⟩ = false) ∧ y < W.heap.size ∧ w.heap.size < W.heap.size ∧ y ≠ w.heap.size ∧ W.cell? ⟨y, 17, none⟩ = some (.bool x.wt) from ⟨h.ev.cell 0, h.ev.cell 1, h.ev.frozen, h.hv.reg ai, h.hv.reg bi, h.hv.place, h.hv.frozen, h.hv.lt, h.lt, (h.hv.ne_ h.ev (by decide)).symm, h.hv.waits⟩))
  have HA := Lib.hid ai
  have haN : (0 : Int) ≤ (a : Int) := by omega
  have hbN : (0 : Int) ≤ (b : Int) := by omega
  have haM : (a : Int) < 16 := by omega
  have hbM : (b : Int) < 16 := by omega
  have hm0 := mi.1
  have hm1 := mi.2
  have eT : ((((x.pl + 4) % 4294967296) + 4 * m) % 4294967296) = ((x.pl + 4 + 4 * m) % 4294967296) := by omega
  rw [eT]
  clear eT
  clear h hf f1 f2 f3 ok mi ai bi
  go_enter Try.func44, Try.ntmps44
  go_wp2_with (first
    | (go_at_call 65; refine (HRd.out _ Hmd.out).mono ?_; rintro e w1 ⟨rfl, hm1⟩; have Hm1 := Lib.hid hm1; clear hm1 c16 c17)
    | (go_at_call 82; refine (HDc.out _ Hm1.out).mono ?_; rintro e w2 ⟨rfl, hm2⟩; obtain ⟨e0, e1, ef, ca, cb, c16, yf, yl, el, ne, c17⟩ := HK.out _ hm2; have Hm2 := Lib.hid hm2; clear hm2)
    | fail)
  go_region
  go_wp2_with (first | (go_at_call 28; refine (HL.out _ _).mono ?_; unfold low; rintro e w3 ⟨rfl, rfl⟩) | fail)
  have HE := Hm2.out.fin0 (nx := ((x.pl + 4 + 4 * m) % 4294967296)) (by unfold u32b; omega) 0 0
  refine bodyPost_ret (v := .agg #[.int .i64 0, .int .i64 0]) ?_ rfl (RStepQ.to HE.2 (by repeat (first | exact Fr.refl _ _ | (refine Fr.alloc ?_ _) | (refine Fr.drew ?_) | (refine Fr.drewN ?_ _) | (refine Fr.setCell ?_ (.inr (by simp; try omega)) _))))
  exact results_cell_row Try.results44 _ _ w.heap.size 65 _ (0, 0) _ rfl (HE.1.fr (S := []) (by repeat (first | exact Fr.refl _ _ | (refine Fr.alloc ?_ _) | (refine Fr.drew ?_) | (refine Fr.drewN ?_ _) | (refine Fr.setCell ?_ (.inr (by simp; try omega)) _))) (by simp)) Try.underlying65 rfl (by kernel_rfl)
set_option maxHeartbeats 8000000 in
theorem rs_25_0 (y q G bt mm cap : Nat) (x : Vm) (st : St) (A : Option Addr) (t : List Pg) (w : World) (h : RPre w y q G bt mm cap A t x st) (a b : Nat) (m : Int) (hz : x.r a = 0) (hf : fetI x st t = (⟨25, a, b, m⟩, 0)) :
    Calls Try.prog 44 #[ptr y, ptr q, .slice A mm cap] w (RStepQ w y q G (0, 0) (putP x ((((x.pl + 4) % 4294967296) + 4 * m) % 4294967296)) st) := by
  have Hmd := Lib.hid h.md
  have HL := Lib.hid rLow_any
  obtain ⟨f1, f2, f3⟩ := fet_parts hf
  obtain ⟨ai, bi, mi, ok⟩ := fet_good hf
  have HRd := Lib.hid (fun W (h : RMd w y q G bt mm cap A t x st W) => h.read)
  have HDc := Lib.hid (fun W (h : RMd w y q G bt mm cap A t x st W) => h.dec ⟨(rdR st t x.pl 4 4).1.toArray⟩)
  rw [f3] at HDc
  rw [f2] at HRd
  have HT := Lib.hid (fun n W (h : RMd w y q G bt mm cap A t x st W) => h.trap n)
  have hyl := h.hv.lt
  have c17 := h.hv.waits
  have c16 := h.hv.place
  rw [f1] at c17
  have hp0 : 0 ≤ x.pl := h.hv.p.1
  have hp1 : x.pl < 4294967296 := h.hv.p.2
  have ha0 : 0 ≤ x.r a := (h.hv.r a).1
  have ha1 : x.r a < 4294967296 := (h.hv.r a).2
  have hb0 : 0 ≤ x.r b := (h.hv.r b).1
  have hb1 : x.r b < 4294967296 := (h.hv.r b).2
  have HK := Lib.hid (fun W (h : RMd w y q G bt mm cap A t x st W) => (show W.cell? ⟨w.heap.size, 0, none⟩ = some (.int .i64 0) ∧ W.cell? ⟨w.heap.size, 1, none⟩ = some (.int .i64 0) ∧ (∀ i, W.frozen? ⟨w.heap.size, i, none⟩ = false) ∧ W.cell? ⟨y, a, none⟩ = some (.int .i64 (x.r a)) ∧ W.cell? ⟨y, b, none⟩ = some (.int .i64 (x.r b)) ∧ W.cell? ⟨y, 16, none⟩ = some (.int .i64 x.pl) ∧ (∀ i, W.frozen? ⟨y, i, none⟩ = false) ∧ y < W.heap.size ∧ w.heap.size < W.heap.size ∧ y ≠ w.heap.size ∧ W.cell? ⟨y, 17, none⟩ = some (.bool x.wt) from ⟨h.ev.cell 0, h.ev.cell 1, h.ev.frozen, h.hv.reg ai, h.hv.reg bi, h.hv.place, h.hv.frozen, h.hv.lt, h.lt, (h.hv.ne_ h.ev (by decide)).symm, h.hv.waits⟩))
  have HA := Lib.hid ai
  have haN : (0 : Int) ≤ (a : Int) := by omega
  have hbN : (0 : Int) ≤ (b : Int) := by omega
  have haM : (a : Int) < 16 := by omega
  have hbM : (b : Int) < 16 := by omega
  have hm0 := mi.1
  have hm1 := mi.2
  have eT : ((((x.pl + 4) % 4294967296) + 4 * m) % 4294967296) = ((x.pl + 4 + 4 * m) % 4294967296) := by omega
  rw [eT]
  clear eT
  rw [hz] at HK
  clear hz ha0 ha1
  clear h hf f1 f2 f3 ok mi ai bi
  go_enter Try.func44, Try.ntmps44
  go_wp2_with (first
    | (go_at_call 65; refine (HRd.out _ Hmd.out).mono ?_; rintro e w1 ⟨rfl, hm1⟩; have Hm1 := Lib.hid hm1; clear hm1 c16 c17)
    | (go_at_call 82; refine (HDc.out _ Hm1.out).mono ?_; rintro e w2 ⟨rfl, hm2⟩; obtain ⟨e0, e1, ef, ca, cb, c16, yf, yl, el, ne, c17⟩ := HK.out _ hm2; have Hm2 := Lib.hid hm2; clear hm2)
    | fail)
  go_region
  go_wp2_with (first | (go_at_call 28; refine (HL.out _ _).mono ?_; unfold low; rintro e w3 ⟨rfl, rfl⟩) | fail)
  have HE := Hm2.out.fin0 (nx := ((x.pl + 4 + 4 * m) % 4294967296)) (by unfold u32b; omega) 0 0
  refine bodyPost_ret (v := .agg #[.int .i64 0, .int .i64 0]) ?_ rfl (RStepQ.to HE.2 (by repeat (first | exact Fr.refl _ _ | (refine Fr.alloc ?_ _) | (refine Fr.drew ?_) | (refine Fr.drewN ?_ _) | (refine Fr.setCell ?_ (.inr (by simp; try omega)) _))))
  exact results_cell_row Try.results44 _ _ w.heap.size 65 _ (0, 0) _ rfl (HE.1.fr (S := []) (by repeat (first | exact Fr.refl _ _ | (refine Fr.alloc ?_ _) | (refine Fr.drew ?_) | (refine Fr.drewN ?_ _) | (refine Fr.setCell ?_ (.inr (by simp; try omega)) _))) (by simp)) Try.underlying65 rfl (by kernel_rfl)
set_option maxHeartbeats 8000000 in
theorem rs_25_1 (y q G bt mm cap : Nat) (x : Vm) (st : St) (A : Option Addr) (t : List Pg) (w : World) (h : RPre w y q G bt mm cap A t x st) (a b : Nat) (m : Int) (hz : x.r a ≠ 0) (hf : fetI x st t = (⟨25, a, b, m⟩, 0)) :
    Calls Try.prog 44 #[ptr y, ptr q, .slice A mm cap] w (RStepQ w y q G (0, 0) (putP x ((x.pl + 4) % 4294967296)) st) := by
  have Hmd := Lib.hid h.md
  have HL := Lib.hid rLow_any
  obtain ⟨f1, f2, f3⟩ := fet_parts hf
  obtain ⟨ai, bi, mi, ok⟩ := fet_good hf
  have HRd := Lib.hid (fun W (h : RMd w y q G bt mm cap A t x st W) => h.read)
  have HDc := Lib.hid (fun W (h : RMd w y q G bt mm cap A t x st W) => h.dec ⟨(rdR st t x.pl 4 4).1.toArray⟩)
  rw [f3] at HDc
  rw [f2] at HRd
  have HT := Lib.hid (fun n W (h : RMd w y q G bt mm cap A t x st W) => h.trap n)
  have hyl := h.hv.lt
  have c17 := h.hv.waits
  have c16 := h.hv.place
  rw [f1] at c17
  have hp0 : 0 ≤ x.pl := h.hv.p.1
  have hp1 : x.pl < 4294967296 := h.hv.p.2
  have ha0 : 0 ≤ x.r a := (h.hv.r a).1
  have ha1 : x.r a < 4294967296 := (h.hv.r a).2
  have hb0 : 0 ≤ x.r b := (h.hv.r b).1
  have hb1 : x.r b < 4294967296 := (h.hv.r b).2
  have HK := Lib.hid (fun W (h : RMd w y q G bt mm cap A t x st W) => (show W.cell? ⟨w.heap.size, 0, none⟩ = some (.int .i64 0) ∧ W.cell? ⟨w.heap.size, 1, none⟩ = some (.int .i64 0) ∧ (∀ i, W.frozen? ⟨w.heap.size, i, none⟩ = false) ∧ W.cell? ⟨y, a, none⟩ = some (.int .i64 (x.r a)) ∧ W.cell? ⟨y, b, none⟩ = some (.int .i64 (x.r b)) ∧ W.cell? ⟨y, 16, none⟩ = some (.int .i64 x.pl) ∧ (∀ i, W.frozen? ⟨y, i, none⟩ = false) ∧ y < W.heap.size ∧ w.heap.size < W.heap.size ∧ y ≠ w.heap.size ∧ W.cell? ⟨y, 17, none⟩ = some (.bool x.wt) from ⟨h.ev.cell 0, h.ev.cell 1, h.ev.frozen, h.hv.reg ai, h.hv.reg bi, h.hv.place, h.hv.frozen, h.hv.lt, h.lt, (h.hv.ne_ h.ev (by decide)).symm, h.hv.waits⟩))
  have HA := Lib.hid ai
  have haN : (0 : Int) ≤ (a : Int) := by omega
  have hbN : (0 : Int) ≤ (b : Int) := by omega
  have haM : (a : Int) < 16 := by omega
  have hbM : (b : Int) < 16 := by omega
  have hm0 := mi.1
  have hm1 := mi.2
  have hzb : (x.r a == 0) = false := beq_eq_false_iff_ne.2 hz
  have hzb2 : (x.r a != 0) = true := bne_iff_ne.2 hz
  clear h hf f1 f2 f3 ok mi ai bi
  generalize x.r a = ra at *
  go_enter Try.func44, Try.ntmps44
  go_wp2_with (first
    | (go_at_call 65; refine (HRd.out _ Hmd.out).mono ?_; rintro e w1 ⟨rfl, hm1⟩; have Hm1 := Lib.hid hm1; clear hm1 c16 c17)
    | (go_at_call 82; refine (HDc.out _ Hm1.out).mono ?_; rintro e w2 ⟨rfl, hm2⟩; obtain ⟨e0, e1, ef, ca, cb, c16, yf, yl, el, ne, c17⟩ := HK.out _ hm2; have Hm2 := Lib.hid hm2; clear hm2)
    | fail)
  go_region
  go_wp2_with (first | (go_at_call 28; refine (HL.out _ _).mono ?_; unfold low; rintro e w3 ⟨rfl, rfl⟩) | fail)
  have HE := Hm2.out.fin0 (nx := ((x.pl + 4) % 4294967296)) (by unfold u32b; omega) 0 0
  refine bodyPost_ret (v := .agg #[.int .i64 0, .int .i64 0]) ?_ rfl (RStepQ.to HE.2 (by repeat (first | exact Fr.refl _ _ | (refine Fr.alloc ?_ _) | (refine Fr.drew ?_) | (refine Fr.drewN ?_ _) | (refine Fr.setCell ?_ (.inr (by simp; try omega)) _))))
  exact results_cell_row Try.results44 _ _ w.heap.size 65 _ (0, 0) _ rfl (HE.1.fr (S := []) (by repeat (first | exact Fr.refl _ _ | (refine Fr.alloc ?_ _) | (refine Fr.drew ?_) | (refine Fr.drewN ?_ _) | (refine Fr.setCell ?_ (.inr (by simp; try omega)) _))) (by simp)) Try.underlying65 rfl (by kernel_rfl)
set_option maxHeartbeats 8000000 in
theorem rs_26_0 (y q G bt mm cap : Nat) (x : Vm) (st : St) (A : Option Addr) (t : List Pg) (w : World) (h : RPre w y q G bt mm cap A t x st) (a b : Nat) (m : Int) (hz : x.r a = 0) (hf : fetI x st t = (⟨26, a, b, m⟩, 0)) :
    Calls Try.prog 44 #[ptr y, ptr q, .slice A mm cap] w (RStepQ w y q G (0, 0) (putP x ((x.pl + 4) % 4294967296)) st) := by
  have Hmd := Lib.hid h.md
  have HL := Lib.hid rLow_any
  obtain ⟨f1, f2, f3⟩ := fet_parts hf
  obtain ⟨ai, bi, mi, ok⟩ := fet_good hf
  have HRd := Lib.hid (fun W (h : RMd w y q G bt mm cap A t x st W) => h.read)
  have HDc := Lib.hid (fun W (h : RMd w y q G bt mm cap A t x st W) => h.dec ⟨(rdR st t x.pl 4 4).1.toArray⟩)
  rw [f3] at HDc
  rw [f2] at HRd
  have HT := Lib.hid (fun n W (h : RMd w y q G bt mm cap A t x st W) => h.trap n)
  have hyl := h.hv.lt
  have c17 := h.hv.waits
  have c16 := h.hv.place
  rw [f1] at c17
  have hp0 : 0 ≤ x.pl := h.hv.p.1
  have hp1 : x.pl < 4294967296 := h.hv.p.2
  have ha0 : 0 ≤ x.r a := (h.hv.r a).1
  have ha1 : x.r a < 4294967296 := (h.hv.r a).2
  have hb0 : 0 ≤ x.r b := (h.hv.r b).1
  have hb1 : x.r b < 4294967296 := (h.hv.r b).2
  have HK := Lib.hid (fun W (h : RMd w y q G bt mm cap A t x st W) => (show W.cell? ⟨w.heap.size, 0, none⟩ = some (.int .i64 0) ∧ W.cell? ⟨w.heap.size, 1, none⟩ = some (.int .i64 0) ∧ (∀ i, W.frozen? ⟨w.heap.size, i, none⟩ = false) ∧ W.cell? ⟨y, a, none⟩ = some (.int .i64 (x.r a)) ∧ W.cell? ⟨y, b, none⟩ = some (.int .i64 (x.r b)) ∧ W.cell? ⟨y, 16, none⟩ = some (.int .i64 x.pl) ∧ (∀ i, W.frozen? ⟨y, i, none⟩ = false) ∧ y < W.heap.size ∧ w.heap.size < W.heap.size ∧ y ≠ w.heap.size ∧ W.cell? ⟨y, 17, none⟩ = some (.bool x.wt) from ⟨h.ev.cell 0, h.ev.cell 1, h.ev.frozen, h.hv.reg ai, h.hv.reg bi, h.hv.place, h.hv.frozen, h.hv.lt, h.lt, (h.hv.ne_ h.ev (by decide)).symm, h.hv.waits⟩))
  have HA := Lib.hid ai
  have haN : (0 : Int) ≤ (a : Int) := by omega
  have hbN : (0 : Int) ≤ (b : Int) := by omega
  have haM : (a : Int) < 16 := by omega
  have hbM : (b : Int) < 16 := by omega
  have hm0 := mi.1
  have hm1 := mi.2
  rw [hz] at HK
  clear hz ha0 ha1
  clear h hf f1 f2 f3 ok mi ai bi
  go_enter Try.func44, Try.ntmps44
  go_wp2_with (first
    | (go_at_call 65; refine (HRd.out _ Hmd.out).mono ?_; rintro e w1 ⟨rfl, hm1⟩; have Hm1 := Lib.hid hm1; clear hm1 c16 c17)
    | (go_at_call 82; refine (HDc.out _ Hm1.out).mono ?_; rintro e w2 ⟨rfl, hm2⟩; obtain ⟨e0, e1, ef, ca, cb, c16, yf, yl, el, ne, c17⟩ := HK.out _ hm2; have Hm2 := Lib.hid hm2; clear hm2)
    | fail)
  go_region
  go_wp2_with (first | (go_at_call 28; refine (HL.out _ _).mono ?_; unfold low; rintro e w3 ⟨rfl, rfl⟩) | fail)
  have HE := Hm2.out.fin0 (nx := ((x.pl + 4) % 4294967296)) (by unfold u32b; omega) 0 0
  refine bodyPost_ret (v := .agg #[.int .i64 0, .int .i64 0]) ?_ rfl (RStepQ.to HE.2 (by repeat (first | exact Fr.refl _ _ | (refine Fr.alloc ?_ _) | (refine Fr.drew ?_) | (refine Fr.drewN ?_ _) | (refine Fr.setCell ?_ (.inr (by simp; try omega)) _))))
  exact results_cell_row Try.results44 _ _ w.heap.size 65 _ (0, 0) _ rfl (HE.1.fr (S := []) (by repeat (first | exact Fr.refl _ _ | (refine Fr.alloc ?_ _) | (refine Fr.drew ?_) | (refine Fr.drewN ?_ _) | (refine Fr.setCell ?_ (.inr (by simp; try omega)) _))) (by simp)) Try.underlying65 rfl (by kernel_rfl)
set_option maxHeartbeats 8000000 in
theorem rs_26_1 (y q G bt mm cap : Nat) (x : Vm) (st : St) (A : Option Addr) (t : List Pg) (w : World) (h : RPre w y q G bt mm cap A t x st) (a b : Nat) (m : Int) (hz : x.r a ≠ 0) (hf : fetI x st t = (⟨26, a, b, m⟩, 0)) :
    Calls Try.prog 44 #[ptr y, ptr q, .slice A mm cap] w (RStepQ w y q G (0, 0) (putP x ((((x.pl + 4) % 4294967296) + 4 * m) % 4294967296)) st) := by
  have Hmd := Lib.hid h.md
  have HL := Lib.hid rLow_any
  obtain ⟨f1, f2, f3⟩ := fet_parts hf
  obtain ⟨ai, bi, mi, ok⟩ := fet_good hf
  have HRd := Lib.hid (fun W (h : RMd w y q G bt mm cap A t x st W) => h.read)
  have HDc := Lib.hid (fun W (h : RMd w y q G bt mm cap A t x st W) => h.dec ⟨(rdR st t x.pl 4 4).1.toArray⟩)
  rw [f3] at HDc
  rw [f2] at HRd
  have HT := Lib.hid (fun n W (h : RMd w y q G bt mm cap A t x st W) => h.trap n)
  have hyl := h.hv.lt
  have c17 := h.hv.waits
  have c16 := h.hv.place
  rw [f1] at c17
  have hp0 : 0 ≤ x.pl := h.hv.p.1
  have hp1 : x.pl < 4294967296 := h.hv.p.2
  have ha0 : 0 ≤ x.r a := (h.hv.r a).1
  have ha1 : x.r a < 4294967296 := (h.hv.r a).2
  have hb0 : 0 ≤ x.r b := (h.hv.r b).1
  have hb1 : x.r b < 4294967296 := (h.hv.r b).2
  have HK := Lib.hid (fun W (h : RMd w y q G bt mm cap A t x st W) => (show W.cell? ⟨w.heap.size, 0, none⟩ = some (.int .i64 0) ∧ W.cell? ⟨w.heap.size, 1, none⟩ = some (.int .i64 0) ∧ (∀ i, W.frozen? ⟨w.heap.size, i, none⟩ = false) ∧ W.cell? ⟨y, a, none⟩ = some (.int .i64 (x.r a)) ∧ W.cell? ⟨y, b, none⟩ = some (.int .i64 (x.r b)) ∧ W.cell? ⟨y, 16, none⟩ = some (.int .i64 x.pl) ∧ (∀ i, W.frozen? ⟨y, i, none⟩ = false) ∧ y < W.heap.size ∧ w.heap.size < W.heap.size ∧ y ≠ w.heap.size ∧ W.cell? ⟨y, 17, none⟩ = some (.bool x.wt) from ⟨h.ev.cell 0, h.ev.cell 1, h.ev.frozen, h.hv.reg ai, h.hv.reg bi, h.hv.place, h.hv.frozen, h.hv.lt, h.lt, (h.hv.ne_ h.ev (by decide)).symm, h.hv.waits⟩))
  have HA := Lib.hid ai
  have haN : (0 : Int) ≤ (a : Int) := by omega
  have hbN : (0 : Int) ≤ (b : Int) := by omega
  have haM : (a : Int) < 16 := by omega
  have hbM : (b : Int) < 16 := by omega
  have hm0 := mi.1
  have hm1 := mi.2
  have eT : ((((x.pl + 4) % 4294967296) + 4 * m) % 4294967296) = ((x.pl + 4 + 4 * m) % 4294967296) := by omega
  rw [eT]
  clear eT
  have hzb : (x.r a == 0) = false := beq_eq_false_iff_ne.2 hz
  have hzb2 : (x.r a != 0) = true := bne_iff_ne.2 hz
  clear h hf f1 f2 f3 ok mi ai bi
  generalize x.r a = ra at *
  go_enter Try.func44, Try.ntmps44
  go_wp2_with (first
    | (go_at_call 65; refine (HRd.out _ Hmd.out).mono ?_; rintro e w1 ⟨rfl, hm1⟩; have Hm1 := Lib.hid hm1; clear hm1 c16 c17)
    | (go_at_call 82; refine (HDc.out _ Hm1.out).mono ?_; rintro e w2 ⟨rfl, hm2⟩; obtain ⟨e0, e1, ef, ca, cb, c16, yf, yl, el, ne, c17⟩ := HK.out _ hm2; have Hm2 := Lib.hid hm2; clear hm2)
    | fail)
  go_region
  go_wp2_with (first | (go_at_call 28; refine (HL.out _ _).mono ?_; unfold low; rintro e w3 ⟨rfl, rfl⟩) | fail)
  have HE := Hm2.out.fin0 (nx := ((x.pl + 4 + 4 * m) % 4294967296)) (by unfold u32b; omega) 0 0
  refine bodyPost_ret (v := .agg #[.int .i64 0, .int .i64 0]) ?_ rfl (RStepQ.to HE.2 (by repeat (first | exact Fr.refl _ _ | (refine Fr.alloc ?_ _) | (refine Fr.drew ?_) | (refine Fr.drewN ?_ _) | (refine Fr.setCell ?_ (.inr (by simp; try omega)) _))))
  exact results_cell_row Try.results44 _ _ w.heap.size 65 _ (0, 0) _ rfl (HE.1.fr (S := []) (by repeat (first | exact Fr.refl _ _ | (refine Fr.alloc ?_ _) | (refine Fr.drew ?_) | (refine Fr.drewN ?_ _) | (refine Fr.setCell ?_ (.inr (by simp; try omega)) _))) (by simp)) Try.underlying65 rfl (by kernel_rfl)
set_option maxHeartbeats 8000000 in
theorem rs_27 (y q G bt mm cap : Nat) (x : Vm) (st : St) (A : Option Addr) (t : List Pg) (w : World) (h : RPre w y q G bt mm cap A t x st) (a b : Nat) (m : Int) (hf : fetI x st t = (⟨27, a, b, m⟩, 0)) :
    Calls Try.prog 44 #[ptr y, ptr q, .slice A mm cap] w (RStepQ w y q G (0, 0) (putP x (x.r a)) st) := by
  have Hmd := Lib.hid h.md
  have HL := Lib.hid rLow_any
  obtain ⟨f1, f2, f3⟩ := fet_parts hf
  obtain ⟨ai, bi, mi, ok⟩ := fet_good hf
  have HRd := Lib.hid (fun W (h : RMd w y q G bt mm cap A t x st W) => h.read)
  have HDc := Lib.hid (fun W (h : RMd w y q G bt mm cap A t x st W) => h.dec ⟨(rdR st t x.pl 4 4).1.toArray⟩)
  rw [f3] at HDc
  rw [f2] at HRd
  have HT := Lib.hid (fun n W (h : RMd w y q G bt mm cap A t x st W) => h.trap n)
  have hyl := h.hv.lt
  have c17 := h.hv.waits
  have c16 := h.hv.place
  rw [f1] at c17
  have hp0 : 0 ≤ x.pl := h.hv.p.1
  have hp1 : x.pl < 4294967296 := h.hv.p.2
  have ha0 : 0 ≤ x.r a := (h.hv.r a).1
  have ha1 : x.r a < 4294967296 := (h.hv.r a).2
  have hb0 : 0 ≤ x.r b := (h.hv.r b).1
  have hb1 : x.r b < 4294967296 := (h.hv.r b).2
  have HK := Lib.hid (fun W (h : RMd w y q G bt mm cap A t x st W) => (show W.cell? ⟨w.heap.size, 0, none⟩ = some (.int .i64 0) ∧ W.cell? ⟨w.heap.size, 1, none⟩ = some (.int .i64 0) ∧ (∀ i, W.frozen? ⟨w.heap.size, i, none⟩ = false) ∧ W.cell? ⟨y, a, none⟩ = some (.int .i64 (x.r a)) ∧ W.cell? ⟨y, b, none⟩ = some (.int .i64 (x.r b)) ∧ W.cell? ⟨y, 16, none⟩ = some (.int .i64 x.pl) ∧ (∀ i, W.frozen? ⟨y, i, none⟩ = false) ∧ y < W.heap.size ∧ w.heap.size < W.heap.size ∧ y ≠ w.heap.size ∧ W.cell? ⟨y, 17, none⟩ = some (.bool x.wt) from ⟨h.ev.cell 0, h.ev.cell 1, h.ev.frozen, h.hv.reg ai, h.hv.reg bi, h.hv.place, h.hv.frozen, h.hv.lt, h.lt, (h.hv.ne_ h.ev (by decide)).symm, h.hv.waits⟩))
  have HA := Lib.hid ai
  have haN : (0 : Int) ≤ (a : Int) := by omega
  have hbN : (0 : Int) ≤ (b : Int) := by omega
  have haM : (a : Int) < 16 := by omega
  have hbM : (b : Int) < 16 := by omega
  have hm0 := mi.1
  have hm1 := mi.2
  clear h hf f1 f2 f3 ok mi ai bi
  go_enter Try.func44, Try.ntmps44
  go_wp2_with (first
    | (go_at_call 65; refine (HRd.out _ Hmd.out).mono ?_; rintro e w1 ⟨rfl, hm1⟩; have Hm1 := Lib.hid hm1; clear hm1 c16 c17)
    | (go_at_call 82; refine (HDc.out _ Hm1.out).mono ?_; rintro e w2 ⟨rfl, hm2⟩; obtain ⟨e0, e1, ef, ca, cb, c16, yf, yl, el, ne, c17⟩ := HK.out _ hm2; have Hm2 := Lib.hid hm2; clear hm2)
    | fail)
  go_region
  go_wp2_with (first | (go_at_call 28; refine (HL.out _ _).mono ?_; unfold low; rintro e w3 ⟨rfl, rfl⟩) | fail)
  have HE := Hm2.out.fin0 (nx := x.r a) (by unfold u32b; omega) 0 0
  refine bodyPost_ret (v := .agg #[.int .i64 0, .int .i64 0]) ?_ rfl (RStepQ.to HE.2 (by repeat (first | exact Fr.refl _ _ | (refine Fr.alloc ?_ _) | (refine Fr.drew ?_) | (refine Fr.drewN ?_ _) | (refine Fr.setCell ?_ (.inr (by simp; try omega)) _))))
  exact results_cell_row Try.results44 _ _ w.heap.size 65 _ (0, 0) _ rfl (HE.1.fr (S := []) (by repeat (first | exact Fr.refl _ _ | (refine Fr.alloc ?_ _) | (refine Fr.drew ?_) | (refine Fr.drewN ?_ _) | (refine Fr.setCell ?_ (.inr (by simp; try omega)) _))) (by simp)) Try.underlying65 rfl (by kernel_rfl)
set_option maxHeartbeats 8000000 in
theorem rs_28 (y q G bt mm cap : Nat) (x : Vm) (st : St) (A : Option Addr) (t : List Pg) (w : World) (h : RPre w y q G bt mm cap A t x st) (a b : Nat) (m : Int) (hf : fetI x st t = (⟨28, a, b, m⟩, 0)) :
    Calls Try.prog 44 #[ptr y, ptr q, .slice A mm cap] w (RStepQ w y q G (0, 0) (putP (putR x a ((x.pl + 4) % 4294967296)) ((((x.pl + 4) % 4294967296) + 4 * m) % 4294967296)) st) := by
  have Hmd := Lib.hid h.md
  have HL := Lib.hid rLow_any
  obtain ⟨f1, f2, f3⟩ := fet_parts hf
  obtain ⟨ai, bi, mi, ok⟩ := fet_good hf
  have HRd := Lib.hid (fun W (h : RMd w y q G bt mm cap A t x st W) => h.read)
  have HDc := Lib.hid (fun W (h : RMd w y q G bt mm cap A t x st W) => h.dec ⟨(rdR st t x.pl 4 4).1.toArray⟩)
  rw [f3] at HDc
  rw [f2] at HRd
  have HT := Lib.hid (fun n W (h : RMd w y q G bt mm cap A t x st W) => h.trap n)
  have hyl := h.hv.lt
  have c17 := h.hv.waits
  have c16 := h.hv.place
  rw [f1] at c17
  have hp0 : 0 ≤ x.pl := h.hv.p.1
  have hp1 : x.pl < 4294967296 := h.hv.p.2
  have ha0 : 0 ≤ x.r a := (h.hv.r a).1
  have ha1 : x.r a < 4294967296 := (h.hv.r a).2
  have hb0 : 0 ≤ x.r b := (h.hv.r b).1
  have hb1 : x.r b < 4294967296 := (h.hv.r b).2
  have HK := Lib.hid (fun W (h : RMd w y q G bt mm cap A t x st W) => (show W.cell? ⟨w.heap.size, 0, none⟩ = some (.int .i64 0) ∧ W.cell? ⟨w.heap.size, 1, none⟩ = some (.int .i64 0) ∧ (∀ i, W.frozen? ⟨w.heap.size, i, none⟩ = false) ∧ W.cell? ⟨y, a, none⟩ = some (.int .i64 (x.r a)) ∧ W.cell? ⟨y, b, none⟩ = some (.int .i64 (x.r b)) ∧ W.cell? ⟨y, 16, none⟩ = some (.int .i64 x.pl) ∧ (∀ i, W.frozen? ⟨y, i, none⟩ = false) ∧ y < W.heap.size ∧ w.heap.size < W.heap.size ∧ y ≠ w.heap.size ∧ W.cell? ⟨y, 17, none⟩ = some (.bool x.wt) from ⟨h.ev.cell 0, h.ev.cell 1, h.ev.frozen, h.hv.reg ai, h.hv.reg bi, h.hv.place, h.hv.frozen, h.hv.lt, h.lt, (h.hv.ne_ h.ev (by decide)).symm, h.hv.waits⟩))
  have HA := Lib.hid ai
  have haN : (0 : Int) ≤ (a : Int) := by omega
  have hbN : (0 : Int) ≤ (b : Int) := by omega
  have haM : (a : Int) < 16 := by omega
  have hbM : (b : Int) < 16 := by omega
  have hm0 := mi.1
  have hm1 := mi.2
  have eT : ((((x.pl + 4) % 4294967296) + 4 * m) % 4294967296) = ((x.pl + 4 + 4 * m) % 4294967296) := by omega
  rw [eT]
  clear eT
  clear h hf f1 f2 f3 ok mi ai bi
  go_enter Try.func44, Try.ntmps44
  go_wp2_with (first
    | (go_at_call 65; refine (HRd.out _ Hmd.out).mono ?_; rintro e w1 ⟨rfl, hm1⟩; have Hm1 := Lib.hid hm1; clear hm1 c16 c17)
    | (go_at_call 82; refine (HDc.out _ Hm1.out).mono ?_; rintro e w2 ⟨rfl, hm2⟩; obtain ⟨e0, e1, ef, ca, cb, c16, yf, yl, el, ne, c17⟩ := HK.out _ hm2; have Hm2 := Lib.hid hm2; clear hm2)
    | fail)
  go_region
  go_wp2_with (first | (go_at_call 28; refine (HL.out _ _).mono ?_; unfold low; rintro e w3 ⟨rfl, rfl⟩) | fail)
  go_region
  go_wp2_with fail
  have HE := Hm2.out.finR HA.out (v := ((x.pl + 4) % 4294967296)) (nx := ((x.pl + 4 + 4 * m) % 4294967296)) (by unfold u32b; omega) (by unfold u32b; omega)
  refine bodyPost_ret (v := .agg #[.int .i64 0, .int .i64 0]) ?_ rfl (RStepQ.to HE.2 (by repeat (first | exact Fr.refl _ _ | (refine Fr.alloc ?_ _) | (refine Fr.drew ?_) | (refine Fr.drewN ?_ _) | (refine Fr.setCell ?_ (.inr (by simp; try omega)) _))))
  exact results_cell_row Try.results44 _ _ w.heap.size 65 _ (0, 0) _ rfl (HE.1.fr (S := []) (by repeat (first | exact Fr.refl _ _ | (refine Fr.alloc ?_ _) | (refine Fr.drew ?_) | (refine Fr.drewN ?_ _) | (refine Fr.setCell ?_ (.inr (by simp; try omega)) _))) (by simp)) Try.underlying65 rfl (by kernel_rfl)
set_option maxHeartbeats 8000000 in
theorem rs_29 (y q G bt mm cap : Nat) (x : Vm) (st : St) (A : Option Addr) (t : List Pg) (w : World) (h : RPre w y q G bt mm cap A t x st) (a b : Nat) (m : Int) (hf : fetI x st t = (⟨29, a, b, m⟩, 0)) :
    Calls Try.prog 44 #[ptr y, ptr q, .slice A mm cap] w (RStepQ w y q G (3, m) (putP (putW x true) ((x.pl + 4) % 4294967296)) st) := by
  have Hmd := Lib.hid h.md
  have HL := Lib.hid rLow_any
  obtain ⟨f1, f2, f3⟩ := fet_parts hf
  obtain ⟨ai, bi, mi, ok⟩ := fet_good hf
  have HRd := Lib.hid (fun W (h : RMd w y q G bt mm cap A t x st W) => h.read)
  have HDc := Lib.hid (fun W (h : RMd w y q G bt mm cap A t x st W) => h.dec ⟨(rdR st t x.pl 4 4).1.toArray⟩)
  rw [f3] at HDc
  rw [f2] at HRd
  have HT := Lib.hid (fun n W (h : RMd w y q G bt mm cap A t x st W) => h.trap n)
  have hyl := h.hv.lt
  have c17 := h.hv.waits
  have c16 := h.hv.place
  rw [f1] at c17
  have hp0 : 0 ≤ x.pl := h.hv.p.1
  have hp1 : x.pl < 4294967296 := h.hv.p.2
  have ha0 : 0 ≤ x.r a := (h.hv.r a).1
  have ha1 : x.r a < 4294967296 := (h.hv.r a).2
  have hb0 : 0 ≤ x.r b := (h.hv.r b).1
  have hb1 : x.r b < 4294967296 := (h.hv.r b).2
  have HK := Lib.hid (fun W (h : RMd w y q G bt mm cap A t x st W) => (show W.cell? ⟨w.heap.size, 0, none⟩ = some (.int .i64 0) ∧ W.cell? ⟨w.heap.size, 1, none⟩ = some (.int .i64 0) ∧ (∀ i, W.frozen? ⟨w.heap.size, i, none⟩ = false) ∧ W.cell? ⟨y, a, none⟩ = some (.int .i64 (x.r a)) ∧ W.cell? ⟨y, b, none⟩ = some (.int .i64 (x.r b)) ∧ W.cell? ⟨y, 16, none⟩ = some (.int .i64 x.pl) ∧ (∀ i, W.frozen? ⟨y, i, none⟩ = false) ∧ y < W.heap.size ∧ w.heap.size < W.heap.size ∧ y ≠ w.heap.size ∧ W.cell? ⟨y, 17, none⟩ = some (.bool x.wt) from ⟨h.ev.cell 0, h.ev.cell 1, h.ev.frozen, h.hv.reg ai, h.hv.reg bi, h.hv.place, h.hv.frozen, h.hv.lt, h.lt, (h.hv.ne_ h.ev (by decide)).symm, h.hv.waits⟩))
  have HA := Lib.hid ai
  have haN : (0 : Int) ≤ (a : Int) := by omega
  have hbN : (0 : Int) ≤ (b : Int) := by omega
  have haM : (a : Int) < 16 := by omega
  have hbM : (b : Int) < 16 := by omega
  have hm0 := mi.1
  have hm1 := mi.2
  clear h hf f1 f2 f3 ok mi ai bi
  go_enter Try.func44, Try.ntmps44
  go_wp2_with (first
    | (go_at_call 65; refine (HRd.out _ Hmd.out).mono ?_; rintro e w1 ⟨rfl, hm1⟩; have Hm1 := Lib.hid hm1; clear hm1 c16 c17)
    | (go_at_call 82; refine (HDc.out _ Hm1.out).mono ?_; rintro e w2 ⟨rfl, hm2⟩; obtain ⟨e0, e1, ef, ca, cb, c16, yf, yl, el, ne, c17⟩ := HK.out _ hm2; have Hm2 := Lib.hid hm2; clear hm2)
    | fail)
  go_region
  go_wp2_with (first | (go_at_call 28; refine (HL.out _ _).mono ?_; unfold low; rintro e w3 ⟨rfl, rfl⟩) | fail)
  have HE := Hm2.out.finW (nx := ((x.pl + 4) % 4294967296)) (by unfold u32b; omega) 3 m
  refine bodyPost_ret (v := .agg #[.int .i64 3, .int .i64 m]) ?_ rfl (RStepQ.to HE.2 (by repeat (first | exact Fr.refl _ _ | (refine Fr.alloc ?_ _) | (refine Fr.drew ?_) | (refine Fr.drewN ?_ _) | (refine Fr.setCell ?_ (.inr (by simp; try omega)) _))))
  exact results_cell_row Try.results44 _ _ w.heap.size 65 _ (0, 0) _ rfl (HE.1.fr (S := []) (by repeat (first | exact Fr.refl _ _ | (refine Fr.alloc ?_ _) | (refine Fr.drew ?_) | (refine Fr.drewN ?_ _) | (refine Fr.setCell ?_ (.inr (by simp; try omega)) _))) (by simp)) Try.underlying65 rfl (by kernel_rfl)
end Go.Proofs.Ytonongaakieciaa
