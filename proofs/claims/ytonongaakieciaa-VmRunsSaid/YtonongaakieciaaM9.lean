/- The document's machine: its step, by operations (printed by genM5.py). The document's machine: its step, by operations (printed by genM5.py). The document's machine: its step, by operations (printed by genM5.py). -/
import Derived.Test.YtonongaakieciaaM4
import Derived.Deep.RegionLaw
namespace Go.Proofs.Ytonongaakieciaa
open Go.RowKit
set_option linter.unusedVariables false
set_option linter.unusedSimpArgs false
set_option maxRecDepth 100000
set_option maxHeartbeats 8000000 in
theorem rs_0 (y q G bt mm cap : Nat) (x : Vm) (st : St) (A : Option Addr) (t : List Pg) (w : World) (h : RPre w y q G bt mm cap A t x st) (a b : Nat) (m : Int) (hf : fetI x st t = (⟨0, a, b, m⟩, 0)) :
    Calls Try.prog 44 #[ptr y, ptr q, .slice A mm cap] w (RStepQ w y q G (0, 0) (putP x ((x.pl + 4) % 4294967296)) st) := by
  have Hmd := Lib.hid h.md
  have HL := Lib.hid rLow_any
  obtain ⟨f1, f2, f3⟩ := fet_parts hf
  obtain ⟨ai, bi, mi, ok⟩ := fet_good hf
  have HRd := Lib.hid (fun W (h : RMd w y q G bt mm cap A t x st W) => h.read)
  have HDc := Lib.hid (fun W (h : RMd w y q G bt mm cap A t x st W) => h.dec ⟨(rdR st t x.pl 4 4).1.toArray⟩)
  rw [f3] at HDc
  rw [f2] at HRd
  have HT := Lib.hid (fun n W (h : RMd w y q G bt mm cap A t x st W) => h.trap n)
  have hyl := h.hv.lt
  have c17 := h.hv.waits
  have c16 := h.hv.place
  rw [f1] at c17
  have hp0 : 0 ≤ x.pl := h.hv.p.1
  have hp1 : x.pl < 4294967296 := h.hv.p.2
  have ha0 : 0 ≤ x.r a := (h.hv.r a).1
  have ha1 : x.r a < 4294967296 := (h.hv.r a).2
  have hb0 : 0 ≤ x.r b := (h.hv.r b).1
  have hb1 : x.r b < 4294967296 := (h.hv.r b).2
  have HK := Lib.hid (fun W (h : RMd w y q G bt mm cap A t x st W) => (show W.cell? ⟨w.heap.size, 0, none⟩ = some (.int .i64 0) ∧ W.cell? ⟨w.heap.size, 1, none⟩ = some (.int .i64 0) ∧ (∀ i, W.frozen? ⟨w.heap.size, i, none⟩ = false) ∧ W.cell? ⟨y, a, none⟩ = some (.int .i64 (x.r a)) ∧ W.cell? ⟨y, b, none⟩ = some (.int .i64 (x.r b)) ∧ W.cell? ⟨y, 16, none⟩ = some (.int .i64 x.pl) ∧ (∀ i, W.frozen? ⟨y, i, none⟩ = false) ∧ y < W.heap.size ∧ w.heap.size < W.heap.size ∧ y ≠ w.heap.size ∧ W.cell? ⟨y, 17, none⟩ = some (.bool x.wt) from ⟨h.ev.cell 0, h.ev.cell 1, h.ev.frozen, h.hv.reg ai, h.hv.reg bi, h.hv.place, h.hv.frozen, h.hv.lt, h.lt, (h.hv.ne_ h.ev (by decide)).symm, h.hv.waits⟩))
  have HA := Lib.hid ai
  have haN : (0 : Int) ≤ (a : Int) := by omega
  have hbN : (0 : Int) ≤ (b : Int) := by omega
  have haM : (a : Int) < 16 := by omega
  have hbM : (b : Int) < 16 := by omega
  have hm0 := mi.1
  have hm1 := mi.2
  clear h hf f1 f2 f3 ok mi ai bi
  go_enter Try.func44, Try.ntmps44
  go_wp2_with (first
    | (go_at_call 65; refine (HRd.out _ Hmd.out).mono ?_; rintro e w1 ⟨rfl, hm1⟩; have Hm1 := Lib.hid hm1; clear hm1 c16 c17)
    | (go_at_call 82; refine (HDc.out _ Hm1.out).mono ?_; rintro e w2 ⟨rfl, hm2⟩; obtain ⟨e0, e1, ef, ca, cb, c16, yf, yl, el, ne, c17⟩ := HK.out _ hm2; have Hm2 := Lib.hid hm2; clear hm2)
    | fail)
  go_region
  go_wp2_with (first | (go_at_call 28; refine (HL.out _ _).mono ?_; unfold low; rintro e w3 ⟨rfl, rfl⟩) | fail)
  have HE := Hm2.out.fin0 (nx := ((x.pl + 4) % 4294967296)) (by unfold u32b; omega) 0 0
  refine bodyPost_ret (v := .agg #[.int .i64 0, .int .i64 0]) ?_ rfl (RStepQ.to HE.2 (by repeat (first | exact Fr.refl _ _ | (refine Fr.alloc ?_ _) | (refine Fr.drew ?_) | (refine Fr.drewN ?_ _) | (refine Fr.setCell ?_ (.inr (by simp; try omega)) _))))
  exact results_cell_row Try.results44 _ _ w.heap.size 65 _ (0, 0) _ rfl (HE.1.fr (S := []) (by repeat (first | exact Fr.refl _ _ | (refine Fr.alloc ?_ _) | (refine Fr.drew ?_) | (refine Fr.drewN ?_ _) | (refine Fr.setCell ?_ (.inr (by simp; try omega)) _))) (by simp)) Try.underlying65 rfl (by kernel_rfl)
set_option maxHeartbeats 8000000 in
theorem rs_1 (y q G bt mm cap : Nat) (x : Vm) (st : St) (A : Option Addr) (t : List Pg) (w : World) (h : RPre w y q G bt mm cap A t x st) (a b : Nat) (m : Int) (hf : fetI x st t = (⟨1, a, b, m⟩, 0)) :
    Calls Try.prog 44 #[ptr y, ptr q, .slice A mm cap] w (RStepQ w y q G (1, 0) x st) := by
  have Hmd := Lib.hid h.md
  have HL := Lib.hid rLow_any
  obtain ⟨f1, f2, f3⟩ := fet_parts hf
  obtain ⟨ai, bi, mi, ok⟩ := fet_good hf
  have HRd := Lib.hid (fun W (h : RMd w y q G bt mm cap A t x st W) => h.read)
  have HDc := Lib.hid (fun W (h : RMd w y q G bt mm cap A t x st W) => h.dec ⟨(rdR st t x.pl 4 4).1.toArray⟩)
  rw [f3] at HDc
  rw [f2] at HRd
  have HT := Lib.hid (fun n W (h : RMd w y q G bt mm cap A t x st W) => h.trap n)
  have hyl := h.hv.lt
  have c17 := h.hv.waits
  have c16 := h.hv.place
  rw [f1] at c17
  have hp0 : 0 ≤ x.pl := h.hv.p.1
  have hp1 : x.pl < 4294967296 := h.hv.p.2
  have ha0 : 0 ≤ x.r a := (h.hv.r a).1
  have ha1 : x.r a < 4294967296 := (h.hv.r a).2
  have hb0 : 0 ≤ x.r b := (h.hv.r b).1
  have hb1 : x.r b < 4294967296 := (h.hv.r b).2
  have HK := Lib.hid (fun W (h : RMd w y q G bt mm cap A t x st W) => (show W.cell? ⟨w.heap.size, 0, none⟩ = some (.int .i64 0) ∧ W.cell? ⟨w.heap.size, 1, none⟩ = some (.int .i64 0) ∧ (∀ i, W.frozen? ⟨w.heap.size, i, none⟩ = false) ∧ W.cell? ⟨y, a, none⟩ = some (.int .i64 (x.r a)) ∧ W.cell? ⟨y, b, none⟩ = some (.int .i64 (x.r b)) ∧ W.cell? ⟨y, 16, none⟩ = some (.int .i64 x.pl) ∧ (∀ i, W.frozen? ⟨y, i, none⟩ = false) ∧ y < W.heap.size ∧ w.heap.size < W.heap.size ∧ y ≠ w.heap.size ∧ W.cell? ⟨y, 17, none⟩ = some (.bool x.wt) from ⟨h.ev.cell 0, h.ev.cell 1, h.ev.frozen, h.hv.reg ai, h.hv.reg bi, h.hv.place, h.hv.frozen, h.hv.lt, h.lt, (h.hv.ne_ h.ev (by decide)).symm, h.hv.waits⟩))
  have HA := Lib.hid ai
  have haN : (0 : Int) ≤ (a : Int) := by omega
  have hbN : (0 : Int) ≤ (b : Int) := by omega
  have haM : (a : Int) < 16 := by omega
  have hbM : (b : Int) < 16 := by omega
  have hm0 := mi.1
  have hm1 := mi.2
  clear h hf f1 f2 f3 ok mi ai bi
  go_enter Try.func44, Try.ntmps44
  go_wp2_with (first
    | (go_at_call 65; refine (HRd.out _ Hmd.out).mono ?_; rintro e w1 ⟨rfl, hm1⟩; have Hm1 := Lib.hid hm1; clear hm1 c16 c17)
    | (go_at_call 82; refine (HDc.out _ Hm1.out).mono ?_; rintro e w2 ⟨rfl, hm2⟩; obtain ⟨e0, e1, ef, ca, cb, c16, yf, yl, el, ne, c17⟩ := HK.out _ hm2; have Hm2 := Lib.hid hm2; clear hm2)
    | fail)
  go_region
  go_wp2_with (first | (go_at_call 28; refine (HL.out _ _).mono ?_; unfold low; rintro e w3 ⟨rfl, rfl⟩) | fail)
  have HE := rev_end Hm2.out.hv Hm2.out.hm (Hm2.out.fr.mono (by simp)) Hm2.out.ev 1 0
  refine bodyPost_ret (v := .agg #[.int .i64 1, .int .i64 0]) ?_ rfl (RStepQ.to HE.2 (by repeat (first | exact Fr.refl _ _ | (refine Fr.alloc ?_ _) | (refine Fr.drew ?_) | (refine Fr.drewN ?_ _) | (refine Fr.setCell ?_ (.inr (by simp; try omega)) _))))
  exact results_cell_row Try.results44 _ _ w.heap.size 65 _ (0, 0) _ rfl (HE.1.fr (S := []) (by repeat (first | exact Fr.refl _ _ | (refine Fr.alloc ?_ _) | (refine Fr.drew ?_) | (refine Fr.drewN ?_ _) | (refine Fr.setCell ?_ (.inr (by simp; try omega)) _))) (by simp)) Try.underlying65 rfl (by kernel_rfl)
set_option maxHeartbeats 8000000 in
theorem rs_2 (y q G bt mm cap : Nat) (x : Vm) (st : St) (A : Option Addr) (t : List Pg) (w : World) (h : RPre w y q G bt mm cap A t x st) (a b : Nat) (m : Int) (hf : fetI x st t = (⟨2, a, b, m⟩, 0)) :
    Calls Try.prog 44 #[ptr y, ptr q, .slice A mm cap] w (RStepQ w y q G (0, 0) (putP (putR x a (m % 4294967296)) ((x.pl + 4) % 4294967296)) st) := by
  have Hmd := Lib.hid h.md
  have HL := Lib.hid rLow_any
  obtain ⟨f1, f2, f3⟩ := fet_parts hf
  obtain ⟨ai, bi, mi, ok⟩ := fet_good hf
  have HRd := Lib.hid (fun W (h : RMd w y q G bt mm cap A t x st W) => h.read)
  have HDc := Lib.hid (fun W (h : RMd w y q G bt mm cap A t x st W) => h.dec ⟨(rdR st t x.pl 4 4).1.toArray⟩)
  rw [f3] at HDc
  rw [f2] at HRd
  have HT := Lib.hid (fun n W (h : RMd w y q G bt mm cap A t x st W) => h.trap n)
  have hyl := h.hv.lt
  have c17 := h.hv.waits
  have c16 := h.hv.place
  rw [f1] at c17
  have hp0 : 0 ≤ x.pl := h.hv.p.1
  have hp1 : x.pl < 4294967296 := h.hv.p.2
  have ha0 : 0 ≤ x.r a := (h.hv.r a).1
  have ha1 : x.r a < 4294967296 := (h.hv.r a).2
  have hb0 : 0 ≤ x.r b := (h.hv.r b).1
  have hb1 : x.r b < 4294967296 := (h.hv.r b).2
  have HK := Lib.hid (fun W (h : RMd w y q G bt mm cap A t x st W) => (show W.cell? ⟨w.heap.size, 0, none⟩ = some (.int .i64 0) ∧ W.cell? ⟨w.heap.size, 1, none⟩ = some (.int .i64 0) ∧ (∀ i, W.frozen? ⟨w.heap.size, i, none⟩ = false) ∧ W.cell? ⟨y, a, none⟩ = some (.int .i64 (x.r a)) ∧ W.cell? ⟨y, b, none⟩ = some (.int .i64 (x.r b)) ∧ W.cell? ⟨y, 16, none⟩ = some (.int .i64 x.pl) ∧ (∀ i, W.frozen? ⟨y, i, none⟩ = false) ∧ y < W.heap.size ∧ w.heap.size < W.heap.size ∧ y ≠ w.heap.size ∧ W.cell? ⟨y, 17, none⟩ = some (.bool x.wt) from ⟨h.ev.cell 0, h.ev.cell 1, h.ev.frozen, h.hv.reg ai, h.hv.reg bi, h.hv.place, h.hv.frozen, h.hv.lt, h.lt, (h.hv.ne_ h.ev (by decide)).symm, h.hv.waits⟩))
  have HA := Lib.hid ai
  have haN : (0 : Int) ≤ (a : Int) := by omega
  have hbN : (0 : Int) ≤ (b : Int) := by omega
  have haM : (a : Int) < 16 := by omega
  have hbM : (b : Int) < 16 := by omega
  have hm0 := mi.1
  have hm1 := mi.2
  have hms := (okI_iff ok).2.2.2 (by decide)
  simp only at hms
  have hme : m % 4294967296 = m := by omega
  rw [hme]
  clear hme
  clear h hf f1 f2 f3 ok mi ai bi
  go_enter Try.func44, Try.ntmps44
  go_wp2_with (first
    | (go_at_call 65; refine (HRd.out _ Hmd.out).mono ?_; rintro e w1 ⟨rfl, hm1⟩; have Hm1 := Lib.hid hm1; clear hm1 c16 c17)
    | (go_at_call 82; refine (HDc.out _ Hm1.out).mono ?_; rintro e w2 ⟨rfl, hm2⟩; obtain ⟨e0, e1, ef, ca, cb, c16, yf, yl, el, ne, c17⟩ := HK.out _ hm2; have Hm2 := Lib.hid hm2; clear hm2)
    | fail)
  go_region
  go_wp2_with (first | (go_at_call 28; refine (HL.out _ _).mono ?_; unfold low; rintro e w3 ⟨rfl, rfl⟩) | fail)
  go_region
  go_wp2_with fail
  have HE := Hm2.out.finR HA.out (v := m) (nx := ((x.pl + 4) % 4294967296)) (by unfold u32b; omega) (by unfold u32b; omega)
  refine bodyPost_ret (v := .agg #[.int .i64 0, .int .i64 0]) ?_ rfl (RStepQ.to HE.2 (by repeat (first | exact Fr.refl _ _ | (refine Fr.alloc ?_ _) | (refine Fr.drew ?_) | (refine Fr.drewN ?_ _) | (refine Fr.setCell ?_ (.inr (by simp; try omega)) _))))
  exact results_cell_row Try.results44 _ _ w.heap.size 65 _ (0, 0) _ rfl (HE.1.fr (S := []) (by repeat (first | exact Fr.refl _ _ | (refine Fr.alloc ?_ _) | (refine Fr.drew ?_) | (refine Fr.drewN ?_ _) | (refine Fr.setCell ?_ (.inr (by simp; try omega)) _))) (by simp)) Try.underlying65 rfl (by kernel_rfl)
set_option maxHeartbeats 8000000 in
theorem rs_3 (y q G bt mm cap : Nat) (x : Vm) (st : St) (A : Option Addr) (t : List Pg) (w : World) (h : RPre w y q G bt mm cap A t x st) (a b : Nat) (m : Int) (hf : fetI x st t = (⟨3, a, b, m⟩, 0)) :
    Calls Try.prog 44 #[ptr y, ptr q, .slice A mm cap] w (RStepQ w y q G (0, 0) (putP (putR x a (hiV (x.r a) m)) ((x.pl + 4) % 4294967296)) st) := by
  have Hmd := Lib.hid h.md
  have HL := Lib.hid rLow_any
  obtain ⟨f1, f2, f3⟩ := fet_parts hf
  obtain ⟨ai, bi, mi, ok⟩ := fet_good hf
  have HRd := Lib.hid (fun W (h : RMd w y q G bt mm cap A t x st W) => h.read)
  have HDc := Lib.hid (fun W (h : RMd w y q G bt mm cap A t x st W) => h.dec ⟨(rdR st t x.pl 4 4).1.toArray⟩)
  rw [f3] at HDc
  rw [f2] at HRd
  have HT := Lib.hid (fun n W (h : RMd w y q G bt mm cap A t x st W) => h.trap n)
  have hyl := h.hv.lt
  have c17 := h.hv.waits
  have c16 := h.hv.place
  rw [f1] at c17
  have hp0 : 0 ≤ x.pl := h.hv.p.1
  have hp1 : x.pl < 4294967296 := h.hv.p.2
  have ha0 : 0 ≤ x.r a := (h.hv.r a).1
  have ha1 : x.r a < 4294967296 := (h.hv.r a).2
  have hb0 : 0 ≤ x.r b := (h.hv.r b).1
  have hb1 : x.r b < 4294967296 := (h.hv.r b).2
  have HK := Lib.hid (fun W (h : RMd w y q G bt mm cap A t x st W) => (show W.cell? ⟨w.heap.size, 0, none⟩ = some (.int .i64 0) ∧ W.cell? ⟨w.heap.size, 1, none⟩ = some (.int .i64 0) ∧ (∀ i, W.frozen? ⟨w.heap.size, i, none⟩ = false) ∧ W.cell? ⟨y, a, none⟩ = some (.int .i64 (x.r a)) ∧ W.cell? ⟨y, b, none⟩ = some (.int .i64 (x.r b)) ∧ W.cell? ⟨y, 16, none⟩ = some (.int .i64 x.pl) ∧ (∀ i, W.frozen? ⟨y, i, none⟩ = false) ∧ y < W.heap.size ∧ w.heap.size < W.heap.size ∧ y ≠ w.heap.size ∧ W.cell? ⟨y, 17, none⟩ = some (.bool x.wt) from ⟨h.ev.cell 0, h.ev.cell 1, h.ev.frozen, h.hv.reg ai, h.hv.reg bi, h.hv.place, h.hv.frozen, h.hv.lt, h.lt, (h.hv.ne_ h.ev (by decide)).symm, h.hv.waits⟩))
  have HA := Lib.hid ai
  have haN : (0 : Int) ≤ (a : Int) := by omega
  have hbN : (0 : Int) ≤ (b : Int) := by omega
  have haM : (a : Int) < 16 := by omega
  have hbM : (b : Int) < 16 := by omega
  have hm0 := mi.1
  have hm1 := mi.2
  have hms := (okI_iff ok).2.2.2 (by decide)
  simp only at hms
  rw [hi_eq _ _ ha0 ha1 hms.1 hms.2]
  clear h hf f1 f2 f3 ok mi ai bi
  generalize x.r a = ra at *
  go_enter Try.func44, Try.ntmps44
  go_wp2_with (first
    | (go_at_call 65; refine (HRd.out _ Hmd.out).mono ?_; rintro e w1 ⟨rfl, hm1⟩; have Hm1 := Lib.hid hm1; clear hm1 c16 c17)
    | (go_at_call 82; refine (HDc.out _ Hm1.out).mono ?_; rintro e w2 ⟨rfl, hm2⟩; obtain ⟨e0, e1, ef, ca, cb, c16, yf, yl, el, ne, c17⟩ := HK.out _ hm2; have Hm2 := Lib.hid hm2; clear hm2)
    | fail)
  go_region
  go_wp2_with (first | (go_at_call 28; refine (HL.out _ _).mono ?_; unfold low; rintro e w3 ⟨rfl, rfl⟩) | fail)
  go_region
  go_wp2_with fail
  have HE := Hm2.out.finR HA.out (v := ra % 65536 + 65536 * m) (nx := ((x.pl + 4) % 4294967296)) (by unfold u32b; omega) (by unfold u32b; omega)
  refine bodyPost_ret (v := .agg #[.int .i64 0, .int .i64 0]) ?_ rfl (RStepQ.to HE.2 (by repeat (first | exact Fr.refl _ _ | (refine Fr.alloc ?_ _) | (refine Fr.drew ?_) | (refine Fr.drewN ?_ _) | (refine Fr.setCell ?_ (.inr (by simp; try omega)) _))))
  exact results_cell_row Try.results44 _ _ w.heap.size 65 _ (0, 0) _ rfl (HE.1.fr (S := []) (by repeat (first | exact Fr.refl _ _ | (refine Fr.alloc ?_ _) | (refine Fr.drew ?_) | (refine Fr.drewN ?_ _) | (refine Fr.setCell ?_ (.inr (by simp; try omega)) _))) (by simp)) Try.underlying65 rfl (by kernel_rfl)
set_option maxHeartbeats 8000000 in
theorem rs_8_z (y q G bt mm cap : Nat) (x : Vm) (st : St) (A : Option Addr) (t : List Pg) (w : World) (h : RPre w y q G bt mm cap A t x st) (a b : Nat) (m : Int) (hz : x.r b = 0) (hf : fetI x st t = (⟨8, a, b, m⟩, 0)) :
    Calls Try.prog 44 #[ptr y, ptr q, .slice A mm cap] w (RStepQ w y q G (2, 5) x st) := by
  have Hmd := Lib.hid h.md
  have HL := Lib.hid rLow_any
  obtain ⟨f1, f2, f3⟩ := fet_parts hf
  obtain ⟨ai, bi, mi, ok⟩ := fet_good hf
  have HRd := Lib.hid (fun W (h : RMd w y q G bt mm cap A t x st W) => h.read)
  have HDc := Lib.hid (fun W (h : RMd w y q G bt mm cap A t x st W) => h.dec ⟨(rdR st t x.pl 4 4).1.toArray⟩)
  rw [f3] at HDc
  rw [f2] at HRd
  have HT := Lib.hid (fun n W (h : RMd w y q G bt mm cap A t x st W) => h.trap n)
  have hyl := h.hv.lt
  have c17 := h.hv.waits
  have c16 := h.hv.place
  rw [f1] at c17
  have hp0 : 0 ≤ x.pl := h.hv.p.1
  have hp1 : x.pl < 4294967296 := h.hv.p.2
  have ha0 : 0 ≤ x.r a := (h.hv.r a).1
  have ha1 : x.r a < 4294967296 := (h.hv.r a).2
  have hb0 : 0 ≤ x.r b := (h.hv.r b).1
  have hb1 : x.r b < 4294967296 := (h.hv.r b).2
  have HK := Lib.hid (fun W (h : RMd w y q G bt mm cap A t x st W) => (show W.cell? ⟨w.heap.size, 0, none⟩ = some (.int .i64 0) ∧ W.cell? ⟨w.heap.size, 1, none⟩ = some (.int .i64 0) ∧ (∀ i, W.frozen? ⟨w.heap.size, i, none⟩ = false) ∧ W.cell? ⟨y, a, none⟩ = some (.int .i64 (x.r a)) ∧ W.cell? ⟨y, b, none⟩ = some (.int .i64 (x.r b)) ∧ W.cell? ⟨y, 16, none⟩ = some (.int .i64 x.pl) ∧ (∀ i, W.frozen? ⟨y, i, none⟩ = false) ∧ y < W.heap.size ∧ w.heap.size < W.heap.size ∧ y ≠ w.heap.size ∧ W.cell? ⟨y, 17, none⟩ = some (.bool x.wt) from ⟨h.ev.cell 0, h.ev.cell 1, h.ev.frozen, h.hv.reg ai, h.hv.reg bi, h.hv.place, h.hv.frozen, h.hv.lt, h.lt, (h.hv.ne_ h.ev (by decide)).symm, h.hv.waits⟩))
  have HA := Lib.hid ai
  have haN : (0 : Int) ≤ (a : Int) := by omega
  have hbN : (0 : Int) ≤ (b : Int) := by omega
  have haM : (a : Int) < 16 := by omega
  have hbM : (b : Int) < 16 := by omega
  have hm0 := mi.1
  have hm1 := mi.2
  rw [hz] at HK
  clear hz hb0 hb1
  clear h hf f1 f2 f3 ok mi ai bi
  go_enter Try.func44, Try.ntmps44
  go_wp2_with (first
    | (go_at_call 65; refine (HRd.out _ Hmd.out).mono ?_; rintro e w1 ⟨rfl, hm1⟩; have Hm1 := Lib.hid hm1; clear hm1 c16 c17)
    | (go_at_call 82; refine (HDc.out _ Hm1.out).mono ?_; rintro e w2 ⟨rfl, hm2⟩; obtain ⟨e0, e1, ef, ca, cb, c16, yf, yl, el, ne, c17⟩ := HK.out _ hm2; have Hm2 := Lib.hid hm2; clear hm2)
    | fail)
  go_region
  go_wp2_with (first | (go_at_call 28; refine (HL.out _ _).mono ?_; unfold low; rintro e w3 ⟨rfl, rfl⟩) | (go_at_call 81; refine (HT.out 5 _ (Hm2.out.to (by repeat (first | exact Fr.refl _ _ | (refine Fr.alloc ?_ _) | (refine Fr.drew ?_) | (refine Fr.drewN ?_ _) | (refine Fr.setCell ?_ (.inr (by simp; try omega)) _))))).mono ?_; rintro e w4 ⟨rfl, hm4⟩; clear e0 e1 ef; obtain ⟨e0, e1, ef, -, -, -, -, -, el4, -, -⟩ := HK.out _ hm4; have Hm4 := Lib.hid hm4; clear hm4) | fail)
  have HE := rev_end Hm4.out.hv Hm4.out.hm (Hm4.out.fr.mono (by simp)) Hm4.out.ev 2 5
  refine bodyPost_ret (v := .agg #[.int .i64 2, .int .i64 5]) ?_ rfl (RStepQ.to HE.2 (by repeat (first | exact Fr.refl _ _ | (refine Fr.alloc ?_ _) | (refine Fr.drew ?_) | (refine Fr.drewN ?_ _) | (refine Fr.setCell ?_ (.inr (by simp; try omega)) _))))
  exact results_cell_row Try.results44 _ _ w.heap.size 65 _ (0, 0) _ rfl (HE.1.fr (S := []) (by repeat (first | exact Fr.refl _ _ | (refine Fr.alloc ?_ _) | (refine Fr.drew ?_) | (refine Fr.drewN ?_ _) | (refine Fr.setCell ?_ (.inr (by simp; try omega)) _))) (by simp)) Try.underlying65 rfl (by kernel_rfl)
set_option maxHeartbeats 8000000 in
theorem rs_8 (y q G bt mm cap : Nat) (x : Vm) (st : St) (A : Option Addr) (t : List Pg) (w : World) (h : RPre w y q G bt mm cap A t x st) (a b : Nat) (m : Int) (hz : x.r b ≠ 0) (hf : fetI x st t = (⟨8, a, b, m⟩, 0)) :
    Calls Try.prog 44 #[ptr y, ptr q, .slice A mm cap] w (RStepQ w y q G (0, 0) (putP (putR x a (x.r a / x.r b)) ((x.pl + 4) % 4294967296)) st) := by
  have Hmd := Lib.hid h.md
  have HL := Lib.hid rLow_any
  obtain ⟨f1, f2, f3⟩ := fet_parts hf
  obtain ⟨ai, bi, mi, ok⟩ := fet_good hf
  have HRd := Lib.hid (fun W (h : RMd w y q G bt mm cap A t x st W) => h.read)
  have HDc := Lib.hid (fun W (h : RMd w y q G bt mm cap A t x st W) => h.dec ⟨(rdR st t x.pl 4 4).1.toArray⟩)
  rw [f3] at HDc
  rw [f2] at HRd
  have HT := Lib.hid (fun n W (h : RMd w y q G bt mm cap A t x st W) => h.trap n)
  have hyl := h.hv.lt
  have c17 := h.hv.waits
  have c16 := h.hv.place
  rw [f1] at c17
  have hp0 : 0 ≤ x.pl := h.hv.p.1
  have hp1 : x.pl < 4294967296 := h.hv.p.2
  have ha0 : 0 ≤ x.r a := (h.hv.r a).1
  have ha1 : x.r a < 4294967296 := (h.hv.r a).2
  have hb0 : 0 ≤ x.r b := (h.hv.r b).1
  have hb1 : x.r b < 4294967296 := (h.hv.r b).2
  have HK := Lib.hid (fun W (h : RMd w y q G bt mm cap A t x st W) => (show W.cell? ⟨w.heap.size, 0, none⟩ = some (.int .i64 0) ∧ W.cell? ⟨w.heap.size, 1, none⟩ = some (.int .i64 0) ∧ (∀ i, W.frozen? ⟨w.heap.size, i, none⟩ = false) ∧ W.cell? ⟨y, a, none⟩ = some (.int .i64 (x.r a)) ∧ W.cell? ⟨y, b, none⟩ = some (.int .i64 (x.r b)) ∧ W.cell? ⟨y, 16, none⟩ = some (.int .i64 x.pl) ∧ (∀ i, W.frozen? ⟨y, i, none⟩ = false) ∧ y < W.heap.size ∧ w.heap.size < W.heap.size ∧ y ≠ w.heap.size ∧ W.cell? ⟨y, 17, none⟩ = some (.bool x.wt) from ⟨h.ev.cell 0, h.ev.cell 1, h.ev.frozen, h.hv.reg ai, h.hv.reg bi, h.hv.place, h.hv.frozen, h.hv.lt, h.lt, (h.hv.ne_ h.ev (by decide)).symm, h.hv.waits⟩))
  have HA := Lib.hid ai
  have haN : (0 : Int) ≤ (a : Int) := by omega
  have hbN : (0 : Int) ≤ (b : Int) := by omega
  have haM : (a : Int) < 16 := by omega
  have hbM : (b : Int) < 16 := by omega
  have hm0 := mi.1
  have hm1 := mi.2
  have hbp : 0 < x.r b := by omega
  have hd0 : 0 ≤ x.r a / x.r b := Int.ediv_nonneg ha0 hb0
  have hd1 : x.r a / x.r b ≤ x.r a := Int.ediv_le_self _ ha0
  have HQ : Hid (u32b (x.r a / x.r b)) := Lib.hid ⟨hd0, by omega⟩
  have hzb : (x.r b == 0) = false := beq_eq_false_iff_ne.2 hz
  clear h hf f1 f2 f3 ok mi ai bi
  generalize x.r a = ra at *
  generalize x.r b = rb at *
  go_enter Try.func44, Try.ntmps44
  go_wp2_with (first
    | (go_at_call 65; refine (HRd.out _ Hmd.out).mono ?_; rintro e w1 ⟨rfl, hm1⟩; have Hm1 := Lib.hid hm1; clear hm1 c16 c17)
    | (go_at_call 82; refine (HDc.out _ Hm1.out).mono ?_; rintro e w2 ⟨rfl, hm2⟩; obtain ⟨e0, e1, ef, ca, cb, c16, yf, yl, el, ne, c17⟩ := HK.out _ hm2; have Hm2 := Lib.hid hm2; clear hm2)
    | fail)
  go_region
  go_wp2_with (first | (go_at_call 28; refine (HL.out _ _).mono ?_; unfold low; rintro e w3 ⟨rfl, rfl⟩) | fail)
  go_region
  go_wp2_with fail
  have HE := Hm2.out.finR HA.out (v := ra / rb) (nx := ((x.pl + 4) % 4294967296)) HQ.out (by unfold u32b; omega)
  refine bodyPost_ret (v := .agg #[.int .i64 0, .int .i64 0]) ?_ rfl (RStepQ.to HE.2 (by repeat (first | exact Fr.refl _ _ | (refine Fr.alloc ?_ _) | (refine Fr.drew ?_) | (refine Fr.drewN ?_ _) | (refine Fr.setCell ?_ (.inr (by simp; try omega)) _))))
  exact results_cell_row Try.results44 _ _ w.heap.size 65 _ (0, 0) _ rfl (HE.1.fr (S := []) (by repeat (first | exact Fr.refl _ _ | (refine Fr.alloc ?_ _) | (refine Fr.drew ?_) | (refine Fr.drewN ?_ _) | (refine Fr.setCell ?_ (.inr (by simp; try omega)) _))) (by simp)) Try.underlying65 rfl (by kernel_rfl)
end Go.Proofs.Ytonongaakieciaa
namespace Go.Proofs.Ytonongaakieciaa
open Go.RowKit
set_option linter.unusedVariables false
set_option linter.unusedSimpArgs false
set_option maxRecDepth 100000
set_option maxHeartbeats 8000000 in
theorem rs_9_z (y q G bt mm cap : Nat) (x : Vm) (st : St) (A : Option Addr) (t : List Pg) (w : World) (h : RPre w y q G bt mm cap A t x st) (a b : Nat) (m : Int) (hz : x.r b = 0) (hf : fetI x st t = (⟨9, a, b, m⟩, 0)) :
    Calls Try.prog 44 #[ptr y, ptr q, .slice A mm cap] w (RStepQ w y q G (2, 5) x st) := by
  have Hmd := Lib.hid h.md
  have HL := Lib.hid rLow_any
  obtain ⟨f1, f2, f3⟩ := fet_parts hf
  obtain ⟨ai, bi, mi, ok⟩ := fet_good hf
  have HRd := Lib.hid (fun W (h : RMd w y q G bt mm cap A t x st W) => h.read)
  have HDc := Lib.hid (fun W (h : RMd w y q G bt mm cap A t x st W) => h.dec ⟨(rdR st t x.pl 4 4).1.toArray⟩)
  rw [f3] at HDc
  rw [f2] at HRd
  have HT := Lib.hid (fun n W (h : RMd w y q G bt mm cap A t x st W) => h.trap n)
  have hyl := h.hv.lt
  have c17 := h.hv.waits
  have c16 := h.hv.place
  rw [f1] at c17
  have hp0 : 0 ≤ x.pl := h.hv.p.1
  have hp1 : x.pl < 4294967296 := h.hv.p.2
  have ha0 : 0 ≤ x.r a := (h.hv.r a).1
  have ha1 : x.r a < 4294967296 := (h.hv.r a).2
  have hb0 : 0 ≤ x.r b := (h.hv.r b).1
  have hb1 : x.r b < 4294967296 := (h.hv.r b).2
  have HK := Lib.hid (fun W (h : RMd w y q G bt mm cap A t x st W) => (show W.cell? ⟨w.heap.size, 0, none⟩ = some (.int .i64 0) ∧ W.cell? ⟨w.heap.size, 1, none⟩ = some (.int .i64 0) ∧ (∀ i, W.frozen? ⟨w.heap.size, i, none⟩ = false) ∧ W.cell? ⟨y, a, none⟩ = some (.int .i64 (x.r a)) ∧ W.cell? ⟨y, b, none⟩ = some (.int .i64 (x.r b)) ∧ W.cell? ⟨y, 16, none⟩ = some (.int .i64 x.pl) ∧ (∀ i, W.frozen? ⟨y, i, none⟩ = false) ∧ y < W.heap.size ∧ w.heap.size < W.heap.size ∧ y ≠ w.heap.size ∧ W.cell? ⟨y, 17, none⟩ = some (.bool x.wt) from ⟨h.ev.cell 0, h.ev.cell 1, h.ev.frozen, h.hv.reg ai, h.hv.reg bi, h.hv.place, h.hv.frozen, h.hv.lt, h.lt, (h.hv.ne_ h.ev (by decide)).symm, h.hv.waits⟩))
  have HA := Lib.hid ai
  have haN : (0 : Int) ≤ (a : Int) := by omega
  have hbN : (0 : Int) ≤ (b : Int) := by omega
  have haM : (a : Int) < 16 := by omega
  have hbM : (b : Int) < 16 := by omega
  have hm0 := mi.1
  have hm1 := mi.2
  rw [hz] at HK
  clear hz hb0 hb1
  clear h hf f1 f2 f3 ok mi ai bi
  go_enter Try.func44, Try.ntmps44
  go_wp2_with (first
    | (go_at_call 65; refine (HRd.out _ Hmd.out).mono ?_; rintro e w1 ⟨rfl, hm1⟩; have Hm1 := Lib.hid hm1; clear hm1 c16 c17)
    | (go_at_call 82; refine (HDc.out _ Hm1.out).mono ?_; rintro e w2 ⟨rfl, hm2⟩; obtain ⟨e0, e1, ef, ca, cb, c16, yf, yl, el, ne, c17⟩ := HK.out _ hm2; have Hm2 := Lib.hid hm2; clear hm2)
    | fail)
  go_region
  go_wp2_with (first | (go_at_call 28; refine (HL.out _ _).mono ?_; unfold low; rintro e w3 ⟨rfl, rfl⟩) | (go_at_call 81; refine (HT.out 5 _ (Hm2.out.to (by repeat (first | (with_reducible exact Fr.refl _ _) | (refine Fr.alloc ?_ _) | (refine Fr.drew ?_) | (refine Fr.drewN ?_ _) | (refine Fr.setCell ?_ (.inr (by simp; try omega)) _))))).mono ?_; rintro e w4 ⟨rfl, hm4⟩; clear e0 e1 ef; obtain ⟨e0, e1, ef, -, -, -, -, -, el4, -, -⟩ := HK.out _ hm4; have Hm4 := Lib.hid hm4; clear hm4) | fail)
  have HE := rev_end Hm4.out.hv Hm4.out.hm (Hm4.out.fr.mono (by simp)) Hm4.out.ev 2 5
  refine bodyPost_ret (v := .agg #[.int .i64 2, .int .i64 5]) ?_ rfl (RStepQ.to HE.2 (by repeat (first | (with_reducible exact Fr.refl _ _) | (refine Fr.alloc ?_ _) | (refine Fr.drew ?_) | (refine Fr.drewN ?_ _) | (refine Fr.setCell ?_ (.inr (by simp; try omega)) _))))
  exact results_cell_row Try.results44 _ _ w.heap.size 65 _ (0, 0) _ rfl (HE.1.fr (S := []) (by repeat (first | (with_reducible exact Fr.refl _ _) | (refine Fr.alloc ?_ _) | (refine Fr.drew ?_) | (refine Fr.drewN ?_ _) | (refine Fr.setCell ?_ (.inr (by simp; try omega)) _))) (by simp)) Try.underlying65 rfl (by kernel_rfl)
set_option maxHeartbeats 8000000 in
theorem rs_9 (y q G bt mm cap : Nat) (x : Vm) (st : St) (A : Option Addr) (t : List Pg) (w : World) (h : RPre w y q G bt mm cap A t x st) (a b : Nat) (m : Int) (hz : x.r b ≠ 0) (hf : fetI x st t = (⟨9, a, b, m⟩, 0)) :
    Calls Try.prog 44 #[ptr y, ptr q, .slice A mm cap] w (RStepQ w y q G (0, 0) (putP (putR x a (x.r a % x.r b)) ((x.pl + 4) % 4294967296)) st) := by
  have Hmd := Lib.hid h.md
  have HL := Lib.hid rLow_any
  obtain ⟨f1, f2, f3⟩ := fet_parts hf
  obtain ⟨ai, bi, mi, ok⟩ := fet_good hf
  have HRd := Lib.hid (fun W (h : RMd w y q G bt mm cap A t x st W) => h.read)
  have HDc := Lib.hid (fun W (h : RMd w y q G bt mm cap A t x st W) => h.dec ⟨(rdR st t x.pl 4 4).1.toArray⟩)
  rw [f3] at HDc
  rw [f2] at HRd
  have HT := Lib.hid (fun n W (h : RMd w y q G bt mm cap A t x st W) => h.trap n)
  have hyl := h.hv.lt
  have c17 := h.hv.waits
  have c16 := h.hv.place
  rw [f1] at c17
  have hp0 : 0 ≤ x.pl := h.hv.p.1
  have hp1 : x.pl < 4294967296 := h.hv.p.2
  have ha0 : 0 ≤ x.r a := (h.hv.r a).1
  have ha1 : x.r a < 4294967296 := (h.hv.r a).2
  have hb0 : 0 ≤ x.r b := (h.hv.r b).1
  have hb1 : x.r b < 4294967296 := (h.hv.r b).2
  have HK := Lib.hid (fun W (h : RMd w y q G bt mm cap A t x st W) => (show W.cell? ⟨w.heap.size, 0, none⟩ = some (.int .i64 0) ∧ W.cell? ⟨w.heap.size, 1, none⟩ = some (.int .i64 0) ∧ (∀ i, W.frozen? ⟨w.heap.size, i, none⟩ = false) ∧ W.cell? ⟨y, a, none⟩ = some (.int .i64 (x.r a)) ∧ W.cell? ⟨y, b, none⟩ = some (.int .i64 (x.r b)) ∧ W.cell? ⟨y, 16, none⟩ = some (.int .i64 x.pl) ∧ (∀ i, W.frozen? ⟨y, i, none⟩ = false) ∧ y < W.heap.size ∧ w.heap.size < W.heap.size ∧ y ≠ w.heap.size ∧ W.cell? ⟨y, 17, none⟩ = some (.bool x.wt) from ⟨h.ev.cell 0, h.ev.cell 1, h.ev.frozen, h.hv.reg ai, h.hv.reg bi, h.hv.place, h.hv.frozen, h.hv.lt, h.lt, (h.hv.ne_ h.ev (by decide)).symm, h.hv.waits⟩))
  have HA := Lib.hid ai
  have haN : (0 : Int) ≤ (a : Int) := by omega
  have hbN : (0 : Int) ≤ (b : Int) := by omega
  have haM : (a : Int) < 16 := by omega
  have hbM : (b : Int) < 16 := by omega
  have hm0 := mi.1
  have hm1 := mi.2
  have hbp : 0 < x.r b := by omega
  have hd0 : 0 ≤ x.r a / x.r b := Int.ediv_nonneg ha0 hb0
  have hd1 : x.r a / x.r b ≤ x.r a := Int.ediv_le_self _ ha0
  have HQ : Hid (u32b (x.r a / x.r b)) := Lib.hid ⟨hd0, by omega⟩
  have hr0 : 0 ≤ x.r a % x.r b := Int.emod_nonneg _ (by omega)
  have hr1 : x.r a % x.r b < x.r b := Int.emod_lt_of_pos _ hbp
  have HQ2 : Hid (u32b (x.r a % x.r b)) := Lib.hid ⟨hr0, by omega⟩
  have hzb : (x.r b == 0) = false := beq_eq_false_iff_ne.2 hz
  clear h hf f1 f2 f3 ok mi ai bi
  generalize x.r a = ra at *
  generalize x.r b = rb at *
  go_enter Try.func44, Try.ntmps44
  go_wp2_with (first
    | (go_at_call 65; refine (HRd.out _ Hmd.out).mono ?_; rintro e w1 ⟨rfl, hm1⟩; have Hm1 := Lib.hid hm1; clear hm1 c16 c17)
    | (go_at_call 82; refine (HDc.out _ Hm1.out).mono ?_; rintro e w2 ⟨rfl, hm2⟩; obtain ⟨e0, e1, ef, ca, cb, c16, yf, yl, el, ne, c17⟩ := HK.out _ hm2; have Hm2 := Lib.hid hm2; clear hm2)
    | fail)
  go_region
  go_wp2_with (first | (go_at_call 28; refine (HL.out _ _).mono ?_; unfold low; rintro e w3 ⟨rfl, rfl⟩) | fail)
  go_region
  go_wp2_with fail
  go_region
  go_wp2_with fail
  clear hd0 hd1 hr0 hr1 hbp hzb
  have HE := Hm2.out.finRR HA.out (v' := ra / rb) (v := ra % rb) (nx := ((x.pl + 4) % 4294967296)) HQ.out HQ2.out (by unfold u32b; omega)
  refine bodyPost_ret (v := .agg #[.int .i64 0, .int .i64 0]) ?_ rfl (RStepQ.to HE.2 (by repeat (first | (with_reducible exact Fr.refl _ _) | (refine Fr.alloc ?_ _) | (refine Fr.drew ?_) | (refine Fr.drewN ?_ _) | (refine Fr.setCell ?_ (.inr (by simp; try omega)) _))))
  exact results_cell_row Try.results44 _ _ w.heap.size 65 _ (0, 0) _ rfl (HE.1.fr (S := []) (by repeat (first | (with_reducible exact Fr.refl _ _) | (refine Fr.alloc ?_ _) | (refine Fr.drew ?_) | (refine Fr.drewN ?_ _) | (refine Fr.setCell ?_ (.inr (by simp; try omega)) _))) (by simp)) Try.underlying65 rfl (by kernel_rfl)
set_option maxHeartbeats 8000000 in
theorem rs_19 (y q G bt mm cap : Nat) (x : Vm) (st : St) (A : Option Addr) (t : List Pg) (w : World) (h : RPre w y q G bt mm cap A t x st) (a b : Nat) (m : Int) (hf : fetI x st t = (⟨19, a, b, m⟩, 0)) :
    Calls Try.prog 44 #[ptr y, ptr q, .slice A mm cap] w (RStepQ w y q G (0, 0) (putP (putR x a ((x.r a + m) % 4294967296)) ((x.pl + 4) % 4294967296)) st) := by
  have Hmd := Lib.hid h.md
  have HL := Lib.hid rLow_any
  obtain ⟨f1, f2, f3⟩ := fet_parts hf
  obtain ⟨ai, bi, mi, ok⟩ := fet_good hf
  have HRd := Lib.hid (fun W (h : RMd w y q G bt mm cap A t x st W) => h.read)
  have HDc := Lib.hid (fun W (h : RMd w y q G bt mm cap A t x st W) => h.dec ⟨(rdR st t x.pl 4 4).1.toArray⟩)
  rw [f3] at HDc
  rw [f2] at HRd
  have HT := Lib.hid (fun n W (h : RMd w y q G bt mm cap A t x st W) => h.trap n)
  have hyl := h.hv.lt
  have c17 := h.hv.waits
  have c16 := h.hv.place
  rw [f1] at c17
  have hp0 : 0 ≤ x.pl := h.hv.p.1
  have hp1 : x.pl < 4294967296 := h.hv.p.2
  have ha0 : 0 ≤ x.r a := (h.hv.r a).1
  have ha1 : x.r a < 4294967296 := (h.hv.r a).2
  have hb0 : 0 ≤ x.r b := (h.hv.r b).1
  have hb1 : x.r b < 4294967296 := (h.hv.r b).2
  have HK := Lib.hid (fun W (h : RMd w y q G bt mm cap A t x st W) => (show W.cell? ⟨w.heap.size, 0, none⟩ = some (.int .i64 0) ∧ W.cell? ⟨w.heap.size, 1, none⟩ = some (.int .i64 0) ∧ (∀ i, W.frozen? ⟨w.heap.size, i, none⟩ = false) ∧ W.cell? ⟨y, a, none⟩ = some (.int .i64 (x.r a)) ∧ W.cell? ⟨y, b, none⟩ = some (.int .i64 (x.r b)) ∧ W.cell? ⟨y, 16, none⟩ = some (.int .i64 x.pl) ∧ (∀ i, W.frozen? ⟨y, i, none⟩ = false) ∧ y < W.heap.size ∧ w.heap.size < W.heap.size ∧ y ≠ w.heap.size ∧ W.cell? ⟨y, 17, none⟩ = some (.bool x.wt) from ⟨h.ev.cell 0, h.ev.cell 1, h.ev.frozen, h.hv.reg ai, h.hv.reg bi, h.hv.place, h.hv.frozen, h.hv.lt, h.lt, (h.hv.ne_ h.ev (by decide)).symm, h.hv.waits⟩))
  have HA := Lib.hid ai
  have haN : (0 : Int) ≤ (a : Int) := by omega
  have hbN : (0 : Int) ≤ (b : Int) := by omega
  have haM : (a : Int) < 16 := by omega
  have hbM : (b : Int) < 16 := by omega
  have hm0 := mi.1
  have hm1 := mi.2
  clear h hf f1 f2 f3 ok mi ai bi
  generalize x.r a = ra at *
  go_enter Try.func44, Try.ntmps44
  go_wp2_with (first
    | (go_at_call 65; refine (HRd.out _ Hmd.out).mono ?_; rintro e w1 ⟨rfl, hm1⟩; have Hm1 := Lib.hid hm1; clear hm1 c16 c17)
    | (go_at_call 82; refine (HDc.out _ Hm1.out).mono ?_; rintro e w2 ⟨rfl, hm2⟩; obtain ⟨e0, e1, ef, ca, cb, c16, yf, yl, el, ne, c17⟩ := HK.out _ hm2; have Hm2 := Lib.hid hm2; clear hm2)
    | fail)
  go_region
  go_wp2_with (first | (go_at_call 28; refine (HL.out _ _).mono ?_; unfold low; rintro e w3 ⟨rfl, rfl⟩) | fail)
  go_region_law (first | (go_simp; go_at_call 28; refine (HL.out _ _).mono ?_; unfold low; rintro e w3 ⟨rfl, rfl⟩) | fail)
  all_goals
    go_wp2_with fail
    have HE := Hm2.out.finR HA.out (v := (ra + m) % 4294967296) (nx := ((x.pl + 4) % 4294967296)) (by unfold u32b; omega) (by unfold u32b; omega)
    refine bodyPost_ret (v := .agg #[.int .i64 0, .int .i64 0]) ?_ rfl (RStepQ.to HE.2 (by repeat (first | (with_reducible exact Fr.refl _ _) | (refine Fr.alloc ?_ _) | (refine Fr.drew ?_) | (refine Fr.drewN ?_ _) | (refine Fr.setCell ?_ (.inr (by simp; try omega)) _))))
    exact results_cell_row Try.results44 _ _ w.heap.size 65 _ (0, 0) _ rfl (HE.1.fr (S := []) (by repeat (first | (with_reducible exact Fr.refl _ _) | (refine Fr.alloc ?_ _) | (refine Fr.drew ?_) | (refine Fr.drewN ?_ _) | (refine Fr.setCell ?_ (.inr (by simp; try omega)) _))) (by simp)) Try.underlying65 rfl (by kernel_rfl)
end Go.Proofs.Ytonongaakieciaa
namespace Go.Proofs.Ytonongaakieciaa
open Go.RowKit
set_option linter.unusedVariables false
set_option linter.unusedSimpArgs false
set_option maxRecDepth 100000
theorem ldR_u32 (st : St) (t : List Pg) (ad k r : Int) (hk : k = 1 ∨ k = 2 ∨ k = 4) : u32b (ldR st t ad k r).1 := by
  unfold ldR
  split
  · exact ⟨by decide, by decide⟩
  · split
    · exact ⟨by decide, by decide⟩
    · have h1 := rdR_len (st := st) (t := t) (a := ad) (r := r) hk
      have h2 := word_lt (rdR st t ad k r).1
      have h3 : 256 ^ (rdR st t ad k r).1.length ≤ 256 ^ 4 := Nat.pow_le_pow_right (by decide) h1
      refine ⟨by simp, ?_⟩
      have h4 : (256 : Nat) ^ 4 = 4294967296 := by decide
      rw [h4] at h3
      show ((word (rdR st t ad k r).1 : Nat) : Int) < 4294967296
      omega
/-- The world behind a store. -/
structure RMe (w : World) (y q G : Nat) (x : Vm) (S : St) (W : World) : Prop where
  hv : RvmAt W y x
  hm : RMem W q G S
  fr : Fr [y, G] w W
  ev : Blk W w.heap.size 65 #[.int .i64 0, .int .i64 0]
section
variable {w W W' : World} {y q G bt mm cap : Nat} {A : Option Addr} {t : List Pg} {x : Vm} {st S : St}
theorem RMe.to (h : RMe w y q G x S W) (hf : Fr [] W W') : RMe w y q G x S W' :=
  ⟨h.hv.fr hf (by simp), h.hm.to hf (by simp) (by simp), h.fr.trans (hf.mono (by simp)), h.ev.fr hf (by simp)⟩
theorem RMe.trap (h : RMe w y q G x S W) (n : Int) : Calls Try.prog 81 #[.int .i64 n] W fun e w' => e = .returned (.agg #[.int .i64 2, .int .i64 n]) ∧ RMe w y q G x S w' :=
  (rTrap_any n W).mono fun e w' ⟨he, hf⟩ => ⟨he, h.to hf⟩
theorem RMd.store (h : RMd w y q G bt mm cap A t x st W) (hG : bt ≠ G) (k ad n : Int) (had : ad ≤ 9223372036854775807) : Calls Try.prog 84 #[ptr q, .slice A mm cap, .int .i64 ad, .int .i64 k, .int .i64 n] W fun e w' => e = .returned (.int .i64 (stE st t ad k n)) ∧ RMe w y q G x (stS st t ad k n) w' ∧ Fr [G] W w' := by
  obtain ⟨m1, m2⟩ := h.hm.ne_vm h.hv
  obtain ⟨-, n3⟩ := h.hm.ne_ev h.ev (by decide) (by decide)
  exact (rStore_any bt q G mm cap st A t ad k n W h.ht h.hm had hG).mono fun e w' ⟨he, hm, hf⟩ => ⟨he, ⟨h.hv.fr hf (by simpa using m2.symm), hm, (h.fr.mono (S' := [y, G]) (by simp)).trans (hf.mono (by simp)), h.ev.fr hf (by simpa using n3.symm)⟩, hf⟩
theorem RMd.load2 (h : RMd w y q G bt mm cap A t x st W) (k ad : Int) (had : ad ≤ 9223372036854775807) : Calls Try.prog 83 #[ptr q, .slice A mm cap, .int .i64 ad, .int .i64 k, .int .i64 1] W fun e w' => e = .returned (.tuple #[.int .i64 (ldR st t ad k 1).1, .int .i64 (ldR st t ad k 1).2]) ∧ RMd w y q G bt mm cap A t x st w' ∧ Fr [] W w' :=
  (rLoad_any bt q G mm cap st A t ad k 1 W h.ht h.hm had).mono fun e w' ⟨he, hf⟩ => ⟨he, h.to hf, hf⟩
end
set_option maxHeartbeats 8000000 in
theorem rs_20_e (y q G bt mm cap : Nat) (x : Vm) (st : St) (A : Option Addr) (t : List Pg) (w : World) (h : RPre w y q G bt mm cap A t x st) (a b : Nat) (m : Int) (he : (ldR st t ((x.r b + m) % 4294967296) 1 1).2 ≠ 0) (hf : fetI x st t = (⟨20, a, b, m⟩, 0)) :
    Calls Try.prog 44 #[ptr y, ptr q, .slice A mm cap] w (RStepQ w y q G (2, 3) x st) := by
  have Hmd := Lib.hid h.md
  have HL := Lib.hid rLow_any
  obtain ⟨f1, f2, f3⟩ := fet_parts hf
  obtain ⟨ai, bi, mi, ok⟩ := fet_good hf
  have HRd := Lib.hid (fun W (h : RMd w y q G bt mm cap A t x st W) => h.read)
  have HDc := Lib.hid (fun W (h : RMd w y q G bt mm cap A t x st W) => h.dec ⟨(rdR st t x.pl 4 4).1.toArray⟩)
  rw [f3] at HDc
  rw [f2] at HRd
  have HT := Lib.hid (fun n W (h : RMd w y q G bt mm cap A t x st W) => h.trap n)
  have hyl := h.hv.lt
  have c17 := h.hv.waits
  have c16 := h.hv.place
  rw [f1] at c17
  have hp0 : 0 ≤ x.pl := h.hv.p.1
  have hp1 : x.pl < 4294967296 := h.hv.p.2
  have ha0 : 0 ≤ x.r a := (h.hv.r a).1
  have ha1 : x.r a < 4294967296 := (h.hv.r a).2
  have hb0 : 0 ≤ x.r b := (h.hv.r b).1
  have hb1 : x.r b < 4294967296 := (h.hv.r b).2
  have HK := Lib.hid (fun W (h : RMd w y q G bt mm cap A t x st W) => (show W.cell? ⟨w.heap.size, 0, none⟩ = some (.int .i64 0) ∧ W.cell? ⟨w.heap.size, 1, none⟩ = some (.int .i64 0) ∧ (∀ i, W.frozen? ⟨w.heap.size, i, none⟩ = false) ∧ W.cell? ⟨y, a, none⟩ = some (.int .i64 (x.r a)) ∧ W.cell? ⟨y, b, none⟩ = some (.int .i64 (x.r b)) ∧ W.cell? ⟨y, 16, none⟩ = some (.int .i64 x.pl) ∧ (∀ i, W.frozen? ⟨y, i, none⟩ = false) ∧ y < W.heap.size ∧ w.heap.size < W.heap.size ∧ y ≠ w.heap.size ∧ W.cell? ⟨y, 17, none⟩ = some (.bool x.wt) from ⟨h.ev.cell 0, h.ev.cell 1, h.ev.frozen, h.hv.reg ai, h.hv.reg bi, h.hv.place, h.hv.frozen, h.hv.lt, h.lt, (h.hv.ne_ h.ev (by decide)).symm, h.hv.waits⟩))
  have HA := Lib.hid ai
  have haN : (0 : Int) ≤ (a : Int) := by omega
  have hbN : (0 : Int) ≤ (b : Int) := by omega
  have haM : (a : Int) < 16 := by omega
  have hbM : (b : Int) < 16 := by omega
  have hm0 := mi.1
  have hm1 := mi.2
  have HLd := Lib.hid (fun W (h : RMd w y q G bt mm cap A t x st W) => h.load2 1 ((x.r b + m) % 4294967296) (by omega))
  obtain ⟨⟨ln, le⟩, hle⟩ : ∃ p, ldR st t ((x.r b + m) % 4294967296) 1 1 = p := ⟨_, rfl⟩
  rw [hle] at HLd he
  simp only at HLd he
  have heb : (le != 0) = true := bne_iff_ne.2 he
  clear he hle
  clear h hf f1 f2 f3 ok mi ai bi
  generalize x.r b = rb at *
  go_enter Try.func44, Try.ntmps44
  go_wp2_with (first
    | (go_at_call 65; refine (HRd.out _ Hmd.out).mono ?_; rintro e w1 ⟨rfl, hm1⟩; have Hm1 := Lib.hid hm1; clear hm1 c16 c17)
    | (go_at_call 82; refine (HDc.out _ Hm1.out).mono ?_; rintro e w2 ⟨rfl, hm2⟩; obtain ⟨e0, e1, ef, ca, cb, c16, yf, yl, el, ne, c17⟩ := HK.out _ hm2; have Hm2 := Lib.hid hm2; clear hm2)
    | fail)
  go_region
  go_wp2_with (first | (go_at_call 28; refine (HL.out _ _).mono ?_; unfold low; rintro e w3 ⟨rfl, rfl⟩) | (go_at_call 83; refine (HLd.out _ (Hm2.out.to (by repeat (first | exact Fr.refl _ _ | (refine Fr.alloc ?_ _) | (refine Fr.drew ?_) | (refine Fr.drewN ?_ _) | (refine Fr.setCell ?_ (.inr (by simp; try omega)) _))))).mono ?_; rintro e w4 ⟨rfl, hm4, -⟩; have Hm4 := Lib.hid hm4; clear hm4) | (go_at_call 81; refine (HT.out 3 _ Hm4.out).mono ?_; rintro e w5 ⟨rfl, hm5⟩; clear e0 e1 ef; obtain ⟨e0, e1, ef, -, -, -, -, -, el4, -, -⟩ := HK.out _ hm5; have Hm5 := Lib.hid hm5; clear hm5) | fail)
  have HE := rev_end Hm5.out.hv Hm5.out.hm (Hm5.out.fr.mono (by simp)) Hm5.out.ev 2 3
  refine bodyPost_ret (v := .agg #[.int .i64 2, .int .i64 3]) ?_ rfl (RStepQ.to HE.2 (by repeat (first | exact Fr.refl _ _ | (refine Fr.alloc ?_ _) | (refine Fr.drew ?_) | (refine Fr.drewN ?_ _) | (refine Fr.setCell ?_ (.inr (by simp; try omega)) _))))
  exact results_cell_row Try.results44 _ _ w.heap.size 65 _ (0, 0) _ rfl (HE.1.fr (S := []) (by repeat (first | exact Fr.refl _ _ | (refine Fr.alloc ?_ _) | (refine Fr.drew ?_) | (refine Fr.drewN ?_ _) | (refine Fr.setCell ?_ (.inr (by simp; try omega)) _))) (by simp)) Try.underlying65 rfl (by kernel_rfl)
set_option maxHeartbeats 8000000 in
theorem rs_20 (y q G bt mm cap : Nat) (x : Vm) (st : St) (A : Option Addr) (t : List Pg) (w : World) (h : RPre w y q G bt mm cap A t x st) (a b : Nat) (m : Int) (he : (ldR st t ((x.r b + m) % 4294967296) 1 1).2 = 0) (hf : fetI x st t = (⟨20, a, b, m⟩, 0)) :
    Calls Try.prog 44 #[ptr y, ptr q, .slice A mm cap] w (RStepQ w y q G (0, 0) (putP (putR x a ((ldR st t ((x.r b + m) % 4294967296) 1 1).1 % 4294967296)) ((x.pl + 4) % 4294967296)) st) := by
  have Hmd := Lib.hid h.md
  have HL := Lib.hid rLow_any
  obtain ⟨f1, f2, f3⟩ := fet_parts hf
  obtain ⟨ai, bi, mi, ok⟩ := fet_good hf
  have HRd := Lib.hid (fun W (h : RMd w y q G bt mm cap A t x st W) => h.read)
  have HDc := Lib.hid (fun W (h : RMd w y q G bt mm cap A t x st W) => h.dec ⟨(rdR st t x.pl 4 4).1.toArray⟩)
  rw [f3] at HDc
  rw [f2] at HRd
  have HT := Lib.hid (fun n W (h : RMd w y q G bt mm cap A t x st W) => h.trap n)
  have hyl := h.hv.lt
  have c17 := h.hv.waits
  have c16 := h.hv.place
  rw [f1] at c17
  have hp0 : 0 ≤ x.pl := h.hv.p.1
  have hp1 : x.pl < 4294967296 := h.hv.p.2
  have ha0 : 0 ≤ x.r a := (h.hv.r a).1
  have ha1 : x.r a < 4294967296 := (h.hv.r a).2
  have hb0 : 0 ≤ x.r b := (h.hv.r b).1
  have hb1 : x.r b < 4294967296 := (h.hv.r b).2
  have HK := Lib.hid (fun W (h : RMd w y q G bt mm cap A t x st W) => (show W.cell? ⟨w.heap.size, 0, none⟩ = some (.int .i64 0) ∧ W.cell? ⟨w.heap.size, 1, none⟩ = some (.int .i64 0) ∧ (∀ i, W.frozen? ⟨w.heap.size, i, none⟩ = false) ∧ W.cell? ⟨y, a, none⟩ = some (.int .i64 (x.r a)) ∧ W.cell? ⟨y, b, none⟩ = some (.int .i64 (x.r b)) ∧ W.cell? ⟨y, 16, none⟩ = some (.int .i64 x.pl) ∧ (∀ i, W.frozen? ⟨y, i, none⟩ = false) ∧ y < W.heap.size ∧ w.heap.size < W.heap.size ∧ y ≠ w.heap.size ∧ W.cell? ⟨y, 17, none⟩ = some (.bool x.wt) from ⟨h.ev.cell 0, h.ev.cell 1, h.ev.frozen, h.hv.reg ai, h.hv.reg bi, h.hv.place, h.hv.frozen, h.hv.lt, h.lt, (h.hv.ne_ h.ev (by decide)).symm, h.hv.waits⟩))
  have HA := Lib.hid ai
  have haN : (0 : Int) ≤ (a : Int) := by omega
  have hbN : (0 : Int) ≤ (b : Int) := by omega
  have haM : (a : Int) < 16 := by omega
  have hbM : (b : Int) < 16 := by omega
  have hm0 := mi.1
  have hm1 := mi.2
  have HLd := Lib.hid (fun W (h : RMd w y q G bt mm cap A t x st W) => h.load2 1 ((x.r b + m) % 4294967296) (by omega))
  have hlb := ldR_u32 st t ((x.r b + m) % 4294967296) 1 1 (by simp)
  obtain ⟨⟨ln, le⟩, hle⟩ : ∃ p, ldR st t ((x.r b + m) % 4294967296) 1 1 = p := ⟨_, rfl⟩
  rw [hle] at HLd he hlb ⊢
  simp only at HLd he hlb ⊢
  have hlm : ln % 4294967296 = ln := by unfold u32b at hlb; omega
  rw [hlm]
  have HLb := Lib.hid hlb
  subst he
  clear hle hlm hlb
  clear h hf f1 f2 f3 ok mi ai bi
  generalize x.r b = rb at *
  go_enter Try.func44, Try.ntmps44
  go_wp2_with (first
    | (go_at_call 65; refine (HRd.out _ Hmd.out).mono ?_; rintro e w1 ⟨rfl, hm1⟩; have Hm1 := Lib.hid hm1; clear hm1 c16 c17)
    | (go_at_call 82; refine (HDc.out _ Hm1.out).mono ?_; rintro e w2 ⟨rfl, hm2⟩; obtain ⟨e0, e1, ef, ca, cb, c16, yf, yl, el, ne, c17⟩ := HK.out _ hm2; have Hm2 := Lib.hid hm2; clear hm2)
    | fail)
  go_region
  go_wp2_with (first | (go_at_call 28; refine (HL.out _ _).mono ?_; unfold low; rintro e w3 ⟨rfl, rfl⟩) | (go_at_call 83; refine (HLd.out _ (Hm2.out.to (by repeat (first | exact Fr.refl _ _ | (refine Fr.alloc ?_ _) | (refine Fr.drew ?_) | (refine Fr.drewN ?_ _) | (refine Fr.setCell ?_ (.inr (by simp; try omega)) _))))).mono ?_; rintro e w4 ⟨rfl, hm4, hf4⟩; clear e0 e1 ef ca cb c16 c17 yf yl el; obtain ⟨e0, e1, ef, ca, cb, c16, yf, yl, el, -, -⟩ := HK.out _ hm4; have ib := Blk.fr (g := w2.heap.size) (t := 53) (cs := #[.int .i64 20, .int .i64 a, .int .i64 b, .int .i64 m]) (by repeat (first | exact Blk.new _ _ _ | (refine Blk.drew ?_) | (refine Blk.alloc ?_ _))) hf4 (by simp); have db := Blk.fr (g := w2.heap.size + 1) (t := 65) (cs := #[.int .i64 0, .int .i64 0]) (by repeat (first | exact Blk.new' (by simp) | (refine Blk.drew ?_))) hf4 (by simp); have i0 : w4.cell? ⟨w2.heap.size, 0, none⟩ = some (.int .i64 20) := ib.cell 0; have i1 : w4.cell? ⟨w2.heap.size, 1, none⟩ = some (.int .i64 a) := ib.cell 1; have d0 : w4.cell? ⟨w2.heap.size + 1, 0, none⟩ = some (.int .i64 0) := db.cell 0; have d1 : w4.cell? ⟨w2.heap.size + 1, 1, none⟩ = some (.int .i64 0) := db.cell 1; have dn : w2.heap.size + 1 ≠ y := hm4.hv.ne_ db (by decide); have Hm4 := Lib.hid hm4; clear hm4 hf4 ib db) | fail)
  go_region
  go_wp2_with fail
  have HE := Hm4.out.finR HA.out (v := ln) (nx := ((x.pl + 4) % 4294967296)) HLb.out (by unfold u32b; omega)
  refine bodyPost_ret (v := .agg #[.int .i64 0, .int .i64 0]) ?_ rfl (RStepQ.to HE.2 (by repeat (first | exact Fr.refl _ _ | (refine Fr.alloc ?_ _) | (refine Fr.drew ?_) | (refine Fr.drewN ?_ _) | (refine Fr.setCell ?_ (.inr (by simp; try omega)) _))))
  exact results_cell_row Try.results44 _ _ w.heap.size 65 _ (0, 0) _ rfl (HE.1.fr (S := []) (by repeat (first | exact Fr.refl _ _ | (refine Fr.alloc ?_ _) | (refine Fr.drew ?_) | (refine Fr.drewN ?_ _) | (refine Fr.setCell ?_ (.inr (by simp; try omega)) _))) (by simp)) Try.underlying65 rfl (by kernel_rfl)
set_option maxHeartbeats 8000000 in
theorem rs_21_e (y q G bt mm cap : Nat) (x : Vm) (st : St) (A : Option Addr) (t : List Pg) (w : World) (h : RPre w y q G bt mm cap A t x st) (a b : Nat) (m : Int) (he : (ldR st t ((x.r b + m) % 4294967296) 4 1).2 ≠ 0) (hf : fetI x st t = (⟨21, a, b, m⟩, 0)) :
    Calls Try.prog 44 #[ptr y, ptr q, .slice A mm cap] w (RStepQ w y q G (2, 3) x st) := by
  have Hmd := Lib.hid h.md
  have HL := Lib.hid rLow_any
  obtain ⟨f1, f2, f3⟩ := fet_parts hf
  obtain ⟨ai, bi, mi, ok⟩ := fet_good hf
  have HRd := Lib.hid (fun W (h : RMd w y q G bt mm cap A t x st W) => h.read)
  have HDc := Lib.hid (fun W (h : RMd w y q G bt mm cap A t x st W) => h.dec ⟨(rdR st t x.pl 4 4).1.toArray⟩)
  rw [f3] at HDc
  rw [f2] at HRd
  have HT := Lib.hid (fun n W (h : RMd w y q G bt mm cap A t x st W) => h.trap n)
  have hyl := h.hv.lt
  have c17 := h.hv.waits
  have c16 := h.hv.place
  rw [f1] at c17
  have hp0 : 0 ≤ x.pl := h.hv.p.1
  have hp1 : x.pl < 4294967296 := h.hv.p.2
  have ha0 : 0 ≤ x.r a := (h.hv.r a).1
  have ha1 : x.r a < 4294967296 := (h.hv.r a).2
  have hb0 : 0 ≤ x.r b := (h.hv.r b).1
  have hb1 : x.r b < 4294967296 := (h.hv.r b).2
  have HK := Lib.hid (fun W (h : RMd w y q G bt mm cap A t x st W) => (show W.cell? ⟨w.heap.size, 0, none⟩ = some (.int .i64 0) ∧ W.cell? ⟨w.heap.size, 1, none⟩ = some (.int .i64 0) ∧ (∀ i, W.frozen? ⟨w.heap.size, i, none⟩ = false) ∧ W.cell? ⟨y, a, none⟩ = some (.int .i64 (x.r a)) ∧ W.cell? ⟨y, b, none⟩ = some (.int .i64 (x.r b)) ∧ W.cell? ⟨y, 16, none⟩ = some (.int .i64 x.pl) ∧ (∀ i, W.frozen? ⟨y, i, none⟩ = false) ∧ y < W.heap.size ∧ w.heap.size < W.heap.size ∧ y ≠ w.heap.size ∧ W.cell? ⟨y, 17, none⟩ = some (.bool x.wt) from ⟨h.ev.cell 0, h.ev.cell 1, h.ev.frozen, h.hv.reg ai, h.hv.reg bi, h.hv.place, h.hv.frozen, h.hv.lt, h.lt, (h.hv.ne_ h.ev (by decide)).symm, h.hv.waits⟩))
  have HA := Lib.hid ai
  have haN : (0 : Int) ≤ (a : Int) := by omega
  have hbN : (0 : Int) ≤ (b : Int) := by omega
  have haM : (a : Int) < 16 := by omega
  have hbM : (b : Int) < 16 := by omega
  have hm0 := mi.1
  have hm1 := mi.2
  have HLd := Lib.hid (fun W (h : RMd w y q G bt mm cap A t x st W) => h.load2 4 ((x.r b + m) % 4294967296) (by omega))
  obtain ⟨⟨ln, le⟩, hle⟩ : ∃ p, ldR st t ((x.r b + m) % 4294967296) 4 1 = p := ⟨_, rfl⟩
  rw [hle] at HLd he
  simp only at HLd he
  have heb : (le != 0) = true := bne_iff_ne.2 he
  clear he hle
  clear h hf f1 f2 f3 ok mi ai bi
  generalize x.r b = rb at *
  go_enter Try.func44, Try.ntmps44
  go_wp2_with (first
    | (go_at_call 65; refine (HRd.out _ Hmd.out).mono ?_; rintro e w1 ⟨rfl, hm1⟩; have Hm1 := Lib.hid hm1; clear hm1 c16 c17)
    | (go_at_call 82; refine (HDc.out _ Hm1.out).mono ?_; rintro e w2 ⟨rfl, hm2⟩; obtain ⟨e0, e1, ef, ca, cb, c16, yf, yl, el, ne, c17⟩ := HK.out _ hm2; have Hm2 := Lib.hid hm2; clear hm2)
    | fail)
  go_region
  go_wp2_with (first | (go_at_call 28; refine (HL.out _ _).mono ?_; unfold low; rintro e w3 ⟨rfl, rfl⟩) | (go_at_call 83; refine (HLd.out _ (Hm2.out.to (by repeat (first | exact Fr.refl _ _ | (refine Fr.alloc ?_ _) | (refine Fr.drew ?_) | (refine Fr.drewN ?_ _) | (refine Fr.setCell ?_ (.inr (by simp; try omega)) _))))).mono ?_; rintro e w4 ⟨rfl, hm4, -⟩; have Hm4 := Lib.hid hm4; clear hm4) | (go_at_call 81; refine (HT.out 3 _ Hm4.out).mono ?_; rintro e w5 ⟨rfl, hm5⟩; clear e0 e1 ef; obtain ⟨e0, e1, ef, -, -, -, -, -, el4, -, -⟩ := HK.out _ hm5; have Hm5 := Lib.hid hm5; clear hm5) | fail)
  have HE := rev_end Hm5.out.hv Hm5.out.hm (Hm5.out.fr.mono (by simp)) Hm5.out.ev 2 3
  refine bodyPost_ret (v := .agg #[.int .i64 2, .int .i64 3]) ?_ rfl (RStepQ.to HE.2 (by repeat (first | exact Fr.refl _ _ | (refine Fr.alloc ?_ _) | (refine Fr.drew ?_) | (refine Fr.drewN ?_ _) | (refine Fr.setCell ?_ (.inr (by simp; try omega)) _))))
  exact results_cell_row Try.results44 _ _ w.heap.size 65 _ (0, 0) _ rfl (HE.1.fr (S := []) (by repeat (first | exact Fr.refl _ _ | (refine Fr.alloc ?_ _) | (refine Fr.drew ?_) | (refine Fr.drewN ?_ _) | (refine Fr.setCell ?_ (.inr (by simp; try omega)) _))) (by simp)) Try.underlying65 rfl (by kernel_rfl)
set_option maxHeartbeats 8000000 in
theorem rs_21 (y q G bt mm cap : Nat) (x : Vm) (st : St) (A : Option Addr) (t : List Pg) (w : World) (h : RPre w y q G bt mm cap A t x st) (a b : Nat) (m : Int) (he : (ldR st t ((x.r b + m) % 4294967296) 4 1).2 = 0) (hf : fetI x st t = (⟨21, a, b, m⟩, 0)) :
    Calls Try.prog 44 #[ptr y, ptr q, .slice A mm cap] w (RStepQ w y q G (0, 0) (putP (putR x a ((ldR st t ((x.r b + m) % 4294967296) 4 1).1 % 4294967296)) ((x.pl + 4) % 4294967296)) st) := by
  have Hmd := Lib.hid h.md
  have HL := Lib.hid rLow_any
  obtain ⟨f1, f2, f3⟩ := fet_parts hf
  obtain ⟨ai, bi, mi, ok⟩ := fet_good hf
  have HRd := Lib.hid (fun W (h : RMd w y q G bt mm cap A t x st W) => h.read)
  have HDc := Lib.hid (fun W (h : RMd w y q G bt mm cap A t x st W) => h.dec ⟨(rdR st t x.pl 4 4).1.toArray⟩)
  rw [f3] at HDc
  rw [f2] at HRd
  have HT := Lib.hid (fun n W (h : RMd w y q G bt mm cap A t x st W) => h.trap n)
  have hyl := h.hv.lt
  have c17 := h.hv.waits
  have c16 := h.hv.place
  rw [f1] at c17
  have hp0 : 0 ≤ x.pl := h.hv.p.1
  have hp1 : x.pl < 4294967296 := h.hv.p.2
  have ha0 : 0 ≤ x.r a := (h.hv.r a).1
  have ha1 : x.r a < 4294967296 := (h.hv.r a).2
  have hb0 : 0 ≤ x.r b := (h.hv.r b).1
  have hb1 : x.r b < 4294967296 := (h.hv.r b).2
  have HK := Lib.hid (fun W (h : RMd w y q G bt mm cap A t x st W) => (show W.cell? ⟨w.heap.size, 0, none⟩ = some (.int .i64 0) ∧ W.cell? ⟨w.heap.size, 1, none⟩ = some (.int .i64 0) ∧ (∀ i, W.frozen? ⟨w.heap.size, i, none⟩ = false) ∧ W.cell? ⟨y, a, none⟩ = some (.int .i64 (x.r a)) ∧ W.cell? ⟨y, b, none⟩ = some (.int .i64 (x.r b)) ∧ W.cell? ⟨y, 16, none⟩ = some (.int .i64 x.pl) ∧ (∀ i, W.frozen? ⟨y, i, none⟩ = false) ∧ y < W.heap.size ∧ w.heap.size < W.heap.size ∧ y ≠ w.heap.size ∧ W.cell? ⟨y, 17, none⟩ = some (.bool x.wt) from ⟨h.ev.cell 0, h.ev.cell 1, h.ev.frozen, h.hv.reg ai, h.hv.reg bi, h.hv.place, h.hv.frozen, h.hv.lt, h.lt, (h.hv.ne_ h.ev (by decide)).symm, h.hv.waits⟩))
  have HA := Lib.hid ai
  have haN : (0 : Int) ≤ (a : Int) := by omega
  have hbN : (0 : Int) ≤ (b : Int) := by omega
  have haM : (a : Int) < 16 := by omega
  have hbM : (b : Int) < 16 := by omega
  have hm0 := mi.1
  have hm1 := mi.2
  have HLd := Lib.hid (fun W (h : RMd w y q G bt mm cap A t x st W) => h.load2 4 ((x.r b + m) % 4294967296) (by omega))
  have hlb := ldR_u32 st t ((x.r b + m) % 4294967296) 4 1 (by simp)
  obtain ⟨⟨ln, le⟩, hle⟩ : ∃ p, ldR st t ((x.r b + m) % 4294967296) 4 1 = p := ⟨_, rfl⟩
  rw [hle] at HLd he hlb ⊢
  simp only at HLd he hlb ⊢
  have hlm : ln % 4294967296 = ln := by unfold u32b at hlb; omega
  rw [hlm]
  have HLb := Lib.hid hlb
  subst he
  clear hle hlm hlb
  clear h hf f1 f2 f3 ok mi ai bi
  generalize x.r b = rb at *
  go_enter Try.func44, Try.ntmps44
  go_wp2_with (first
    | (go_at_call 65; refine (HRd.out _ Hmd.out).mono ?_; rintro e w1 ⟨rfl, hm1⟩; have Hm1 := Lib.hid hm1; clear hm1 c16 c17)
    | (go_at_call 82; refine (HDc.out _ Hm1.out).mono ?_; rintro e w2 ⟨rfl, hm2⟩; obtain ⟨e0, e1, ef, ca, cb, c16, yf, yl, el, ne, c17⟩ := HK.out _ hm2; have Hm2 := Lib.hid hm2; clear hm2)
    | fail)
  go_region
  go_wp2_with (first | (go_at_call 28; refine (HL.out _ _).mono ?_; unfold low; rintro e w3 ⟨rfl, rfl⟩) | (go_at_call 83; refine (HLd.out _ (Hm2.out.to (by repeat (first | exact Fr.refl _ _ | (refine Fr.alloc ?_ _) | (refine Fr.drew ?_) | (refine Fr.drewN ?_ _) | (refine Fr.setCell ?_ (.inr (by simp; try omega)) _))))).mono ?_; rintro e w4 ⟨rfl, hm4, hf4⟩; clear e0 e1 ef ca cb c16 c17 yf yl el; obtain ⟨e0, e1, ef, ca, cb, c16, yf, yl, el, -, -⟩ := HK.out _ hm4; have ib := Blk.fr (g := w2.heap.size) (t := 53) (cs := #[.int .i64 21, .int .i64 a, .int .i64 b, .int .i64 m]) (by repeat (first | exact Blk.new _ _ _ | (refine Blk.drew ?_) | (refine Blk.alloc ?_ _))) hf4 (by simp); have db := Blk.fr (g := w2.heap.size + 1) (t := 65) (cs := #[.int .i64 0, .int .i64 0]) (by repeat (first | exact Blk.new' (by simp) | (refine Blk.drew ?_))) hf4 (by simp); have i0 : w4.cell? ⟨w2.heap.size, 0, none⟩ = some (.int .i64 21) := ib.cell 0; have i1 : w4.cell? ⟨w2.heap.size, 1, none⟩ = some (.int .i64 a) := ib.cell 1; have d0 : w4.cell? ⟨w2.heap.size + 1, 0, none⟩ = some (.int .i64 0) := db.cell 0; have d1 : w4.cell? ⟨w2.heap.size + 1, 1, none⟩ = some (.int .i64 0) := db.cell 1; have dn : w2.heap.size + 1 ≠ y := hm4.hv.ne_ db (by decide); have Hm4 := Lib.hid hm4; clear hm4 hf4 ib db) | fail)
  go_region
  go_wp2_with fail
  have HE := Hm4.out.finR HA.out (v := ln) (nx := ((x.pl + 4) % 4294967296)) HLb.out (by unfold u32b; omega)
  refine bodyPost_ret (v := .agg #[.int .i64 0, .int .i64 0]) ?_ rfl (RStepQ.to HE.2 (by repeat (first | exact Fr.refl _ _ | (refine Fr.alloc ?_ _) | (refine Fr.drew ?_) | (refine Fr.drewN ?_ _) | (refine Fr.setCell ?_ (.inr (by simp; try omega)) _))))
  exact results_cell_row Try.results44 _ _ w.heap.size 65 _ (0, 0) _ rfl (HE.1.fr (S := []) (by repeat (first | exact Fr.refl _ _ | (refine Fr.alloc ?_ _) | (refine Fr.drew ?_) | (refine Fr.drewN ?_ _) | (refine Fr.setCell ?_ (.inr (by simp; try omega)) _))) (by simp)) Try.underlying65 rfl (by kernel_rfl)
set_option maxHeartbeats 8000000 in
theorem rs_22_e (y q G bt mm cap : Nat) (x : Vm) (st : St) (A : Option Addr) (t : List Pg) (w : World) (h : RPre w y q G bt mm cap A t x st) (a b : Nat) (m : Int) (he : stE st t ((x.r b + m) % 4294967296) 1 (x.r a) ≠ 0) (hf : fetI x st t = (⟨22, a, b, m⟩, 0)) :
    Calls Try.prog 44 #[ptr y, ptr q, .slice A mm cap] w (RStepQ w y q G (2, 4) x st) := by
  have Hmd := Lib.hid h.md
  have HL := Lib.hid rLow_any
  obtain ⟨f1, f2, f3⟩ := fet_parts hf
  obtain ⟨ai, bi, mi, ok⟩ := fet_good hf
  have HRd := Lib.hid (fun W (h : RMd w y q G bt mm cap A t x st W) => h.read)
  have HDc := Lib.hid (fun W (h : RMd w y q G bt mm cap A t x st W) => h.dec ⟨(rdR st t x.pl 4 4).1.toArray⟩)
  rw [f3] at HDc
  rw [f2] at HRd
  have HT := Lib.hid (fun n W (h : RMd w y q G bt mm cap A t x st W) => h.trap n)
  have hyl := h.hv.lt
  have c17 := h.hv.waits
  have c16 := h.hv.place
  rw [f1] at c17
  have hp0 : 0 ≤ x.pl := h.hv.p.1
  have hp1 : x.pl < 4294967296 := h.hv.p.2
  have ha0 : 0 ≤ x.r a := (h.hv.r a).1
  have ha1 : x.r a < 4294967296 := (h.hv.r a).2
  have hb0 : 0 ≤ x.r b := (h.hv.r b).1
  have hb1 : x.r b < 4294967296 := (h.hv.r b).2
  have HK := Lib.hid (fun W (h : RMd w y q G bt mm cap A t x st W) => (show W.cell? ⟨w.heap.size, 0, none⟩ = some (.int .i64 0) ∧ W.cell? ⟨w.heap.size, 1, none⟩ = some (.int .i64 0) ∧ (∀ i, W.frozen? ⟨w.heap.size, i, none⟩ = false) ∧ W.cell? ⟨y, a, none⟩ = some (.int .i64 (x.r a)) ∧ W.cell? ⟨y, b, none⟩ = some (.int .i64 (x.r b)) ∧ W.cell? ⟨y, 16, none⟩ = some (.int .i64 x.pl) ∧ (∀ i, W.frozen? ⟨y, i, none⟩ = false) ∧ y < W.heap.size ∧ w.heap.size < W.heap.size ∧ y ≠ w.heap.size ∧ W.cell? ⟨y, 17, none⟩ = some (.bool x.wt) from ⟨h.ev.cell 0, h.ev.cell 1, h.ev.frozen, h.hv.reg ai, h.hv.reg bi, h.hv.place, h.hv.frozen, h.hv.lt, h.lt, (h.hv.ne_ h.ev (by decide)).symm, h.hv.waits⟩))
  have HA := Lib.hid ai
  have haN : (0 : Int) ≤ (a : Int) := by omega
  have hbN : (0 : Int) ≤ (b : Int) := by omega
  have haM : (a : Int) < 16 := by omega
  have hbM : (b : Int) < 16 := by omega
  have hm0 := mi.1
  have hm1 := mi.2
  have HSt := Lib.hid (fun W (hh : RMd w y q G bt mm cap A t x st W) => hh.store h.hG 1 ((x.r b + m) % 4294967296) (x.r a) (by omega))
  rw [stS_no he] at HSt
  obtain ⟨se, hse⟩ : ∃ p, stE st t ((x.r b + m) % 4294967296) 1 (x.r a) = p := ⟨_, rfl⟩
  rw [hse] at HSt he
  have heb : (se != 0) = true := bne_iff_ne.2 he
  clear he hse
  have HKe := Lib.hid (fun W (h : RMe w y q G x st W) => (show W.cell? ⟨w.heap.size, 0, none⟩ = some (.int .i64 0) ∧ W.cell? ⟨w.heap.size, 1, none⟩ = some (.int .i64 0) ∧ (∀ i, W.frozen? ⟨w.heap.size, i, none⟩ = false) from ⟨h.ev.cell 0, h.ev.cell 1, h.ev.frozen⟩))
  have HTe := Lib.hid (fun W (h : RMe w y q G x st W) => h.trap 4)
  clear h hf f1 f2 f3 ok mi ai bi
  generalize x.r b = rb at *
  generalize x.r a = ra at *
  go_enter Try.func44, Try.ntmps44
  go_wp2_with (first
    | (go_at_call 65; refine (HRd.out _ Hmd.out).mono ?_; rintro e w1 ⟨rfl, hm1⟩; have Hm1 := Lib.hid hm1; clear hm1 c16 c17)
    | (go_at_call 82; refine (HDc.out _ Hm1.out).mono ?_; rintro e w2 ⟨rfl, hm2⟩; obtain ⟨e0, e1, ef, ca, cb, c16, yf, yl, el, ne, c17⟩ := HK.out _ hm2; have Hm2 := Lib.hid hm2; clear hm2)
    | fail)
  go_region
  go_wp2_with (first | (go_at_call 28; refine (HL.out _ _).mono ?_; unfold low; rintro e w3 ⟨rfl, rfl⟩) | (go_at_call 84; refine (HSt.out _ (Hm2.out.to (by repeat (first | exact Fr.refl _ _ | (refine Fr.alloc ?_ _) | (refine Fr.drew ?_) | (refine Fr.drewN ?_ _) | (refine Fr.setCell ?_ (.inr (by simp; try omega)) _))))).mono ?_; rintro e w4 ⟨rfl, hm4, -⟩; have Hm4 := Lib.hid hm4; clear hm4) | (go_at_call 81; refine (HTe.out _ Hm4.out).mono ?_; rintro e w5 ⟨rfl, hm5⟩; clear e0 e1 ef; obtain ⟨e0, e1, ef⟩ := HKe.out _ hm5; have Hm5 := Lib.hid hm5; clear hm5) | fail)
  have HE := rev_end Hm5.out.hv Hm5.out.hm Hm5.out.fr Hm5.out.ev 2 4
  refine bodyPost_ret (v := .agg #[.int .i64 2, .int .i64 4]) ?_ rfl (RStepQ.to HE.2 (by repeat (first | exact Fr.refl _ _ | (refine Fr.alloc ?_ _) | (refine Fr.drew ?_) | (refine Fr.drewN ?_ _) | (refine Fr.setCell ?_ (.inr (by simp; try omega)) _))))
  exact results_cell_row Try.results44 _ _ w.heap.size 65 _ (0, 0) _ rfl (HE.1.fr (S := []) (by repeat (first | exact Fr.refl _ _ | (refine Fr.alloc ?_ _) | (refine Fr.drew ?_) | (refine Fr.drewN ?_ _) | (refine Fr.setCell ?_ (.inr (by simp; try omega)) _))) (by simp)) Try.underlying65 rfl (by kernel_rfl)
set_option maxHeartbeats 8000000 in
theorem rs_22 (y q G bt mm cap : Nat) (x : Vm) (st : St) (A : Option Addr) (t : List Pg) (w : World) (h : RPre w y q G bt mm cap A t x st) (a b : Nat) (m : Int) (he : stE st t ((x.r b + m) % 4294967296) 1 (x.r a) = 0) (hf : fetI x st t = (⟨22, a, b, m⟩, 0)) :
    Calls Try.prog 44 #[ptr y, ptr q, .slice A mm cap] w (RStepQ w y q G (0, 0) (putP x ((x.pl + 4) % 4294967296)) (stS st t ((x.r b + m) % 4294967296) 1 (x.r a))) := by
  have Hmd := Lib.hid h.md
  have HL := Lib.hid rLow_any
  obtain ⟨f1, f2, f3⟩ := fet_parts hf
  obtain ⟨ai, bi, mi, ok⟩ := fet_good hf
  have HRd := Lib.hid (fun W (h : RMd w y q G bt mm cap A t x st W) => h.read)
  have HDc := Lib.hid (fun W (h : RMd w y q G bt mm cap A t x st W) => h.dec ⟨(rdR st t x.pl 4 4).1.toArray⟩)
  rw [f3] at HDc
  rw [f2] at HRd
  have HT := Lib.hid (fun n W (h : RMd w y q G bt mm cap A t x st W) => h.trap n)
  have hyl := h.hv.lt
  have c17 := h.hv.waits
  have c16 := h.hv.place
  rw [f1] at c17
  have hp0 : 0 ≤ x.pl := h.hv.p.1
  have hp1 : x.pl < 4294967296 := h.hv.p.2
  have ha0 : 0 ≤ x.r a := (h.hv.r a).1
  have ha1 : x.r a < 4294967296 := (h.hv.r a).2
  have hb0 : 0 ≤ x.r b := (h.hv.r b).1
  have hb1 : x.r b < 4294967296 := (h.hv.r b).2
  have HK := Lib.hid (fun W (h : RMd w y q G bt mm cap A t x st W) => (show W.cell? ⟨w.heap.size, 0, none⟩ = some (.int .i64 0) ∧ W.cell? ⟨w.heap.size, 1, none⟩ = some (.int .i64 0) ∧ (∀ i, W.frozen? ⟨w.heap.size, i, none⟩ = false) ∧ W.cell? ⟨y, a, none⟩ = some (.int .i64 (x.r a)) ∧ W.cell? ⟨y, b, none⟩ = some (.int .i64 (x.r b)) ∧ W.cell? ⟨y, 16, none⟩ = some (.int .i64 x.pl) ∧ (∀ i, W.frozen? ⟨y, i, none⟩ = false) ∧ y < W.heap.size ∧ w.heap.size < W.heap.size ∧ y ≠ w.heap.size ∧ W.cell? ⟨y, 17, none⟩ = some (.bool x.wt) from ⟨h.ev.cell 0, h.ev.cell 1, h.ev.frozen, h.hv.reg ai, h.hv.reg bi, h.hv.place, h.hv.frozen, h.hv.lt, h.lt, (h.hv.ne_ h.ev (by decide)).symm, h.hv.waits⟩))
  have HA := Lib.hid ai
  have haN : (0 : Int) ≤ (a : Int) := by omega
  have hbN : (0 : Int) ≤ (b : Int) := by omega
  have haM : (a : Int) < 16 := by omega
  have hbM : (b : Int) < 16 := by omega
  have hm0 := mi.1
  have hm1 := mi.2
  have HSt := Lib.hid (fun W (hh : RMd w y q G bt mm cap A t x st W) => hh.store h.hG 1 ((x.r b + m) % 4294967296) (x.r a) (by omega))
  rw [he] at HSt
  clear he
  obtain ⟨S', hS'⟩ : ∃ p, stS st t ((x.r b + m) % 4294967296) 1 (x.r a) = p := ⟨_, rfl⟩
  rw [hS'] at HSt ⊢
  clear hS'
  have HKe := Lib.hid (fun W (h : RMe w y q G x S' W) => (show W.cell? ⟨w.heap.size, 0, none⟩ = some (.int .i64 0) ∧ W.cell? ⟨w.heap.size, 1, none⟩ = some (.int .i64 0) ∧ (∀ i, W.frozen? ⟨w.heap.size, i, none⟩ = false) ∧ W.cell? ⟨y, 16, none⟩ = some (.int .i64 x.pl) ∧ (∀ i, W.frozen? ⟨y, i, none⟩ = false) from ⟨h.ev.cell 0, h.ev.cell 1, h.ev.frozen, h.hv.place, h.hv.frozen⟩))
  clear h hf f1 f2 f3 ok mi ai bi
  generalize x.r b = rb at *
  generalize x.r a = ra at *
  go_enter Try.func44, Try.ntmps44
  go_wp2_with (first
    | (go_at_call 65; refine (HRd.out _ Hmd.out).mono ?_; rintro e w1 ⟨rfl, hm1⟩; have Hm1 := Lib.hid hm1; clear hm1 c16 c17)
    | (go_at_call 82; refine (HDc.out _ Hm1.out).mono ?_; rintro e w2 ⟨rfl, hm2⟩; obtain ⟨e0, e1, ef, ca, cb, c16, yf, yl, el, ne, c17⟩ := HK.out _ hm2; have Hm2 := Lib.hid hm2; clear hm2)
    | fail)
  go_region
  have hGl := Hm2.out.hm.ltG
  go_wp2_with (first | (go_at_call 28; refine (HL.out _ _).mono ?_; unfold low; rintro e w3 ⟨rfl, rfl⟩) | (go_at_call 84; refine (HSt.out _ (Hm2.out.to (by repeat (first | exact Fr.refl _ _ | (refine Fr.alloc ?_ _) | (refine Fr.drew ?_) | (refine Fr.drewN ?_ _) | (refine Fr.setCell ?_ (.inr (by simp; try omega)) _))))).mono ?_; rintro e w4 ⟨rfl, hm4, hf4⟩; clear e0 e1 ef ca cb c16 c17 yf yl el; obtain ⟨e0, e1, ef, c16, yf⟩ := HKe.out _ hm4; have db := Blk.fr (g := w2.heap.size + 1) (t := 65) (cs := #[.int .i64 0, .int .i64 0]) (by repeat (first | exact Blk.new' (by simp) | (refine Blk.drew ?_))) hf4 (by simp; omega); have d0 : w4.cell? ⟨w2.heap.size + 1, 0, none⟩ = some (.int .i64 0) := db.cell 0; have d1 : w4.cell? ⟨w2.heap.size + 1, 1, none⟩ = some (.int .i64 0) := db.cell 1; have dn : w2.heap.size + 1 ≠ y := hm4.hv.ne_ db (by decide); have Hm4 := Lib.hid hm4; clear hm4 hf4 db) | fail)
  have HE := rdone_end (nx := ((x.pl + 4) % 4294967296)) (by unfold u32b; omega) Hm4.out.hv rfl Hm4.out.hm Hm4.out.fr Hm4.out.ev 0 0
  refine bodyPost_ret (v := .agg #[.int .i64 0, .int .i64 0]) ?_ rfl (RStepQ.to HE.2 (by repeat (first | exact Fr.refl _ _ | (refine Fr.alloc ?_ _) | (refine Fr.drew ?_) | (refine Fr.drewN ?_ _) | (refine Fr.setCell ?_ (.inr (by simp; try omega)) _))))
  exact results_cell_row Try.results44 _ _ w.heap.size 65 _ (0, 0) _ rfl (HE.1.fr (S := []) (by repeat (first | exact Fr.refl _ _ | (refine Fr.alloc ?_ _) | (refine Fr.drew ?_) | (refine Fr.drewN ?_ _) | (refine Fr.setCell ?_ (.inr (by simp; try omega)) _))) (by simp)) Try.underlying65 rfl (by kernel_rfl)
set_option maxHeartbeats 8000000 in
theorem rs_23_e (y q G bt mm cap : Nat) (x : Vm) (st : St) (A : Option Addr) (t : List Pg) (w : World) (h : RPre w y q G bt mm cap A t x st) (a b : Nat) (m : Int) (he : stE st t ((x.r b + m) % 4294967296) 4 (x.r a) ≠ 0) (hf : fetI x st t = (⟨23, a, b, m⟩, 0)) :
    Calls Try.prog 44 #[ptr y, ptr q, .slice A mm cap] w (RStepQ w y q G (2, 4) x st) := by
  have Hmd := Lib.hid h.md
  have HL := Lib.hid rLow_any
  obtain ⟨f1, f2, f3⟩ := fet_parts hf
  obtain ⟨ai, bi, mi, ok⟩ := fet_good hf
  have HRd := Lib.hid (fun W (h : RMd w y q G bt mm cap A t x st W) => h.read)
  have HDc := Lib.hid (fun W (h : RMd w y q G bt mm cap A t x st W) => h.dec ⟨(rdR st t x.pl 4 4).1.toArray⟩)
  rw [f3] at HDc
  rw [f2] at HRd
  have HT := Lib.hid (fun n W (h : RMd w y q G bt mm cap A t x st W) => h.trap n)
  have hyl := h.hv.lt
  have c17 := h.hv.waits
  have c16 := h.hv.place
  rw [f1] at c17
  have hp0 : 0 ≤ x.pl := h.hv.p.1
  have hp1 : x.pl < 4294967296 := h.hv.p.2
  have ha0 : 0 ≤ x.r a := (h.hv.r a).1
  have ha1 : x.r a < 4294967296 := (h.hv.r a).2
  have hb0 : 0 ≤ x.r b := (h.hv.r b).1
  have hb1 : x.r b < 4294967296 := (h.hv.r b).2
  have HK := Lib.hid (fun W (h : RMd w y q G bt mm cap A t x st W) => (show W.cell? ⟨w.heap.size, 0, none⟩ = some (.int .i64 0) ∧ W.cell? ⟨w.heap.size, 1, none⟩ = some (.int .i64 0) ∧ (∀ i, W.frozen? ⟨w.heap.size, i, none⟩ = false) ∧ W.cell? ⟨y, a, none⟩ = some (.int .i64 (x.r a)) ∧ W.cell? ⟨y, b, none⟩ = some (.int .i64 (x.r b)) ∧ W.cell? ⟨y, 16, none⟩ = some (.int .i64 x.pl) ∧ (∀ i, W.frozen? ⟨y, i, none⟩ = false) ∧ y < W.heap.size ∧ w.heap.size < W.heap.size ∧ y ≠ w.heap.size ∧ W.cell? ⟨y, 17, none⟩ = some (.bool x.wt) from ⟨h.ev.cell 0, h.ev.cell 1, h.ev.frozen, h.hv.reg ai, h.hv.reg bi, h.hv.place, h.hv.frozen, h.hv.lt, h.lt, (h.hv.ne_ h.ev (by decide)).symm, h.hv.waits⟩))
  have HA := Lib.hid ai
  have haN : (0 : Int) ≤ (a : Int) := by omega
  have hbN : (0 : Int) ≤ (b : Int) := by omega
  have haM : (a : Int) < 16 := by omega
  have hbM : (b : Int) < 16 := by omega
  have hm0 := mi.1
  have hm1 := mi.2
  have HSt := Lib.hid (fun W (hh : RMd w y q G bt mm cap A t x st W) => hh.store h.hG 4 ((x.r b + m) % 4294967296) (x.r a) (by omega))
  rw [stS_no he] at HSt
  obtain ⟨se, hse⟩ : ∃ p, stE st t ((x.r b + m) % 4294967296) 4 (x.r a) = p := ⟨_, rfl⟩
  rw [hse] at HSt he
  have heb : (se != 0) = true := bne_iff_ne.2 he
  clear he hse
  have HKe := Lib.hid (fun W (h : RMe w y q G x st W) => (show W.cell? ⟨w.heap.size, 0, none⟩ = some (.int .i64 0) ∧ W.cell? ⟨w.heap.size, 1, none⟩ = some (.int .i64 0) ∧ (∀ i, W.frozen? ⟨w.heap.size, i, none⟩ = false) from ⟨h.ev.cell 0, h.ev.cell 1, h.ev.frozen⟩))
  have HTe := Lib.hid (fun W (h : RMe w y q G x st W) => h.trap 4)
  clear h hf f1 f2 f3 ok mi ai bi
  generalize x.r b = rb at *
  generalize x.r a = ra at *
  go_enter Try.func44, Try.ntmps44
  go_wp2_with (first
    | (go_at_call 65; refine (HRd.out _ Hmd.out).mono ?_; rintro e w1 ⟨rfl, hm1⟩; have Hm1 := Lib.hid hm1; clear hm1 c16 c17)
    | (go_at_call 82; refine (HDc.out _ Hm1.out).mono ?_; rintro e w2 ⟨rfl, hm2⟩; obtain ⟨e0, e1, ef, ca, cb, c16, yf, yl, el, ne, c17⟩ := HK.out _ hm2; have Hm2 := Lib.hid hm2; clear hm2)
    | fail)
  go_region
  go_wp2_with (first | (go_at_call 28; refine (HL.out _ _).mono ?_; unfold low; rintro e w3 ⟨rfl, rfl⟩) | (go_at_call 84; refine (HSt.out _ (Hm2.out.to (by repeat (first | exact Fr.refl _ _ | (refine Fr.alloc ?_ _) | (refine Fr.drew ?_) | (refine Fr.drewN ?_ _) | (refine Fr.setCell ?_ (.inr (by simp; try omega)) _))))).mono ?_; rintro e w4 ⟨rfl, hm4, -⟩; have Hm4 := Lib.hid hm4; clear hm4) | (go_at_call 81; refine (HTe.out _ Hm4.out).mono ?_; rintro e w5 ⟨rfl, hm5⟩; clear e0 e1 ef; obtain ⟨e0, e1, ef⟩ := HKe.out _ hm5; have Hm5 := Lib.hid hm5; clear hm5) | fail)
  have HE := rev_end Hm5.out.hv Hm5.out.hm Hm5.out.fr Hm5.out.ev 2 4
  refine bodyPost_ret (v := .agg #[.int .i64 2, .int .i64 4]) ?_ rfl (RStepQ.to HE.2 (by repeat (first | exact Fr.refl _ _ | (refine Fr.alloc ?_ _) | (refine Fr.drew ?_) | (refine Fr.drewN ?_ _) | (refine Fr.setCell ?_ (.inr (by simp; try omega)) _))))
  exact results_cell_row Try.results44 _ _ w.heap.size 65 _ (0, 0) _ rfl (HE.1.fr (S := []) (by repeat (first | exact Fr.refl _ _ | (refine Fr.alloc ?_ _) | (refine Fr.drew ?_) | (refine Fr.drewN ?_ _) | (refine Fr.setCell ?_ (.inr (by simp; try omega)) _))) (by simp)) Try.underlying65 rfl (by kernel_rfl)
set_option maxHeartbeats 8000000 in
theorem rs_23 (y q G bt mm cap : Nat) (x : Vm) (st : St) (A : Option Addr) (t : List Pg) (w : World) (h : RPre w y q G bt mm cap A t x st) (a b : Nat) (m : Int) (he : stE st t ((x.r b + m) % 4294967296) 4 (x.r a) = 0) (hf : fetI x st t = (⟨23, a, b, m⟩, 0)) :
    Calls Try.prog 44 #[ptr y, ptr q, .slice A mm cap] w (RStepQ w y q G (0, 0) (putP x ((x.pl + 4) % 4294967296)) (stS st t ((x.r b + m) % 4294967296) 4 (x.r a))) := by
  have Hmd := Lib.hid h.md
  have HL := Lib.hid rLow_any
  obtain ⟨f1, f2, f3⟩ := fet_parts hf
  obtain ⟨ai, bi, mi, ok⟩ := fet_good hf
  have HRd := Lib.hid (fun W (h : RMd w y q G bt mm cap A t x st W) => h.read)
  have HDc := Lib.hid (fun W (h : RMd w y q G bt mm cap A t x st W) => h.dec ⟨(rdR st t x.pl 4 4).1.toArray⟩)
  rw [f3] at HDc
  rw [f2] at HRd
  have HT := Lib.hid (fun n W (h : RMd w y q G bt mm cap A t x st W) => h.trap n)
  have hyl := h.hv.lt
  have c17 := h.hv.waits
  have c16 := h.hv.place
  rw [f1] at c17
  have hp0 : 0 ≤ x.pl := h.hv.p.1
  have hp1 : x.pl < 4294967296 := h.hv.p.2
  have ha0 : 0 ≤ x.r a := (h.hv.r a).1
  have ha1 : x.r a < 4294967296 := (h.hv.r a).2
  have hb0 : 0 ≤ x.r b := (h.hv.r b).1
  have hb1 : x.r b < 4294967296 := (h.hv.r b).2
  have HK := Lib.hid (fun W (h : RMd w y q G bt mm cap A t x st W) => (show W.cell? ⟨w.heap.size, 0, none⟩ = some (.int .i64 0) ∧ W.cell? ⟨w.heap.size, 1, none⟩ = some (.int .i64 0) ∧ (∀ i, W.frozen? ⟨w.heap.size, i, none⟩ = false) ∧ W.cell? ⟨y, a, none⟩ = some (.int .i64 (x.r a)) ∧ W.cell? ⟨y, b, none⟩ = some (.int .i64 (x.r b)) ∧ W.cell? ⟨y, 16, none⟩ = some (.int .i64 x.pl) ∧ (∀ i, W.frozen? ⟨y, i, none⟩ = false) ∧ y < W.heap.size ∧ w.heap.size < W.heap.size ∧ y ≠ w.heap.size ∧ W.cell? ⟨y, 17, none⟩ = some (.bool x.wt) from ⟨h.ev.cell 0, h.ev.cell 1, h.ev.frozen, h.hv.reg ai, h.hv.reg bi, h.hv.place, h.hv.frozen, h.hv.lt, h.lt, (h.hv.ne_ h.ev (by decide)).symm, h.hv.waits⟩))
  have HA := Lib.hid ai
  have haN : (0 : Int) ≤ (a : Int) := by omega
  have hbN : (0 : Int) ≤ (b : Int) := by omega
  have haM : (a : Int) < 16 := by omega
  have hbM : (b : Int) < 16 := by omega
  have hm0 := mi.1
  have hm1 := mi.2
  have HSt := Lib.hid (fun W (hh : RMd w y q G bt mm cap A t x st W) => hh.store h.hG 4 ((x.r b + m) % 4294967296) (x.r a) (by omega))
  rw [he] at HSt
  clear he
  obtain ⟨S', hS'⟩ : ∃ p, stS st t ((x.r b + m) % 4294967296) 4 (x.r a) = p := ⟨_, rfl⟩
  rw [hS'] at HSt ⊢
  clear hS'
  have HKe := Lib.hid (fun W (h : RMe w y q G x S' W) => (show W.cell? ⟨w.heap.size, 0, none⟩ = some (.int .i64 0) ∧ W.cell? ⟨w.heap.size, 1, none⟩ = some (.int .i64 0) ∧ (∀ i, W.frozen? ⟨w.heap.size, i, none⟩ = false) ∧ W.cell? ⟨y, 16, none⟩ = some (.int .i64 x.pl) ∧ (∀ i, W.frozen? ⟨y, i, none⟩ = false) from ⟨h.ev.cell 0, h.ev.cell 1, h.ev.frozen, h.hv.place, h.hv.frozen⟩))
  clear h hf f1 f2 f3 ok mi ai bi
  generalize x.r b = rb at *
  generalize x.r a = ra at *
  go_enter Try.func44, Try.ntmps44
  go_wp2_with (first
    | (go_at_call 65; refine (HRd.out _ Hmd.out).mono ?_; rintro e w1 ⟨rfl, hm1⟩; have Hm1 := Lib.hid hm1; clear hm1 c16 c17)
    | (go_at_call 82; refine (HDc.out _ Hm1.out).mono ?_; rintro e w2 ⟨rfl, hm2⟩; obtain ⟨e0, e1, ef, ca, cb, c16, yf, yl, el, ne, c17⟩ := HK.out _ hm2; have Hm2 := Lib.hid hm2; clear hm2)
    | fail)
  go_region
  have hGl := Hm2.out.hm.ltG
  go_wp2_with (first | (go_at_call 28; refine (HL.out _ _).mono ?_; unfold low; rintro e w3 ⟨rfl, rfl⟩) | (go_at_call 84; refine (HSt.out _ (Hm2.out.to (by repeat (first | exact Fr.refl _ _ | (refine Fr.alloc ?_ _) | (refine Fr.drew ?_) | (refine Fr.drewN ?_ _) | (refine Fr.setCell ?_ (.inr (by simp; try omega)) _))))).mono ?_; rintro e w4 ⟨rfl, hm4, hf4⟩; clear e0 e1 ef ca cb c16 c17 yf yl el; obtain ⟨e0, e1, ef, c16, yf⟩ := HKe.out _ hm4; have db := Blk.fr (g := w2.heap.size + 1) (t := 65) (cs := #[.int .i64 0, .int .i64 0]) (by repeat (first | exact Blk.new' (by simp) | (refine Blk.drew ?_))) hf4 (by simp; omega); have d0 : w4.cell? ⟨w2.heap.size + 1, 0, none⟩ = some (.int .i64 0) := db.cell 0; have d1 : w4.cell? ⟨w2.heap.size + 1, 1, none⟩ = some (.int .i64 0) := db.cell 1; have dn : w2.heap.size + 1 ≠ y := hm4.hv.ne_ db (by decide); have Hm4 := Lib.hid hm4; clear hm4 hf4 db) | fail)
  have HE := rdone_end (nx := ((x.pl + 4) % 4294967296)) (by unfold u32b; omega) Hm4.out.hv rfl Hm4.out.hm Hm4.out.fr Hm4.out.ev 0 0
  refine bodyPost_ret (v := .agg #[.int .i64 0, .int .i64 0]) ?_ rfl (RStepQ.to HE.2 (by repeat (first | exact Fr.refl _ _ | (refine Fr.alloc ?_ _) | (refine Fr.drew ?_) | (refine Fr.drewN ?_ _) | (refine Fr.setCell ?_ (.inr (by simp; try omega)) _))))
  exact results_cell_row Try.results44 _ _ w.heap.size 65 _ (0, 0) _ rfl (HE.1.fr (S := []) (by repeat (first | exact Fr.refl _ _ | (refine Fr.alloc ?_ _) | (refine Fr.drew ?_) | (refine Fr.drewN ?_ _) | (refine Fr.setCell ?_ (.inr (by simp; try omega)) _))) (by simp)) Try.underlying65 rfl (by kernel_rfl)
end Go.Proofs.Ytonongaakieciaa
