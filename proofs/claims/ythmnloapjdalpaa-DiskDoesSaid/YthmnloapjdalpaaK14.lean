/- plays: a call on both disks, each way. -/
import Derived.Test.YthmnloapjdalpaaK13
namespace Go.Proofs.Ythmnloapjdalpaa
open Go.RowKit
set_option linter.unusedVariables false
set_option linter.unusedSimpArgs false
set_option maxRecDepth 100000 in
set_option maxHeartbeats 1000000 in
theorem plays1 {z : List Nat} {w : World} {p q : Nat} {d : Dk} {x : OpD} {cA : Option Addr} {cl cc : Nat} (h : PlayA z w p q d x cA cl cc) (hk : x.kind = 1) : Calls Try.prog 51 #[ptr p, ptr q, .agg (x.v (.slice cA cl cc))] w (PlayP z w p q) := by
  obtain ⟨w1, hw1⟩ : ∃ w1, w.alloc (.cells (x.v (.slice cA cl cc)) 94) = w1 := ⟨_, rfl⟩
  have HB := h.b hw1
  have HX := Lib.hid HB.box
  have HE := Lib.hid HB.fin
  have HZ := Lib.hid HB.zw
  have hd := HB.h
  have hA := (wf_le h.f.a).2
  have hB := (wf_le h.f.b).2
  have H86 := Lib.hid (fun W x' y' (hh : Prz z w1 W p q x' y') => (show Calls Try.prog 86 #[.agg (x.v (.slice cA cl cc))] W fun e w' => e = .returned (.string (sectorT x.s x.c)) ∧ Prz z w1 w' p q x' y' from (sector_any (.int .i64 x.on) (.int .i64 x.kind) (.int .i64 x.a) (.int .i64 x.b) (.slice cA cl cc) x.c x.s h.f.s W).mono fun e w' ⟨he, hf⟩ => ⟨he, hh.to hf⟩))
  have hss := sectorT_size x.s x.c h.f.s
  have H1 := Lib.hid (fun W (hh : Prz z w1 W p q d d) => hh.write x.a (sectorT x.s x.c) hss)
  have H2 := Lib.hid (fun W (hh : Prz z w1 W p q (d.writeS x.a (sectorT x.s x.c)) d) => hh.rwrite x.a (sectorT x.s x.c))
  unfold OpD.v at H86
  rw [hk] at H86
  clear hss
  unfold OpD.v at hw1 ⊢
  rw [hk] at HX hw1 ⊢
  obtain ⟨m0, m1, m2, m3, m4, m5, m6⟩ := HX.out _ hd.fr
  clear h HB hA hB
  generalize d.writeS x.a (sectorT x.s x.c) = D at *
  generalize d.writeE x.a (sectorT x.s x.c) = E at *
  generalize sectorT x.s x.c = S at *
  go_enter Try.func51, Try.ntmps51
  go_wp2_with fail
  have hd := hd.to (Fr.refl [] _).drew
  have k0 := HX.out _ hd.fr
  go_region_held3 (fun W => W.cell? ⟨w.heap.size, 0, none⟩ = some (.int .i64 x.on) ∧ W.cell? ⟨w.heap.size, 1, none⟩ = some (.int .i64 1) ∧ W.cell? ⟨w.heap.size, 2, none⟩ = some (.int .i64 x.a) ∧ W.cell? ⟨w.heap.size, 3, none⟩ = some (.int .i64 x.b) ∧ W.cell? ⟨w.heap.size, 4, none⟩ = some (.int .u8 (x.c.toNat : Int)) ∧ W.cell? ⟨w.heap.size, 5, none⟩ = some (.string x.s) ∧ W.cell? ⟨w.heap.size, 6, none⟩ = some (.slice cA cl cc))
    (first | exact kk | exact k0) (first
    | (go_at_call 86; have hq := H86.out _ _ _ hd; clear hd; refine hq.mono ?_; clear hq; rintro e w5 ⟨rfl, hd⟩; have kk := HX.out _ hd.fr)
    | (go_at_call 95; have hq := H2.out _ hd; clear hd; refine hq.mono ?_; clear hq; rintro e w5 ⟨rfl, hd⟩; have kk := HX.out _ hd.fr)
    | (go_at_call 30; have hq := H1.out _ hd; clear hd; refine hq.mono ?_; clear hq; rintro e w5 ⟨rfl, hd⟩; have kk := HX.out _ hd.fr))
  go_wp2_with fail
  go_ret
  exact HE.out _ _ hd
set_option maxRecDepth 100000 in
set_option maxHeartbeats 1000000 in
theorem plays2 {z : List Nat} {w : World} {p q : Nat} {d : Dk} {x : OpD} {cA : Option Addr} {cl cc : Nat} (h : PlayA z w p q d x cA cl cc) (hk : x.kind = 2) : Calls Try.prog 51 #[ptr p, ptr q, .agg (x.v (.slice cA cl cc))] w (PlayP z w p q) := by
  obtain ⟨w1, hw1⟩ : ∃ w1, w.alloc (.cells (x.v (.slice cA cl cc)) 94) = w1 := ⟨_, rfl⟩
  have HB := h.b hw1
  have HX := Lib.hid HB.box
  have HE := Lib.hid HB.fin
  have HZ := Lib.hid HB.zw
  have hd := HB.h
  have hA := (wf_le h.f.a).2
  have hB := (wf_le h.f.b).2
  have H1 := Lib.hid (fun W (hh : Prz z w1 W p q d d) => hh.flush x.a x.b hA hB)
  have H2 := Lib.hid (fun W (hh : Prz z w1 W p q (d.flushS x.a x.b) d) => hh.rflush x.a x.b hA hB)
  unfold OpD.v at hw1 ⊢
  rw [hk] at HX hw1 ⊢
  obtain ⟨m0, m1, m2, m3, m4, m5, m6⟩ := HX.out _ hd.fr
  clear h HB hA hB
  generalize d.flushS x.a x.b = D at *
  generalize d.flushE x.a x.b = E at *
  go_enter Try.func51, Try.ntmps51
  go_wp2_with fail
  have hd := hd.to (Fr.refl [] _).drew
  have k0 := HX.out _ hd.fr
  go_region_held3 (fun W => W.cell? ⟨w.heap.size, 0, none⟩ = some (.int .i64 x.on) ∧ W.cell? ⟨w.heap.size, 1, none⟩ = some (.int .i64 2) ∧ W.cell? ⟨w.heap.size, 2, none⟩ = some (.int .i64 x.a) ∧ W.cell? ⟨w.heap.size, 3, none⟩ = some (.int .i64 x.b) ∧ W.cell? ⟨w.heap.size, 4, none⟩ = some (.int .u8 (x.c.toNat : Int)) ∧ W.cell? ⟨w.heap.size, 5, none⟩ = some (.string x.s) ∧ W.cell? ⟨w.heap.size, 6, none⟩ = some (.slice cA cl cc))
    (first | exact kk | exact k0) (first
    | (go_at_call 96; have hq := H2.out _ hd; clear hd; refine hq.mono ?_; clear hq; rintro e w5 ⟨rfl, hd⟩; have kk := HX.out _ hd.fr)
    | (go_at_call 48; have hq := H1.out _ hd; clear hd; refine hq.mono ?_; clear hq; rintro e w5 ⟨rfl, hd⟩; have kk := HX.out _ hd.fr))
  go_wp2_with fail
  go_ret
  exact HE.out _ _ hd
set_option maxRecDepth 100000 in
set_option maxHeartbeats 1000000 in
theorem plays4 {z : List Nat} {w : World} {p q : Nat} {d : Dk} {x : OpD} {cA : Option Addr} {cl cc : Nat} (h : PlayA z w p q d x cA cl cc) (hk : x.kind = 4) : Calls Try.prog 51 #[ptr p, ptr q, .agg (x.v (.slice cA cl cc))] w (PlayP z w p q) := by
  obtain ⟨w1, hw1⟩ : ∃ w1, w.alloc (.cells (x.v (.slice cA cl cc)) 94) = w1 := ⟨_, rfl⟩
  have HB := h.b hw1
  have HX := Lib.hid HB.box
  have HE := Lib.hid HB.fin
  have HZ := Lib.hid HB.zw
  have hd := HB.h
  have hA := (wf_le h.f.a).2
  have hB := (wf_le h.f.b).2
  have H1 := Lib.hid (fun W (hh : Prz z w1 W p q d d) => hh.crash (HZ.out _ hh.fr))
  have H2 := Lib.hid (fun W (hh : Prz z w1 W p q (d.crashS x.ch) d) => hh.rcrash (HZ.out _ hh.fr))
  unfold OpD.v at hw1 ⊢
  rw [hk] at HX hw1 ⊢
  obtain ⟨m0, m1, m2, m3, m4, m5, m6⟩ := HX.out _ hd.fr
  clear h HB hA hB
  generalize d.crashS x.ch = D at *
  generalize d.crashE = E at *
  go_enter Try.func51, Try.ntmps51
  go_wp2_with fail
  have hd := hd.to (Fr.refl [] _).drew
  have k0 := HX.out _ hd.fr
  go_region_held3 (fun W => W.cell? ⟨w.heap.size, 0, none⟩ = some (.int .i64 x.on) ∧ W.cell? ⟨w.heap.size, 1, none⟩ = some (.int .i64 4) ∧ W.cell? ⟨w.heap.size, 2, none⟩ = some (.int .i64 x.a) ∧ W.cell? ⟨w.heap.size, 3, none⟩ = some (.int .i64 x.b) ∧ W.cell? ⟨w.heap.size, 4, none⟩ = some (.int .u8 (x.c.toNat : Int)) ∧ W.cell? ⟨w.heap.size, 5, none⟩ = some (.string x.s) ∧ W.cell? ⟨w.heap.size, 6, none⟩ = some (.slice cA cl cc))
    (first | exact kk | exact k0) (first
    | (go_at_call 83; have hq := H2.out _ hd; clear hd; refine hq.mono ?_; clear hq; rintro e w5 ⟨rfl, hd⟩; have kk := HX.out _ hd.fr)
    | (go_at_call 32; have hq := H1.out _ hd; clear hd; refine hq.mono ?_; clear hq; rintro e w5 ⟨rfl, hd⟩; have kk := HX.out _ hd.fr))
  go_wp2_with fail
  go_ret
  exact HE.out _ _ hd
set_option maxRecDepth 100000 in
set_option maxHeartbeats 1000000 in
theorem plays7 {z : List Nat} {w : World} {p q : Nat} {d : Dk} {x : OpD} {cA : Option Addr} {cl cc : Nat} (h : PlayA z w p q d x cA cl cc) (hk : x.kind = 7) : Calls Try.prog 51 #[ptr p, ptr q, .agg (x.v (.slice cA cl cc))] w (PlayP z w p q) := by
  obtain ⟨w1, hw1⟩ : ∃ w1, w.alloc (.cells (x.v (.slice cA cl cc)) 94) = w1 := ⟨_, rfl⟩
  have HB := h.b hw1
  have HX := Lib.hid HB.box
  have HE := Lib.hid HB.fin
  have HZ := Lib.hid HB.zw
  have hd := HB.h
  have hA := (wf_le h.f.a).2
  have hB := (wf_le h.f.b).2
  have H1 := Lib.hid (fun W (hh : Prz z w1 W p q d d) => (hh.after (HZ.out _ hh.fr)).mono (R' := fun e w' => e = .returned (.string (d.after x.ch)) ∧ Prz z w1 w' p q d d) fun e w' ⟨he, hp, _⟩ => ⟨he, hp⟩)
  have H2 := Lib.hid (fun W (hh : Prz z w1 W p q d d) => hh.rafter (HZ.out _ hh.fr))
  unfold OpD.v at hw1 ⊢
  rw [hk] at HX hw1 ⊢
  obtain ⟨m0, m1, m2, m3, m4, m5, m6⟩ := HX.out _ hd.fr
  clear h HB hA hB
  generalize d.after x.ch = S at *
  go_enter Try.func51, Try.ntmps51
  go_wp2_with fail
  have hd := hd.to (Fr.refl [] _).drew
  have k0 := HX.out _ hd.fr
  go_region_held3 (fun W => W.cell? ⟨w.heap.size, 0, none⟩ = some (.int .i64 x.on) ∧ W.cell? ⟨w.heap.size, 1, none⟩ = some (.int .i64 7) ∧ W.cell? ⟨w.heap.size, 2, none⟩ = some (.int .i64 x.a) ∧ W.cell? ⟨w.heap.size, 3, none⟩ = some (.int .i64 x.b) ∧ W.cell? ⟨w.heap.size, 4, none⟩ = some (.int .u8 (x.c.toNat : Int)) ∧ W.cell? ⟨w.heap.size, 5, none⟩ = some (.string x.s) ∧ W.cell? ⟨w.heap.size, 6, none⟩ = some (.slice cA cl cc))
    (first | exact kk | exact k0) (first
    | (go_at_call 97; have hq := H2.out _ hd; clear hd; refine hq.mono ?_; clear hq; rintro e w5 ⟨rfl, hd⟩; have kk := HX.out _ hd.fr)
    | (go_at_call 49; have hq := H1.out _ hd; clear hd; refine hq.mono ?_; clear hq; rintro e w5 ⟨rfl, hd⟩; have kk := HX.out _ hd.fr))
  go_wp2_with fail
  go_ret
  exact HE.out _ _ hd
set_option maxRecDepth 100000 in
set_option maxHeartbeats 1000000 in
theorem plays5 {z : List Nat} {w : World} {p q : Nat} {d : Dk} {x : OpD} {cA : Option Addr} {cl cc : Nat} (h : PlayA z w p q d x cA cl cc) (hk : x.kind = 5) : Calls Try.prog 51 #[ptr p, ptr q, .agg (x.v (.slice cA cl cc))] w (PlayP z w p q) := by
  obtain ⟨w1, hw1⟩ : ∃ w1, w.alloc (.cells (x.v (.slice cA cl cc)) 94) = w1 := ⟨_, rfl⟩
  have HB := h.b hw1
  have HX := Lib.hid HB.box
  have HE := Lib.hid HB.fin
  have HZ := Lib.hid HB.zw
  have hd := HB.h
  have hA := (wf_le h.f.a).2
  have hB := (wf_le h.f.b).2
  have H1 := Lib.hid (fun W (hh : Prz z w1 W p q d d) => hh.revive)
  have H2 := Lib.hid (fun W (hh : Prz z w1 W p q d.revive d) => hh.rrevive)
  unfold OpD.v at hw1 ⊢
  rw [hk] at HX hw1 ⊢
  obtain ⟨m0, m1, m2, m3, m4, m5, m6⟩ := HX.out _ hd.fr
  clear h HB hA hB
  generalize d.revive = D at *
  go_enter Try.func51, Try.ntmps51
  go_wp2_with (first
    | (go_at_call 84; have hq := H2.out _ hd; clear hd; refine hq.mono ?_; clear hq; rintro e w5 ⟨rfl, hd⟩)
    | (go_at_call 33; have hq := H1.out _ hd; clear hd; refine hq.mono ?_; clear hq; rintro e w4 ⟨rfl, hd⟩))
  go_ret
  exact HE.out _ _ hd
set_option maxRecDepth 100000 in
set_option maxHeartbeats 1000000 in
theorem playsN {z : List Nat} {w : World} {p q : Nat} {d : Dk} {x : OpD} {cA : Option Addr} {cl cc : Nat} (h : PlayA z w p q d x cA cl cc) (hk : x.kind ≠ 0 ∧ x.kind ≠ 1 ∧ x.kind ≠ 2 ∧ x.kind ≠ 3 ∧ x.kind ≠ 4 ∧ x.kind ≠ 5 ∧ x.kind ≠ 7) : Calls Try.prog 51 #[ptr p, ptr q, .agg (x.v (.slice cA cl cc))] w (PlayP z w p q) := by
  obtain ⟨w1, hw1⟩ : ∃ w1, w.alloc (.cells (x.v (.slice cA cl cc)) 94) = w1 := ⟨_, rfl⟩
  have HB := h.b hw1
  have HX := Lib.hid HB.box
  have HE := Lib.hid HB.fin
  have HZ := Lib.hid HB.zw
  have hd := HB.h
  have hA := (wf_le h.f.a).2
  have hB := (wf_le h.f.b).2
  unfold OpD.v at hw1 ⊢
  obtain ⟨m0, m1, m2, m3, m4, m5, m6⟩ := HX.out _ hd.fr
  clear h HB hA hB
  obtain ⟨n0, n1, n2, n3, n4, n5, n7⟩ := hk
  go_enter Try.func51, Try.ntmps51
  go_wp2
  go_ret
  exact HE.out _ _ hd
end Go.Proofs.Ythmnloapjdalpaa
