/- plays: a call on both disks. plays: a call on both disks, each way. plays: Arm; any call. -/
import Derived.Test.YthmnloapjdalpaaK12
namespace Go.Proofs.Ythmnloapjdalpaa
open Go.RowKit
set_option linter.unusedVariables false
set_option linter.unusedSimpArgs false
/-- The numbers lie in none of z's blocks. -/
def Zaway (z : List Nat) (A : Option Addr) (l : List Int) : Prop := ∀ (j : Nat) (y : Int), l[j]? = some y → ∀ g o, A = some ⟨g, o, none⟩ → g ∉ z
theorem Zw.frz {w w' : World} {z : List Nat} {A : Option Addr} {n cap : Nat} {l : List Int} (h : Zw w (.slice A n cap) l) (ha : Zaway z A l) (hf : Fr z w w') : Zw w' (.slice A n cap) l := by
  obtain ⟨A', cap', h1, h2, h3, h4, h5⟩ := h
  refine ⟨A', cap', h1, h2, h3, h4, fun j x hj => ?_⟩
  obtain ⟨q, o, e1, e2, e3⟩ := h5 j x hj
  have hs := hf.size
  refine ⟨q, o, e1, by omega, hf.cell_some e3 (ha j x hj q o ?_)⟩
  injection h1 with hA _ _
  rw [hA]
  exact e1
def PlayP (z : List Nat) (w : World) (p q : Nat) (e : Ending) (w' : World) : Prop := e = .returned (.bool true) ∧ ∃ d', Prz z w w' p q d' d'
/-- A call's value. -/
abbrev OpD.v (x : OpD) (cv : Value) : Array Value := #[.int .i64 x.on, .int .i64 x.kind, .int .i64 x.a, .int .i64 x.b, .int .u8 (x.c.toNat : Int), .string x.s, cv]
/-- What a call on both is given. -/
structure PlayA (z : List Nat) (w : World) (p q : Nat) (d : Dk) (x : OpD) (cA : Option Addr) (cl cc : Nat) : Prop where
  h : Prz z w w p q d d
  lt : ∀ k, k ∈ z → k < w.heap.size
  pz : p ∈ z
  qz : q ∈ z
  f : x.Fine
  ch : Zw w (.slice cA cl cc) x.ch
  away : Zaway z cA x.ch
  b8 : cl * 8 ≤ 140737488355328
section
variable {z : List Nat} {w w1 W : World} {p q : Nat} {d d' : Dk} {x : OpD} {cA : Option Addr} {cl cc : Nat}
theorem Prz.rebase (h : Prz z w w p q d d') (hz : ∀ k, k ∈ z → k < w.heap.size) (hf : Fr [] w w1) : Prz z w1 w1 p q d d' := by
  obtain ⟨⟨f, g, m, ha, h1, h2, h3⟩, hy, q0⟩ := h
  have l1 := ha.ltp
  have l2 := ha.ltg
  have l3 := ha.ltm
  have l4 := hy.lt
  exact ⟨⟨Fr.refl _ _, g, m, ha.to hf, .inl (h1.resolve_right (by omega)), .inl (h2.resolve_right (by omega)), .inl (h3.resolve_right (by omega))⟩, hy.to hf, .inl (q0.resolve_right (by omega))⟩
theorem Prz.base (hf : Fr [] w w1) (h : Prz z w1 W p q d d') : Prz z w W p q d d' := by
  obtain ⟨⟨f, g, m, ha, h1, h2, h3⟩, hy, q0⟩ := h
  have hs := hf.size
  have up : ∀ k, k ∈ z ∨ w1.heap.size ≤ k → k ∈ z ∨ w.heap.size ≤ k := fun k hk => hk.imp id (fun hk => by omega)
  exact ⟨⟨(hf.mono (fun k hk => by cases hk)).trans f, g, m, ha, up _ h1, up _ h2, up _ h3⟩, hy, up _ q0⟩
/-- Behind the box. -/
structure PlayB (z : List Nat) (w w1 : World) (p q : Nat) (d : Dk) (x : OpD) (cA : Option Addr) (cl cc : Nat) : Prop where
  h : Prz z w1 w1 p q d d
  box : ∀ W, Fr z w1 W → W.cell? ⟨w.heap.size, 0, none⟩ = some (.int .i64 x.on) ∧ W.cell? ⟨w.heap.size, 1, none⟩ = some (.int .i64 x.kind) ∧ W.cell? ⟨w.heap.size, 2, none⟩ = some (.int .i64 x.a) ∧ W.cell? ⟨w.heap.size, 3, none⟩ = some (.int .i64 x.b) ∧ W.cell? ⟨w.heap.size, 4, none⟩ = some (.int .u8 (x.c.toNat : Int)) ∧ W.cell? ⟨w.heap.size, 5, none⟩ = some (.string x.s) ∧ W.cell? ⟨w.heap.size, 6, none⟩ = some (.slice cA cl cc)
  zw : ∀ W, Fr z w1 W → Zw W (.slice cA cl cc) x.ch
  fin : ∀ W d', Prz z w1 W p q d' d' → PlayP z w p q (.returned (.bool true)) W
theorem PlayA.b (h : PlayA z w p q d x cA cl cc) (hw : w.alloc (.cells (x.v (.slice cA cl cc)) 94) = w1) : PlayB z w w1 p q d x cA cl cc := by
  subst hw
  have hf : Fr [] w (w.alloc (.cells (x.v (.slice cA cl cc)) 94)) := (Fr.refl [] w).alloc _
  have hn : w.heap.size ∉ z := fun hk => by have := h.lt _ hk; omega
  refine ⟨h.h.rebase h.lt hf, fun W hW => ?_, fun W hW => (h.ch.fr hf (NoZ.nil _)).frz h.away hW, fun W d' hd => ⟨rfl, d', Prz.base hf hd⟩⟩
  have hb := (Blk.new w 94 (x.v (.slice cA cl cc))).fr hW hn
  exact ⟨hb.cell 0, hb.cell 1, hb.cell 2, hb.cell 3, hb.cell 4, hb.cell 5, hb.cell 6⟩
end
set_option maxRecDepth 100000 in
theorem plays0 {z : List Nat} {w : World} {p q : Nat} {d : Dk} {x : OpD} {cA : Option Addr} {cl cc : Nat} (h : PlayA z w p q d x cA cl cc) (hk : x.kind = 0) : Calls Try.prog 51 #[ptr p, ptr q, .agg (x.v (.slice cA cl cc))] w (PlayP z w p q) := by
  obtain ⟨w1, hw1⟩ : ∃ w1, w.alloc (.cells (x.v (.slice cA cl cc)) 94) = w1 := ⟨_, rfl⟩
  have HB := h.b hw1
  have HX := Lib.hid HB.box
  have HE := Lib.hid HB.fin
  have hd := HB.h
  have H1 := Lib.hid (fun W (h : Prz z w1 W p q d d) => h.read x.a)
  have H2 := Lib.hid (fun W (h : Prz z w1 W p q d d) => h.rread x.a)
  unfold OpD.v at hw1 ⊢
  rw [hk] at HX hw1 ⊢
  obtain ⟨k0, k1, k2, k3, k4, k5, k6⟩ := HX.out _ hd.fr
  clear h HB
  generalize d.readV x.a = S at *
  generalize d.readE x.a = E at *
  go_enter Try.func51, Try.ntmps51
  go_wp2_with (first
    | (go_at_call 94; have hq := H2.out _ hd; clear hd; refine hq.mono ?_; clear hq; rintro e w5 ⟨rfl, hd⟩)
    | (go_at_call 65; have hq := H1.out _ hd; clear hd; refine hq.mono ?_; clear hq; rintro e w4 ⟨rfl, hd⟩; obtain ⟨m0, m1, m2, m3, m4, m5, m6⟩ := HX.out _ hd.fr))
  go_ret
  exact HE.out _ _ hd
end Go.Proofs.Ythmnloapjdalpaa
namespace Go.Proofs.Ythmnloapjdalpaa
open Go.RowKit
set_option linter.unusedVariables false
set_option linter.unusedSimpArgs false
set_option maxRecDepth 100000 in
set_option maxHeartbeats 1000000 in
theorem plays1 {z : List Nat} {w : World} {p q : Nat} {d : Dk} {x : OpD} {cA : Option Addr} {cl cc : Nat} (h : PlayA z w p q d x cA cl cc) (hk : x.kind = 1) : Calls Try.prog 51 #[ptr p, ptr q, .agg (x.v (.slice cA cl cc))] w (PlayP z w p q) := by
  obtain ⟨w1, hw1⟩ : ∃ w1, w.alloc (.cells (x.v (.slice cA cl cc)) 94) = w1 := ⟨_, rfl⟩
  have HB := h.b hw1
  have HX := Lib.hid HB.box
  have HE := Lib.hid HB.fin
  have HZ := Lib.hid HB.zw
  have hd := HB.h
  have hA := (wf_le h.f.a).2
  have hB := (wf_le h.f.b).2
  have H86 := Lib.hid (fun W x' y' (hh : Prz z w1 W p q x' y') => (show Calls Try.prog 86 #[.agg (x.v (.slice cA cl cc))] W fun e w' => e = .returned (.string (sectorT x.s x.c)) ∧ Prz z w1 w' p q x' y' from (sector_any (.int .i64 x.on) (.int .i64 x.kind) (.int .i64 x.a) (.int .i64 x.b) (.slice cA cl cc) x.c x.s h.f.s W).mono fun e w' ⟨he, hf⟩ => ⟨he, hh.to hf⟩))
  have hss := sectorT_size x.s x.c h.f.s
  have H1 := Lib.hid (fun W (hh : Prz z w1 W p q d d) => hh.write x.a (sectorT x.s x.c) hss)
  have H2 := Lib.hid (fun W (hh : Prz z w1 W p q (d.writeS x.a (sectorT x.s x.c)) d) => hh.rwrite x.a (sectorT x.s x.c))
  unfold OpD.v at H86
  rw [hk] at H86
  clear hss
  unfold OpD.v at hw1 ⊢
  rw [hk] at HX hw1 ⊢
  obtain ⟨m0, m1, m2, m3, m4, m5, m6⟩ := HX.out _ hd.fr
  clear h HB hA hB
  generalize d.writeS x.a (sectorT x.s x.c) = D at *
  generalize d.writeE x.a (sectorT x.s x.c) = E at *
  generalize sectorT x.s x.c = S at *
  go_enter Try.func51, Try.ntmps51
  go_wp2_with fail
  have hd := hd.to (Fr.refl [] _).drew
  have k0 := HX.out _ hd.fr
  go_region_held3 (fun W => W.cell? ⟨w.heap.size, 0, none⟩ = some (.int .i64 x.on) ∧ W.cell? ⟨w.heap.size, 1, none⟩ = some (.int .i64 1) ∧ W.cell? ⟨w.heap.size, 2, none⟩ = some (.int .i64 x.a) ∧ W.cell? ⟨w.heap.size, 3, none⟩ = some (.int .i64 x.b) ∧ W.cell? ⟨w.heap.size, 4, none⟩ = some (.int .u8 (x.c.toNat : Int)) ∧ W.cell? ⟨w.heap.size, 5, none⟩ = some (.string x.s) ∧ W.cell? ⟨w.heap.size, 6, none⟩ = some (.slice cA cl cc))
    (first | exact kk | exact k0) (first
    | (go_at_call 86; have hq := H86.out _ _ _ hd; clear hd; refine hq.mono ?_; clear hq; rintro e w5 ⟨rfl, hd⟩; have kk := HX.out _ hd.fr)
    | (go_at_call 95; have hq := H2.out _ hd; clear hd; refine hq.mono ?_; clear hq; rintro e w5 ⟨rfl, hd⟩; have kk := HX.out _ hd.fr)
    | (go_at_call 30; have hq := H1.out _ hd; clear hd; refine hq.mono ?_; clear hq; rintro e w5 ⟨rfl, hd⟩; have kk := HX.out _ hd.fr))
  go_wp2_with fail
  go_ret
  exact HE.out _ _ hd
set_option maxRecDepth 100000 in
set_option maxHeartbeats 1000000 in
theorem plays2 {z : List Nat} {w : World} {p q : Nat} {d : Dk} {x : OpD} {cA : Option Addr} {cl cc : Nat} (h : PlayA z w p q d x cA cl cc) (hk : x.kind = 2) : Calls Try.prog 51 #[ptr p, ptr q, .agg (x.v (.slice cA cl cc))] w (PlayP z w p q) := by
  obtain ⟨w1, hw1⟩ : ∃ w1, w.alloc (.cells (x.v (.slice cA cl cc)) 94) = w1 := ⟨_, rfl⟩
  have HB := h.b hw1
  have HX := Lib.hid HB.box
  have HE := Lib.hid HB.fin
  have HZ := Lib.hid HB.zw
  have hd := HB.h
  have hA := (wf_le h.f.a).2
  have hB := (wf_le h.f.b).2
  have H1 := Lib.hid (fun W (hh : Prz z w1 W p q d d) => hh.flush x.a x.b hA hB)
  have H2 := Lib.hid (fun W (hh : Prz z w1 W p q (d.flushS x.a x.b) d) => hh.rflush x.a x.b hA hB)
  unfold OpD.v at hw1 ⊢
  rw [hk] at HX hw1 ⊢
  obtain ⟨m0, m1, m2, m3, m4, m5, m6⟩ := HX.out _ hd.fr
  clear h HB hA hB
  generalize d.flushS x.a x.b = D at *
  generalize d.flushE x.a x.b = E at *
  go_enter Try.func51, Try.ntmps51
  go_wp2_with fail
  have hd := hd.to (Fr.refl [] _).drew
  have k0 := HX.out _ hd.fr
  go_region_held3 (fun W => W.cell? ⟨w.heap.size, 0, none⟩ = some (.int .i64 x.on) ∧ W.cell? ⟨w.heap.size, 1, none⟩ = some (.int .i64 2) ∧ W.cell? ⟨w.heap.size, 2, none⟩ = some (.int .i64 x.a) ∧ W.cell? ⟨w.heap.size, 3, none⟩ = some (.int .i64 x.b) ∧ W.cell? ⟨w.heap.size, 4, none⟩ = some (.int .u8 (x.c.toNat : Int)) ∧ W.cell? ⟨w.heap.size, 5, none⟩ = some (.string x.s) ∧ W.cell? ⟨w.heap.size, 6, none⟩ = some (.slice cA cl cc))
    (first | exact kk | exact k0) (first
    | (go_at_call 96; have hq := H2.out _ hd; clear hd; refine hq.mono ?_; clear hq; rintro e w5 ⟨rfl, hd⟩; have kk := HX.out _ hd.fr)
    | (go_at_call 48; have hq := H1.out _ hd; clear hd; refine hq.mono ?_; clear hq; rintro e w5 ⟨rfl, hd⟩; have kk := HX.out _ hd.fr))
  go_wp2_with fail
  go_ret
  exact HE.out _ _ hd
set_option maxRecDepth 100000 in
set_option maxHeartbeats 1000000 in
theorem plays4 {z : List Nat} {w : World} {p q : Nat} {d : Dk} {x : OpD} {cA : Option Addr} {cl cc : Nat} (h : PlayA z w p q d x cA cl cc) (hk : x.kind = 4) : Calls Try.prog 51 #[ptr p, ptr q, .agg (x.v (.slice cA cl cc))] w (PlayP z w p q) := by
  obtain ⟨w1, hw1⟩ : ∃ w1, w.alloc (.cells (x.v (.slice cA cl cc)) 94) = w1 := ⟨_, rfl⟩
  have HB := h.b hw1
  have HX := Lib.hid HB.box
  have HE := Lib.hid HB.fin
  have HZ := Lib.hid HB.zw
  have hd := HB.h
  have hA := (wf_le h.f.a).2
  have hB := (wf_le h.f.b).2
  have H1 := Lib.hid (fun W (hh : Prz z w1 W p q d d) => hh.crash (HZ.out _ hh.fr))
  have H2 := Lib.hid (fun W (hh : Prz z w1 W p q (d.crashS x.ch) d) => hh.rcrash (HZ.out _ hh.fr))
  unfold OpD.v at hw1 ⊢
  rw [hk] at HX hw1 ⊢
  obtain ⟨m0, m1, m2, m3, m4, m5, m6⟩ := HX.out _ hd.fr
  clear h HB hA hB
  generalize d.crashS x.ch = D at *
  generalize d.crashE = E at *
  go_enter Try.func51, Try.ntmps51
  go_wp2_with fail
  have hd := hd.to (Fr.refl [] _).drew
  have k0 := HX.out _ hd.fr
  go_region_held3 (fun W => W.cell? ⟨w.heap.size, 0, none⟩ = some (.int .i64 x.on) ∧ W.cell? ⟨w.heap.size, 1, none⟩ = some (.int .i64 4) ∧ W.cell? ⟨w.heap.size, 2, none⟩ = some (.int .i64 x.a) ∧ W.cell? ⟨w.heap.size, 3, none⟩ = some (.int .i64 x.b) ∧ W.cell? ⟨w.heap.size, 4, none⟩ = some (.int .u8 (x.c.toNat : Int)) ∧ W.cell? ⟨w.heap.size, 5, none⟩ = some (.string x.s) ∧ W.cell? ⟨w.heap.size, 6, none⟩ = some (.slice cA cl cc))
    (first | exact kk | exact k0) (first
    | (go_at_call 83; have hq := H2.out _ hd; clear hd; refine hq.mono ?_; clear hq; rintro e w5 ⟨rfl, hd⟩; have kk := HX.out _ hd.fr)
    | (go_at_call 32; have hq := H1.out _ hd; clear hd; refine hq.mono ?_; clear hq; rintro e w5 ⟨rfl, hd⟩; have kk := HX.out _ hd.fr))
  go_wp2_with fail
  go_ret
  exact HE.out _ _ hd
set_option maxRecDepth 100000 in
set_option maxHeartbeats 1000000 in
theorem plays7 {z : List Nat} {w : World} {p q : Nat} {d : Dk} {x : OpD} {cA : Option Addr} {cl cc : Nat} (h : PlayA z w p q d x cA cl cc) (hk : x.kind = 7) : Calls Try.prog 51 #[ptr p, ptr q, .agg (x.v (.slice cA cl cc))] w (PlayP z w p q) := by
  obtain ⟨w1, hw1⟩ : ∃ w1, w.alloc (.cells (x.v (.slice cA cl cc)) 94) = w1 := ⟨_, rfl⟩
  have HB := h.b hw1
  have HX := Lib.hid HB.box
  have HE := Lib.hid HB.fin
  have HZ := Lib.hid HB.zw
  have hd := HB.h
  have hA := (wf_le h.f.a).2
  have hB := (wf_le h.f.b).2
  have H1 := Lib.hid (fun W (hh : Prz z w1 W p q d d) => (hh.after (HZ.out _ hh.fr)).mono (R' := fun e w' => e = .returned (.string (d.after x.ch)) ∧ Prz z w1 w' p q d d) fun e w' ⟨he, hp, _⟩ => ⟨he, hp⟩)
  have H2 := Lib.hid (fun W (hh : Prz z w1 W p q d d) => hh.rafter (HZ.out _ hh.fr))
  unfold OpD.v at hw1 ⊢
  rw [hk] at HX hw1 ⊢
  obtain ⟨m0, m1, m2, m3, m4, m5, m6⟩ := HX.out _ hd.fr
  clear h HB hA hB
  generalize d.after x.ch = S at *
  go_enter Try.func51, Try.ntmps51
  go_wp2_with fail
  have hd := hd.to (Fr.refl [] _).drew
  have k0 := HX.out _ hd.fr
  go_region_held3 (fun W => W.cell? ⟨w.heap.size, 0, none⟩ = some (.int .i64 x.on) ∧ W.cell? ⟨w.heap.size, 1, none⟩ = some (.int .i64 7) ∧ W.cell? ⟨w.heap.size, 2, none⟩ = some (.int .i64 x.a) ∧ W.cell? ⟨w.heap.size, 3, none⟩ = some (.int .i64 x.b) ∧ W.cell? ⟨w.heap.size, 4, none⟩ = some (.int .u8 (x.c.toNat : Int)) ∧ W.cell? ⟨w.heap.size, 5, none⟩ = some (.string x.s) ∧ W.cell? ⟨w.heap.size, 6, none⟩ = some (.slice cA cl cc))
    (first | exact kk | exact k0) (first
    | (go_at_call 97; have hq := H2.out _ hd; clear hd; refine hq.mono ?_; clear hq; rintro e w5 ⟨rfl, hd⟩; have kk := HX.out _ hd.fr)
    | (go_at_call 49; have hq := H1.out _ hd; clear hd; refine hq.mono ?_; clear hq; rintro e w5 ⟨rfl, hd⟩; have kk := HX.out _ hd.fr))
  go_wp2_with fail
  go_ret
  exact HE.out _ _ hd
set_option maxRecDepth 100000 in
set_option maxHeartbeats 1000000 in
theorem plays5 {z : List Nat} {w : World} {p q : Nat} {d : Dk} {x : OpD} {cA : Option Addr} {cl cc : Nat} (h : PlayA z w p q d x cA cl cc) (hk : x.kind = 5) : Calls Try.prog 51 #[ptr p, ptr q, .agg (x.v (.slice cA cl cc))] w (PlayP z w p q) := by
  obtain ⟨w1, hw1⟩ : ∃ w1, w.alloc (.cells (x.v (.slice cA cl cc)) 94) = w1 := ⟨_, rfl⟩
  have HB := h.b hw1
  have HX := Lib.hid HB.box
  have HE := Lib.hid HB.fin
  have HZ := Lib.hid HB.zw
  have hd := HB.h
  have hA := (wf_le h.f.a).2
  have hB := (wf_le h.f.b).2
  have H1 := Lib.hid (fun W (hh : Prz z w1 W p q d d) => hh.revive)
  have H2 := Lib.hid (fun W (hh : Prz z w1 W p q d.revive d) => hh.rrevive)
  unfold OpD.v at hw1 ⊢
  rw [hk] at HX hw1 ⊢
  obtain ⟨m0, m1, m2, m3, m4, m5, m6⟩ := HX.out _ hd.fr
  clear h HB hA hB
  generalize d.revive = D at *
  go_enter Try.func51, Try.ntmps51
  go_wp2_with (first
    | (go_at_call 84; have hq := H2.out _ hd; clear hd; refine hq.mono ?_; clear hq; rintro e w5 ⟨rfl, hd⟩)
    | (go_at_call 33; have hq := H1.out _ hd; clear hd; refine hq.mono ?_; clear hq; rintro e w4 ⟨rfl, hd⟩))
  go_ret
  exact HE.out _ _ hd
set_option maxRecDepth 100000 in
set_option maxHeartbeats 1000000 in
theorem playsN {z : List Nat} {w : World} {p q : Nat} {d : Dk} {x : OpD} {cA : Option Addr} {cl cc : Nat} (h : PlayA z w p q d x cA cl cc) (hk : x.kind ≠ 0 ∧ x.kind ≠ 1 ∧ x.kind ≠ 2 ∧ x.kind ≠ 3 ∧ x.kind ≠ 4 ∧ x.kind ≠ 5 ∧ x.kind ≠ 7) : Calls Try.prog 51 #[ptr p, ptr q, .agg (x.v (.slice cA cl cc))] w (PlayP z w p q) := by
  obtain ⟨w1, hw1⟩ : ∃ w1, w.alloc (.cells (x.v (.slice cA cl cc)) 94) = w1 := ⟨_, rfl⟩
  have HB := h.b hw1
  have HX := Lib.hid HB.box
  have HE := Lib.hid HB.fin
  have HZ := Lib.hid HB.zw
  have hd := HB.h
  have hA := (wf_le h.f.a).2
  have hB := (wf_le h.f.b).2
  unfold OpD.v at hw1 ⊢
  obtain ⟨m0, m1, m2, m3, m4, m5, m6⟩ := HX.out _ hd.fr
  clear h HB hA hB
  obtain ⟨n0, n1, n2, n3, n4, n5, n7⟩ := hk
  go_enter Try.func51, Try.ntmps51
  go_wp2
  go_ret
  exact HE.out _ _ hd
end Go.Proofs.Ythmnloapjdalpaa
namespace Go.Proofs.Ythmnloapjdalpaa
open Go.RowKit
set_option linter.unusedVariables false
set_option linter.unusedSimpArgs false
/-- A row that was made behind w1, to be written over. -/
structure ArmR (w1 w3 : World) (A : Option Addr) (n k : Nat) : Prop where
  fr : Fr [] w1 w3
  k0 : w1.heap.size ≤ k
  k1 : k < w3.heap.size
  row : 0 < n → A = some ⟨k, 0, none⟩ ∧ ∃ cs, Blk w3 k 3 cs ∧ n ≤ cs.size
theorem ArmR.made {w1 w3 : World} {A : Option Addr} {n cap : Nat} {l : List Int} (hf : Fr [] w1 w3) (hs : w1.heap.size < w3.heap.size) (h : w3.ownsRow w1.heap.size 3 1 (.slice A n cap) n (ints l)) : ∃ k, ArmR w1 w3 A n k := by
  by_cases h0 : 0 < n
  · have hv : (.slice A n cap : Value) ≠ .slice none 0 0 := fun hh => by injection hh with _ hh _; omega
    obtain ⟨g, cap', cs, e1, h1, h2, h2', h3, h4⟩ := own_some h hv
    injection e1 with e1 _ _
    have hl : (ints l).length = n * 1 := h.1
    have hx : (ints l)[n - 1]? = some ((ints l)[n - 1]'(by omega)) := List.getElem?_eq_getElem (by omega)
    have hc := (Array.getElem?_eq_some_iff.1 (h4 _ _ hx)).1
    exact ⟨g, hf, h1, h3.lt, fun _ => ⟨e1, cs, h3, by omega⟩⟩
  · exact ⟨w1.heap.size, hf, Nat.le_refl _, hs, fun hh => absurd hh h0⟩
/-- Under way. -/
def ArmI (w4 wr : World) (A : Option Addr) (n k : Nat) : Prop := Fr [k] w4 wr ∧ (0 < n → A = some ⟨k, 0, none⟩ ∧ ∃ cs, Blk wr k 3 cs ∧ n ≤ cs.size)
theorem ArmI.step {w4 wr : World} {A : Option Addr} {n k j : Nat} (h : ArmI w4 wr A n k) (hj : j < n) (u : Value) : A = some ⟨k, 0, none⟩ ∧ wr.frozen? ⟨k, j, none⟩ = false ∧ (∃ u0, wr.cell? ⟨k, j, none⟩ = some u0) ∧ ArmI w4 (wr.setCell ⟨k, j, none⟩ u) A n k := by
  obtain ⟨hf, hr⟩ := h
  obtain ⟨hA, cs, hb, hn⟩ := hr (by omega)
  exact ⟨hA, hb.frozen j, ⟨cs[j]'(by omega), by rw [hb.cell]; exact Array.getElem?_eq_getElem (by omega)⟩, hf.setCell (.inl (by simp)) u, fun _ => ⟨hA, _, hb.set_ j u, by simpa using hn⟩⟩
set_option maxRecDepth 100000 in
set_option maxHeartbeats 2000000 in
theorem plays3 {z : List Nat} {w : World} {p q : Nat} {d : Dk} {x : OpD} {cA : Option Addr} {cl cc : Nat} (h : PlayA z w p q d x cA cl cc) (hk : x.kind = 3) : Calls Try.prog 51 #[ptr p, ptr q, .agg (x.v (.slice cA cl cc))] w (PlayP z w p q) := by
  obtain ⟨w1, hw1⟩ : ∃ w1, w.alloc (.cells (x.v (.slice cA cl cc)) 94) = w1 := ⟨_, rfl⟩
  have HB := h.b hw1
  have HX := Lib.hid HB.box
  have HE := Lib.hid HB.fin
  have HZ := Lib.hid HB.zw
  have hd := HB.h
  have hA := (wf_le h.f.a).2
  obtain ⟨i0, hi0, hz0, hz1, hz2⟩ := info3 Try.info3
  have hfa : Fr [] w1 (w1.alloc (.cells #[] 3)) := (Fr.refl [] w1).alloc _
  have Hm0 := Lib.hid (World.ownsRow_made (base := w1.heap.size) (e := 3) (size := 1) w1 #[] 0 (by simp) (by simp [maxLen]) (by simp))
  have hzw := HB.zw w1 (Fr.refl _ _)
  obtain ⟨hcl, hclc, hcm⟩ := hzw.len
  have HZa := Lib.hid (hzw.fr hfa (NoZ.nil _))
  have H1 := Lib.hid (fun (w3 : World) (A : Option Addr) (cap k : Nat) (hr : ArmR w1 w3 A cl k) (hzz : Zw w3 (.slice A cl cap) x.ch) => hd.arm hr.fr hr.k0 hr.k1 x.a hzz h.b8 hA)
  have H2 := Lib.hid (fun W (hh : Prz z w1 W p q (d.armS x.a x.ch) d) => hh.rarm x.a (HZ.out _ hh.fr) (fun j y hj g o e => fun e2 => h.away j y hj g o e (by rw [e2]; exact h.qz)) h.b8 hA)
  have hpl : p < w1.heap.size := by
    obtain ⟨f, g, m, ha, -⟩ := hd.x
    exact ha.ltp
  have Hpl := Lib.hid hpl
  have hb8 := h.b8
  unfold OpD.v at hw1 ⊢
  rw [hk] at HX hw1 ⊢
  obtain ⟨m0, m1, m2, m3, m4, m5, m6⟩ := HX.out _ hd.fr
  obtain ⟨a0, a1, a2, a3, a4, a5, a6⟩ := HX.out _ (hd.to hfa).fr
  have HXd := Lib.hid (fun W (hf : Fr [] w1 W) => HX.out W (hd.to hf).fr)
  have Hcl := Lib.hid hcl
  have hs1 : w1.heap.size < (w1.alloc (.cells #[] 3)).heap.size := by simp
  have Hs1 := Lib.hid hs1
  have hbs : w1.heap.size ≤ (w1.alloc (.cells #[] 3)).heap.size := by simp
  have hm1 : 0 + cl ≤ maxLen := by omega
  have hm2 : (0 + cl) * 8 ≤ 140737488355328 := by omega
  have hcx : (cl : Int) ≤ 9223372036854775807 := by simp only [maxLen] at hcm; omega
  clear h HB hzw hpl hfa hclc hcm hb8 hcl hs1 hd
  generalize d.armS x.a x.ch = D at *
  generalize d.armE x.a = E at *
  go_enter Try.func51, Try.ntmps51
  go_upto_region 13 with (first
    | (at_builtin; go_must (refine wpList_append_zw _ rfl (.tmp 72) (.tmp 74) 42 rfl w1.heap.size i0 (.int .i64 0) Try.underlying42 hi0 hz0 hz1 hz2 rfl _ 0 [] rfl Hm0.out cA cl cc x.ch rfl HZa.out hm1 hm2 hbs ?_; intro v' w3 ho' hg'; simp only [List.nil_append, Nat.zero_add] at ho'; obtain ⟨A', cp', rfl⟩ := own_shape ho'; have hf3 := ((Fr.refl [] w1).alloc (.cells #[] 3)).own Hm0.out hg'; obtain ⟨k, hr⟩ := ArmR.made hf3 (by have := Hs1.out; have := hg'.size; omega) ho'; have hzz := (Zs.of_own ho' Hcl.out).zw; have HR := Lib.hid hr; obtain ⟨b0, b1, b2, b3, b4, b5, b6⟩ := HXd.out _ hf3; have H81 := Lib.hid (H1.out _ _ _ _ hr hzz); clear hr hzz hf3 hg' ho'))
    | (go_at_call 81; refine H81.out.mono ?_; rintro e w4 ⟨rfl, hf4, hd4⟩; have HF4 := Lib.hid hf4; have HD4 := Lib.hid hd4; clear hf4 hd4))
  have HI0 : Hid (ArmI w4 w4 A' cl k) := Lib.hid ⟨Fr.refl _ _, fun h0 => by
    obtain ⟨hA', cs, hb, hn⟩ := HR.out.row h0
    have := HR.out.k0
    have := Hpl.out
    exact ⟨hA', cs, hb.fr HF4.out (by simp; omega), hn⟩⟩
  clear H81 HR HF4 H1
  go_wp2_with fail
  go_loopg [13] cl (fun gg vi wr => ∃ (j : Nat), j + gg = cl ∧ vi = .int .i64 (j : Int) ∧ ArmI w4 wr A' cl k)
  case atStart => exact ⟨0, by omega, rfl, HI0.out⟩
  case round =>
    obtain ⟨j, hj, rfl, hI⟩ := hrel
    have Hj := Lib.hid hj
    by_cases hlt : j < cl
    · have hlt' : (j : Int) < (cl : Int) := by omega
      have hj0 : (0 : Int) ≤ (j : Int) := by omega
      have hwj : IntKind.i64.wrap ((j : Int) + 1) = (j : Int) + 1 := IntWalk.i64_in _ (by omega)
      obtain ⟨rfl, fz, ⟨u0, x0⟩, hI'⟩ := hI.step hlt (.int .i64 999)
      have HI' := Lib.hid hI'
      clear hI hI' hj HI0
      go_wp2_with fail
      go_roundg (cl - (j + 1))
      case measure => have := Hj.out; omega
      case rel => exact ⟨j + 1, by have := Hj.out; omega, by go_num, HI'.out⟩
    · have hlt' : ¬ (j : Int) < (cl : Int) := by omega
      have hd := HD4.out _ hI.1
      obtain ⟨n0, n1, n2, n3, n4, n5, n6⟩ := HX.out _ hd.fr
      clear hI hj HI0 HD4
      go_wp2_with (go_at_call 82; have hq := H2.out _ hd; clear hd; refine hq.mono ?_; clear hq; rintro e w5 ⟨rfl, hd⟩)
      go_ret
      exact HE.out _ _ hd
theorem plays_any {z : List Nat} {w : World} {p q : Nat} {d : Dk} {x : OpD} {cA : Option Addr} {cl cc : Nat} (h : PlayA z w p q d x cA cl cc) : Calls Try.prog 51 #[ptr p, ptr q, .agg (x.v (.slice cA cl cc))] w (PlayP z w p q) := by
  by_cases h0 : x.kind = 0
  · exact plays0 h h0
  by_cases h1 : x.kind = 1
  · exact plays1 h h1
  by_cases h2 : x.kind = 2
  · exact plays2 h h2
  by_cases h3 : x.kind = 3
  · exact plays3 h h3
  by_cases h4 : x.kind = 4
  · exact plays4 h h4
  by_cases h5 : x.kind = 5
  · exact plays5 h h5
  by_cases h7 : x.kind = 7
  · exact plays7 h h7
  · exact playsN h ⟨h0, h1, h2, h3, h4, h5, h7⟩
end Go.Proofs.Ythmnloapjdalpaa
