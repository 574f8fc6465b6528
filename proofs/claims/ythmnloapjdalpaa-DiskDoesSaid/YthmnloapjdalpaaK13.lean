/- plays: a call on both disks. -/
import Derived.Test.YthmnloapjdalpaaK12
namespace Go.Proofs.Ythmnloapjdalpaa
open Go.RowKit
set_option linter.unusedVariables false
set_option linter.unusedSimpArgs false
/-- The numbers lie in none of z's blocks. -/
def Zaway (z : List Nat) (A : Option Addr) (l : List Int) : Prop := ∀ (j : Nat) (y : Int), l[j]? = some y → ∀ g o, A = some ⟨g, o, none⟩ → g ∉ z
theorem Zw.frz {w w' : World} {z : List Nat} {A : Option Addr} {n cap : Nat} {l : List Int} (h : Zw w (.slice A n cap) l) (ha : Zaway z A l) (hf : Fr z w w') : Zw w' (.slice A n cap) l := by
  obtain ⟨A', cap', h1, h2, h3, h4, h5⟩ := h
  refine ⟨A', cap', h1, h2, h3, h4, fun j x hj => ?_⟩
  obtain ⟨q, o, e1, e2, e3⟩ := h5 j x hj
  have hs := hf.size
  refine ⟨q, o, e1, by omega, hf.cell_some e3 (ha j x hj q o ?_)⟩
  injection h1 with hA _ _
  rw [hA]
  exact e1
def PlayP (z : List Nat) (w : World) (p q : Nat) (e : Ending) (w' : World) : Prop := e = .returned (.bool true) ∧ ∃ d', Prz z w w' p q d' d'
/-- A call's value. -/
abbrev OpD.v (x : OpD) (cv : Value) : Array Value := #[.int .i64 x.on, .int .i64 x.kind, .int .i64 x.a, .int .i64 x.b, .int .u8 (x.c.toNat : Int), .string x.s, cv]
/-- What a call on both is given. -/
structure PlayA (z : List Nat) (w : World) (p q : Nat) (d : Dk) (x : OpD) (cA : Option Addr) (cl cc : Nat) : Prop where
  h : Prz z w w p q d d
  lt : ∀ k, k ∈ z → k < w.heap.size
  pz : p ∈ z
  qz : q ∈ z
  f : x.Fine
  ch : Zw w (.slice cA cl cc) x.ch
  away : Zaway z cA x.ch
  b8 : cl * 8 ≤ 140737488355328
section
variable {z : List Nat} {w w1 W : World} {p q : Nat} {d d' : Dk} {x : OpD} {cA : Option Addr} {cl cc : Nat}
theorem Prz.rebase (h : Prz z w w p q d d') (hz : ∀ k, k ∈ z → k < w.heap.size) (hf : Fr [] w w1) : Prz z w1 w1 p q d d' := by
  obtain ⟨⟨f, g, m, ha, h1, h2, h3⟩, hy, q0⟩ := h
  have l1 := ha.ltp
  have l2 := ha.ltg
  have l3 := ha.ltm
  have l4 := hy.lt
  exact ⟨⟨Fr.refl _ _, g, m, ha.to hf, .inl (h1.resolve_right (by omega)), .inl (h2.resolve_right (by omega)), .inl (h3.resolve_right (by omega))⟩, hy.to hf, .inl (q0.resolve_right (by omega))⟩
theorem Prz.base (hf : Fr [] w w1) (h : Prz z w1 W p q d d') : Prz z w W p q d d' := by
  obtain ⟨⟨f, g, m, ha, h1, h2, h3⟩, hy, q0⟩ := h
  have hs := hf.size
  have up : ∀ k, k ∈ z ∨ w1.heap.size ≤ k → k ∈ z ∨ w.heap.size ≤ k := fun k hk => hk.imp id (fun hk => by omega)
  exact ⟨⟨(hf.mono (fun k hk => by cases hk)).trans f, g, m, ha, up _ h1, up _ h2, up _ h3⟩, hy, up _ q0⟩
/-- Behind the box. -/
structure PlayB (z : List Nat) (w w1 : World) (p q : Nat) (d : Dk) (x : OpD) (cA : Option Addr) (cl cc : Nat) : Prop where
  h : Prz z w1 w1 p q d d
  box : ∀ W, Fr z w1 W → W.cell? ⟨w.heap.size, 0, none⟩ = some (.int .i64 x.on) ∧ W.cell? ⟨w.heap.size, 1, none⟩ = some (.int .i64 x.kind) ∧ W.cell? ⟨w.heap.size, 2, none⟩ = some (.int .i64 x.a) ∧ W.cell? ⟨w.heap.size, 3, none⟩ = some (.int .i64 x.b) ∧ W.cell? ⟨w.heap.size, 4, none⟩ = some (.int .u8 (x.c.toNat : Int)) ∧ W.cell? ⟨w.heap.size, 5, none⟩ = some (.string x.s) ∧ W.cell? ⟨w.heap.size, 6, none⟩ = some (.slice cA cl cc)
  zw : ∀ W, Fr z w1 W → Zw W (.slice cA cl cc) x.ch
  fin : ∀ W d', Prz z w1 W p q d' d' → PlayP z w p q (.returned (.bool true)) W
theorem PlayA.b (h : PlayA z w p q d x cA cl cc) (hw : w.alloc (.cells (x.v (.slice cA cl cc)) 94) = w1) : PlayB z w w1 p q d x cA cl cc := by
  subst hw
  have hf : Fr [] w (w.alloc (.cells (x.v (.slice cA cl cc)) 94)) := (Fr.refl [] w).alloc _
  have hn : w.heap.size ∉ z := fun hk => by have := h.lt _ hk; omega
  refine ⟨h.h.rebase h.lt hf, fun W hW => ?_, fun W hW => (h.ch.fr hf (NoZ.nil _)).frz h.away hW, fun W d' hd => ⟨rfl, d', Prz.base hf hd⟩⟩
  have hb := (Blk.new w 94 (x.v (.slice cA cl cc))).fr hW hn
  exact ⟨hb.cell 0, hb.cell 1, hb.cell 2, hb.cell 3, hb.cell 4, hb.cell 5, hb.cell 6⟩
end
set_option maxRecDepth 100000 in
theorem plays0 {z : List Nat} {w : World} {p q : Nat} {d : Dk} {x : OpD} {cA : Option Addr} {cl cc : Nat} (h : PlayA z w p q d x cA cl cc) (hk : x.kind = 0) : Calls Try.prog 51 #[ptr p, ptr q, .agg (x.v (.slice cA cl cc))] w (PlayP z w p q) := by
  obtain ⟨w1, hw1⟩ : ∃ w1, w.alloc (.cells (x.v (.slice cA cl cc)) 94) = w1 := ⟨_, rfl⟩
  have HB := h.b hw1
  have HX := Lib.hid HB.box
  have HE := Lib.hid HB.fin
  have hd := HB.h
  have H1 := Lib.hid (fun W (h : Prz z w1 W p q d d) => h.read x.a)
  have H2 := Lib.hid (fun W (h : Prz z w1 W p q d d) => h.rread x.a)
  unfold OpD.v at hw1 ⊢
  rw [hk] at HX hw1 ⊢
  obtain ⟨k0, k1, k2, k3, k4, k5, k6⟩ := HX.out _ hd.fr
  clear h HB
  generalize d.readV x.a = S at *
  generalize d.readE x.a = E at *
  go_enter Try.func51, Try.ntmps51
  go_wp2_with (first
    | (go_at_call 94; have hq := H2.out _ hd; clear hd; refine hq.mono ?_; clear hq; rintro e w5 ⟨rfl, hd⟩)
    | (go_at_call 65; have hq := H1.out _ hd; clear hd; refine hq.mono ?_; clear hq; rintro e w4 ⟨rfl, hd⟩; obtain ⟨m0, m1, m2, m3, m4, m5, m6⟩ := HX.out _ hd.fr))
  go_ret
  exact HE.out _ _ hd
end Go.Proofs.Ythmnloapjdalpaa
