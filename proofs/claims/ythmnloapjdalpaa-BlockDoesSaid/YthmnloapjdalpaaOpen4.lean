/- Arguments of the block's laws, opened: a torn block, an extent, scripts. -/
import Derived.Test.YthmnloapjdalpaaOpen
namespace Go.Proofs.Ythmnloapjdalpaa
open Go.ChangeShapes Go.WideShapes Go.Deep Go.Joins Go.RowKit
/-- A call, as the block's law has it. -/
structure OpB where
  on : Int
  kind : Int
  a : Int
  b : Int
  s : ByteArray
  ch : List Int
structure OpB.Fine (x : OpB) : Prop where
  s : x.s.size ≤ maxLen
  on : (Lit.int .i64 x.on).wf = true
  a : (Lit.int .i64 x.a).wf = true
  b : (Lit.int .i64 x.b).wf = true
def OpB.none : OpB := ⟨0, 0, 0, 0, ⟨#[]⟩, []⟩
structure OpB.at (w : World) (b o : Nat) (x : OpB) (cv : Value) : Prop where
  c0 : w.cell? ⟨b, o, .none⟩ = some (.int .i64 x.on)
  c1 : w.cell? ⟨b, o + 1, .none⟩ = some (.int .i64 x.kind)
  c2 : w.cell? ⟨b, o + 2, .none⟩ = some (.int .i64 x.a)
  c3 : w.cell? ⟨b, o + 3, .none⟩ = some (.int .i64 x.b)
  c4 : w.cell? ⟨b, o + 4, .none⟩ = some (.string x.s)
  c5 : w.cell? ⟨b, o + 5, .none⟩ = some cv
  z : Zw w cv x.ch
theorem OpB.at.six {w : World} {b o : Nat} {x : OpB} {cv : Value} (h : OpB.at w b o x cv) : w.cell? ⟨b, o, .none⟩ = some (.int .i64 x.on) ∧ w.cell? ⟨b, o + 1, .none⟩ = some (.int .i64 x.kind) ∧ w.cell? ⟨b, o + 2, .none⟩ = some (.int .i64 x.a) ∧ w.cell? ⟨b, o + 3, .none⟩ = some (.int .i64 x.b) ∧ w.cell? ⟨b, o + 4, .none⟩ = some (.string x.s) ∧ w.cell? ⟨b, o + 5, .none⟩ = some cv :=
  ⟨h.c0, h.c1, h.c2, h.c3, h.c4, h.c5⟩
theorem OpB.at.fr {w w' : World} {b o : Nat} {x : OpB} {cv : Value} (h : OpB.at w b o x cv) (hf : Fr [] w w') : OpB.at w' b o x cv :=
  ⟨hf.cell_some h.c0 (by simp), hf.cell_some h.c1 (by simp), hf.cell_some h.c2 (by simp), hf.cell_some h.c3 (by simp), hf.cell_some h.c4 (by simp), hf.cell_some h.c5 (by simp), h.z.fr hf (NoZ.nil _)⟩
/-- A slice of calls, in memory that came in. -/
def OpsB (w : World) (v : Value) (n : Nat) (ops : Nat → OpB) : Prop :=
  n ≤ maxLen ∧ ∃ A cap, v = .slice A n cap ∧ ∀ i, i < n → (ops i).Fine ∧ ∃ b off cv, A = some ⟨b, off, .none⟩ ∧ OpB.at w b (off + i * 6) (ops i) cv
theorem OpsB.at_ {w : World} {A : Option Addr} {n cap : Nat} {ops : Nat → OpB} (h : OpsB w (.slice A n cap) n ops) {i : Nat} (hi : i < n) : (ops i).Fine ∧ ∃ b off cv, A = some ⟨b, off, .none⟩ ∧ OpB.at w b (off + i * 6) (ops i) cv := by
  obtain ⟨_, A', cap', h1, h2⟩ := h
  injection h1 with hA _ _
  rw [hA]
  exact h2 i hi
theorem OpsB.fr {w w' : World} {v : Value} {n : Nat} {ops : Nat → OpB} (h : OpsB w v n ops) (hf : Fr [] w w') : OpsB w' v n ops := by
  obtain ⟨h0, A, cap, h1, h2⟩ := h
  refine ⟨h0, A, cap, h1, fun i hi => ?_⟩
  obtain ⟨hF, b, off, cv, hA, hc⟩ := h2 i hi
  exact ⟨hF, b, off, cv, hA, hc.fr hf⟩
section
variable {H : Type} {enc : TypeId × Value → H} {w : World} {base : Nat} {spare : Nat → Bool} {held : Bool}
set_option maxRecDepth 100000 in
theorem open_torn {r : Reach} {b0 : Nat} {v : Value} {d : DataW H} {ps : List MemPlace} (hv : Value.okWide Try.prog w r b0 53 v) (h : DataW.Trod enc Try.prog w base spare held 53 v d ps) :
    ∃ (A B : ByteArray) (o n c : Int), v = .agg #[.string A, .string B, .int .i64 o, .int .i64 n, .int .i64 c] ∧ A.size ≤ maxLen ∧ B.size ≤ maxLen := by
  obtain ⟨v0, v1, v2, v3, v4, y0, y1, y2, y3, y4, n, rfl, _, _, t0, t1, t2, t3, t4⟩ := open_agg5 Try.underlying53 (by kernel_rfl) (by kernel_rfl) hv h
  obtain ⟨s0, e0, _, h0⟩ := DataW.trod_string Try.underlying9 t0
  obtain ⟨s1, e1, _, h1⟩ := DataW.trod_string Try.underlying9 t1
  obtain ⟨n2, e2, _, _⟩ := DataW.trod_int Try.underlying3 t2
  obtain ⟨n3, e3, _, _⟩ := DataW.trod_int Try.underlying3 t3
  obtain ⟨n4, e4, _, _⟩ := DataW.trod_int Try.underlying3 t4
  simp only [List.cons.injEq, and_true] at e0 e1 e2 e3 e4
  subst e0; subst e1; subst e2; subst e3; subst e4
  exact ⟨s0, s1, n2, n3, n4, rfl, h0, h1⟩
set_option maxRecDepth 100000 in
theorem open_extent {r : Reach} {b0 : Nat} {v : Value} {d : DataW H} {ps : List MemPlace} (hv : Value.okWide Try.prog w r b0 34 v) (h : DataW.Trod enc Try.prog w base spare held 34 v d ps) :
    ∃ (f c k : Int), v = .agg #[.int .i64 f, .int .i64 c, .int .i64 k] ∧ (Lit.int .i64 f).wf = true ∧ (Lit.int .i64 c).wf = true ∧ (Lit.int .i64 k).wf = true := by
  obtain ⟨cs, rfl, hsz⟩ := okWide_struct Try.underlying34 hv
  have hC : Try.prog.cellsOf 34 = 3 := by kernel_rfl
  rw [hC] at hsz
  obtain ⟨l⟩ := cs
  match l, hsz with
  | [c0, c1, c2], _ =>
    obtain ⟨fuel, hf⟩ := h
    obtain ⟨xs, n, _, hx, _, hlen, hg⟩ := DataW.trod_struct Try.underlying34 hf
    have g0 : DataW.trod enc Try.prog w base spare held n 3 [c0] = xs[0]? := hg 0 _ rfl
    have g1 : DataW.trod enc Try.prog w base spare held n 3 [c1] = xs[1]? := hg 1 _ rfl
    have g2 : DataW.trod enc Try.prog w base spare held n 3 [c2] = xs[2]? := hg 2 _ rfl
    have hx2 : xs.length = 3 := hlen
    rw [List.getElem?_eq_getElem (by omega)] at g0 g1 g2
    obtain ⟨n0, e0, _, w0⟩ := DataW.trod_int Try.underlying3 g0
    obtain ⟨n1, e1, _, w1⟩ := DataW.trod_int Try.underlying3 g1
    obtain ⟨n2, e2, _, w2⟩ := DataW.trod_int Try.underlying3 g2
    simp only [List.cons.injEq, and_true] at e0 e1 e2
    subst e0; subst e1; subst e2
    exact ⟨n0, n1, n2, rfl, w0, w1, w2⟩
theorem open_opsB_fuel {fuel : Nat} {cs : List Value} {x : DataW H × List MemPlace} (hf : DataW.trod enc Try.prog w base spare held fuel 35 cs = some x) :
    ∃ (A : Option Addr) (n cap : Nat) (ops : Nat → OpB), cs = [.slice A n cap] ∧ OpsB w (.slice A n cap) n ops := by
  rcases open_slice_fields (fs := _) Try.underlying35 Try.underlying44 (by kernel_rfl) (by kernel_rfl) hf with ⟨hcs, hx⟩ | ⟨x, l, c, m, D, Pl, hcs, _, hl, hm, hmm, hx, hi⟩
  · exact ⟨.none, 0, 0, fun _ => OpB.none, hcs, ⟨Nat.zero_le _, .none, 0, rfl, fun i hi => absurd hi (Nat.not_lt_zero i)⟩⟩
  · have hlm : l ≤ m := by rw [hmm]; split <;> omega
    have key : ∀ i, i < l → ∃ (o : OpB) (cv : Value), o.Fine ∧ x.spot = .none ∧ OpB.at w x.block (x.off + i * 6) o cv := by
      intro i hil
      obtain ⟨ys, n, hD, hP, hyl, hfl⟩ := hi i (by omega)
      obtain ⟨v0, y0, c0, _, t0⟩ := hfl 0 _ rfl
      obtain ⟨v1, y1, c1, _, t1⟩ := hfl 1 _ rfl
      obtain ⟨v2, y2, c2, _, t2⟩ := hfl 2 _ rfl
      obtain ⟨v3, y3, c3, _, t3⟩ := hfl 3 _ rfl
      obtain ⟨v4, y4, c4, _, t4⟩ := hfl 4 _ rfl
      obtain ⟨v5, y5, c5, _, t5⟩ := hfl 5 _ rfl
      obtain ⟨n0, e0, _, w0⟩ := DataW.trod_int Try.underlying3 t0
      obtain ⟨n1, e1, _, w1⟩ := DataW.trod_int Try.underlying3 t1
      obtain ⟨n2, e2, _, w2⟩ := DataW.trod_int Try.underlying3 t2
      obtain ⟨n3, e3, _, w3⟩ := DataW.trod_int Try.underlying3 t3
      obtain ⟨s4, e4, _, hs4⟩ := DataW.trod_string Try.underlying9 t4
      obtain ⟨A5, n5, c5', l5, e5, z5, _⟩ := open_zw_fuel t5
      simp only [List.cons.injEq, and_true] at e0 e1 e2 e3 e4 e5
      subst e0; subst e1; subst e2; subst e3; subst e4; subst e5
      have hsp : x.spot = .none := by
        obtain ⟨_, _, _, _, _, hfl0⟩ := hi 0 (by omega)
        obtain ⟨_, _, c00, _, _⟩ := hfl0 0 _ rfl
        exact spot_of_cell' (a := x) (by simpa [Addr.add] using c00)
      obtain ⟨xb, xo, xs⟩ := x
      simp only at hsp
      subst hsp
      simp only [addr_add] at c0 c1 c2 c3 c4 c5
      exact ⟨⟨n0, n1, n2, n3, s4, l5⟩, _, ⟨hs4, w0, w2, w3⟩, rfl, c0, c1, c2, c3, c4, c5, z5⟩
    refine ⟨_, l, c, fun i => if hil : i < l then (key i hil).choose else OpB.none, hcs, ⟨by omega, _, c, rfl, fun i hil => ?_⟩⟩
    simp only [dif_pos hil]
    obtain ⟨cv, hF, hsp, hat⟩ := (key i hil).choose_spec
    refine ⟨hF, x.block, x.off, cv, ?_, hat⟩
    obtain ⟨xb, xo, xs⟩ := x
    simp only at hsp
    subst hsp
    rfl
set_option maxRecDepth 100000 in
theorem open_opsB {r : Reach} {b0 : Nat} {v : Value} {d : DataW H} {ps : List MemPlace} (hv : Value.okWide Try.prog w r b0 35 v) (h : DataW.Trod enc Try.prog w base spare held 35 v d ps) :
    ∃ (A : Option Addr) (n cap : Nat) (ops : Nat → OpB), v = .slice A n cap ∧ OpsB w (.slice A n cap) n ops := by
  obtain ⟨a, len, cap, rfl⟩ := okWide_slice Try.underlying35 hv
  obtain ⟨fuel, hf⟩ := h
  obtain ⟨A, n, c, ops, e, h⟩ := open_opsB_fuel hf
  simp [Value.cells] at e
  obtain ⟨rfl, rfl, rfl⟩ := e
  exact ⟨_, _, _, ops, rfl, h⟩
end
end Go.Proofs.Ythmnloapjdalpaa
