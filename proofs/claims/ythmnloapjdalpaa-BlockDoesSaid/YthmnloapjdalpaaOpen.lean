/- Arguments of the disk's laws, opened: scripts, rows of numbers, structs of them. -/
import Derived.Test.YthmnloapjdalpaaL6
import Derived.Test.YthmnloapjdalpaaOpenRows
import Derived.OpenShut
namespace Go.Proofs.Ythmnloapjdalpaa
open Go.ChangeShapes Go.WideShapes Go.Deep Go.Joins Go.RowKit
section
variable {H : Type} {enc : TypeId × Value → H} {w : World} {base : Nat} {spare : Nat → Bool} {held : Bool}
/-- A slice of numbers. -/
theorem open_zw_fuel {fuel : Nat} {cs : List Value} {x : DataW H × List MemPlace} (hf : DataW.trod enc Try.prog w base spare held fuel 42 cs = some x) :
    ∃ (A : Option Addr) (n cap : Nat) (l : List Int), cs = [.slice A n cap] ∧ Zw w (.slice A n cap) l ∧ ((x.1 = .nil ∧ n = 0) ∨ ∃ es sp, x.1 = .slice es sp ∧ es.length = n) := by
  rcases open_slice Try.underlying42 hf with ⟨hcs, hx⟩ | ⟨x, l, c, m, n, D, Pl, hcs, _, hl, hm, hmm, hx, hi⟩
  · exact ⟨.none, 0, 0, [], hcs, Zw.nil w, .inl ⟨by rw [hx], rfl⟩⟩
  · have hlm : l ≤ m := by rw [hmm]; split <;> omega
    have hC : Try.prog.cellsOf 3 = 1 := by kernel_rfl
    rw [hC] at hi
    have key : ∀ i, i < l → ∃ z : Int, x.spot = .none ∧ x.block < w.heap.size ∧ w.cell? ⟨x.block, x.off + i, .none⟩ = some (.int .i64 z) := by
      intro i hil
      obtain ⟨cs', hcells, ht⟩ := hi i (by omega)
      obtain ⟨n0, e0, _, w0⟩ := DataW.trod_int Try.underlying3 ht
      subst e0
      obtain ⟨_, _, hat⟩ := World.cells?_some hcells
      have h0 := hat 0 (by omega)
      rw [Nat.mul_one] at h0
      have h1 : w.cell? ((x.add i).add 0) = some (.int .i64 n0) := h0
      have hsp : x.spot = .none := by
        obtain ⟨cs0, hcells0, ht0⟩ := hi 0 (by omega)
        obtain ⟨_, hl0, hat0⟩ := World.cells?_some hcells0
        have h00 := hat0 0 (by omega)
        rw [List.getElem?_eq_getElem (by omega)] at h00
        exact spot_of_cell' (a := x) (by simpa [Addr.add] using h00)
      have hb := World.block_lt_of_cell? w _ h1
      rw [block_add, block_add] at hb
      obtain ⟨xb, xo, xs⟩ := x
      simp only at hsp
      subst hsp
      simp only [addr_add, Nat.add_zero] at h1
      exact ⟨n0, rfl, hb, h1⟩
    refine ⟨some x, l, c, (List.range l).map fun i => if h : i < l then (key i h).choose else 0, hcs, ⟨some x, c, by simp, by simp; omega, hm, (fun h => by cases h), fun j z hj => ?_⟩, .inr ⟨_, _, by rw [hx], by simp⟩⟩
    have hjl : j < l := by have := (List.getElem?_eq_some_iff.1 hj).1; simpa using this
    have hz : z = (key j hjl).choose := by simp [hjl] at hj; exact hj.symm
    have hk := (key j hjl).choose_spec
    rw [← hz] at hk
    refine ⟨x.block, x.off, ?_, hk.2⟩
    have hsp := hk.1
    obtain ⟨xb, xo, xs⟩ := x
    simp only at hsp
    subst hsp
    rfl
/-- A slice of calls. -/
theorem open_ops_fuel {fuel : Nat} {cs : List Value} {x : DataW H × List MemPlace} (hf : DataW.trod enc Try.prog w base spare held fuel 78 cs = some x) :
    ∃ (A : Option Addr) (n cap : Nat) (ops : Nat → OpD), cs = [.slice A n cap] ∧ OpsD w (.slice A n cap) n ops := by
  rcases open_slice_fields (fs := _) Try.underlying78 Try.underlying94 (by kernel_rfl) (by kernel_rfl) hf with ⟨hcs, hx⟩ | ⟨x, l, c, m, D, Pl, hcs, _, hl, hm, hmm, hx, hi⟩
  · exact ⟨.none, 0, 0, fun _ => OpD.none, hcs, ⟨Nat.zero_le _, .none, 0, rfl, fun i hi => absurd hi (Nat.not_lt_zero i)⟩⟩
  · have hlm : l ≤ m := by rw [hmm]; split <;> omega
    have key : ∀ i, i < l → ∃ (o : OpD) (cv : Value), o.Fine ∧ x.spot = .none ∧ OpD.at w x.block (x.off + i * 7) o cv := by
      intro i hil
      obtain ⟨ys, n, hD, hP, hyl, hfl⟩ := hi i (by omega)
      obtain ⟨v0, y0, c0, _, t0⟩ := hfl 0 _ rfl
      obtain ⟨v1, y1, c1, _, t1⟩ := hfl 1 _ rfl
      obtain ⟨v2, y2, c2, _, t2⟩ := hfl 2 _ rfl
      obtain ⟨v3, y3, c3, _, t3⟩ := hfl 3 _ rfl
      obtain ⟨v4, y4, c4, _, t4⟩ := hfl 4 _ rfl
      obtain ⟨v5, y5, c5, _, t5⟩ := hfl 5 _ rfl
      obtain ⟨v6, y6, c6, _, t6⟩ := hfl 6 _ rfl
      obtain ⟨n0, e0, _, w0⟩ := DataW.trod_int Try.underlying3 t0
      obtain ⟨n1, e1, _, w1⟩ := DataW.trod_int Try.underlying3 t1
      obtain ⟨n2, e2, _, w2⟩ := DataW.trod_int Try.underlying3 t2
      obtain ⟨n3, e3, _, w3⟩ := DataW.trod_int Try.underlying3 t3
      obtain ⟨n4, e4, _, w4⟩ := DataW.trod_int Try.underlying5 t4
      obtain ⟨s5, e5, _, hs5⟩ := DataW.trod_string Try.underlying9 t5
      obtain ⟨A6, n6, c6', l6, e6, z6, _⟩ := open_zw_fuel t6
      simp only [List.cons.injEq, and_true] at e0 e1 e2 e3 e4 e5 e6
      subst e0; subst e1; subst e2; subst e3; subst e4; subst e5; subst e6
      have hsp : x.spot = .none := by
        obtain ⟨_, _, _, _, _, hfl0⟩ := hi 0 (by omega)
        obtain ⟨_, _, c00, _, _⟩ := hfl0 0 _ rfl
        exact spot_of_cell' (a := x) (by simpa [Addr.add] using c00)
      obtain ⟨xb, xo, xs⟩ := x
      simp only at hsp
      subst hsp
      simp only [addr_add] at c0 c1 c2 c3 c4 c5 c6
      have hu : ((UInt8.ofNat n4.toNat).toNat : Int) = n4 := by
        simp [Lit.wf, IntKind.min, IntKind.max, IntKind.signed, IntKind.bits] at w4
        rw [UInt8.toNat_ofNat', Nat.mod_eq_of_lt (by omega)]
        omega
      exact ⟨⟨n0, n1, n2, n3, UInt8.ofNat n4.toNat, s5, l6⟩, _, ⟨hs5, w0, w2, w3⟩, rfl, c0, c1, c2, c3, by show w.cell? _ = some (.int .u8 ((UInt8.ofNat n4.toNat).toNat : Int)); rw [hu]; exact c4, c5, c6, z6⟩
    refine ⟨_, l, c, fun i => if hil : i < l then (key i hil).choose else OpD.none, hcs, ⟨by omega, _, c, rfl, fun i hil => ?_⟩⟩
    simp only [dif_pos hil]
    obtain ⟨cv, hF, hsp, hat⟩ := (key i hil).choose_spec
    refine ⟨hF, x.block, x.off, cv, ?_, hat⟩
    obtain ⟨xb, xo, xs⟩ := x
    simp only at hsp
    subst hsp
    rfl
set_option maxRecDepth 100000 in
theorem open_ops {r : Reach} {b0 : Nat} {v : Value} {d : DataW H} {ps : List MemPlace} (hv : Value.okWide Try.prog w r b0 78 v) (h : DataW.Trod enc Try.prog w base spare held 78 v d ps) :
    ∃ (A : Option Addr) (n cap : Nat) (ops : Nat → OpD), v = .slice A n cap ∧ OpsD w (.slice A n cap) n ops := by
  obtain ⟨a, len, cap, rfl⟩ := okWide_slice Try.underlying78 hv
  obtain ⟨fuel, hf⟩ := h
  obtain ⟨A, n, c, ops, e, h⟩ := open_ops_fuel hf
  simp [Value.cells] at e
  obtain ⟨rfl, rfl, rfl⟩ := e
  exact ⟨_, _, _, ops, rfl, h⟩
set_option maxRecDepth 100000 in
/-- A row of two numbers, and a slice of them. -/
theorem open_span {r : Reach} {b0 : Nat} {v : Value} {d : DataW H} {ps : List MemPlace} (hv : Value.okWide Try.prog w r b0 81 v) (h : DataW.Trod enc Try.prog w base spare held 81 v d ps) :
    ∃ (x0 x1 : Int) (A : Option Addr) (n cap : Nat) (l : List Int), v = .agg #[.int .i64 x0, .int .i64 x1, .slice A n cap] ∧ Zw w (.slice A n cap) l ∧ (Lit.int .i64 x0).wf = true ∧ (Lit.int .i64 x1).wf = true := by
  obtain ⟨cs, rfl, hsz⟩ := okWide_struct Try.underlying81 hv
  have hC : Try.prog.cellsOf 81 = 3 := by kernel_rfl
  rw [hC] at hsz
  obtain ⟨l⟩ := cs
  match l, hsz with
  | [c0, c1, c2], _ =>
    obtain ⟨fuel, hf⟩ := h
    obtain ⟨xs, n, _, hx, _, hlen, hg⟩ := DataW.trod_struct Try.underlying81 hf
    have h0 := hg 0 _ rfl
    have h1 := hg 1 _ rfl
    have g0 : DataW.trod enc Try.prog w base spare held n 79 [c0, c1] = xs[0]? := h0
    have g1 : DataW.trod enc Try.prog w base spare held n 42 [c2] = xs[1]? := h1
    have hx2 : xs.length = 2 := hlen
    rw [List.getElem?_eq_getElem (by omega)] at g0 g1
    obtain ⟨zs, m, _, _, _, hzl, hz⟩ := DataW.trod_array Try.underlying79 g0
    have t0 : DataW.trod enc Try.prog w base spare held m 3 [c0] = zs[0]? := hz 0 (by omega)
    have t1 : DataW.trod enc Try.prog w base spare held m 3 [c1] = zs[1]? := hz 1 (by omega)
    rw [List.getElem?_eq_getElem (by omega)] at t0 t1
    obtain ⟨n0, e0, _, w0⟩ := DataW.trod_int Try.underlying3 t0
    obtain ⟨n1, e1, _, w1⟩ := DataW.trod_int Try.underlying3 t1
    obtain ⟨A6, n6, c6', l6, e6, z6, _⟩ := open_zw_fuel g1
    simp only [List.cons.injEq, and_true] at e0 e1 e6
    subst e0; subst e1; subst e6
    exact ⟨n0, n1, A6, n6, c6', l6, rfl, z6, w0, w1⟩
end
end Go.Proofs.Ythmnloapjdalpaa
