/- Scripts: slices of calls that came in. -/
import Derived.Test.YtdkihajajdhpnaaOpen
namespace Go.Proofs.Ytdkihajajdhpnaa
open Go.ChangeShapes Go.WideShapes Go.Deep Go.Joins Go.RowKit
/-- A call in a script. -/
structure OpM where
  On : Int
  Kind : Int
  A : Int
  B : Int
  C : Int
  S : ByteArray
  hS : S.size ≤ maxLen
  hOn : (Lit.int .i64 On).wf = true
  hA : (Lit.int .i64 A).wf = true
  hB : (Lit.int .i64 B).wf = true
  hC : (Lit.int .i64 C).wf = true
def OpM.none : OpM := ⟨0, 0, 0, 0, 0, ByteArray.empty, Nat.zero_le _, by decide, by decide, by decide, by decide⟩
/-- A call's cells. -/
def OpM.at (w : World) (b o : Nat) (x : OpM) : Prop :=
  w.cell? ⟨b, o, .none⟩ = some (.int .i64 x.On) ∧ w.cell? ⟨b, o + 1, .none⟩ = some (.int .i64 x.Kind) ∧ w.cell? ⟨b, o + 2, .none⟩ = some (.int .i64 x.A) ∧
    w.cell? ⟨b, o + 3, .none⟩ = some (.int .i64 x.B) ∧ w.cell? ⟨b, o + 4, .none⟩ = some (.int .i64 x.C) ∧ w.cell? ⟨b, o + 5, .none⟩ = some (.string x.S)
/-- A slice of calls, in memory that came in. -/
def OpsIn (w : World) (v : Value) (n : Nat) (ops : Nat → OpM) : Prop :=
  n ≤ maxLen ∧ ∃ A cap, v = .slice A n cap ∧ ∀ i, i < n → ∃ b off, A = some ⟨b, off, .none⟩ ∧ b < w.heap.size ∧ OpM.at w b (off + i * 6) (ops i)
theorem OpsIn.at_ {w : World} {A : Option Addr} {n cap : Nat} {ops : Nat → OpM} (h : OpsIn w (.slice A n cap) n ops) {i : Nat} (hi : i < n) : ∃ b off, A = some ⟨b, off, .none⟩ ∧ b < w.heap.size ∧ OpM.at w b (off + i * 6) (ops i) := by
  obtain ⟨_, A', cap', h1, h2⟩ := h
  injection h1 with hA _ _
  rw [hA]
  exact h2 i hi
theorem OpM.fr {w w' : World} {S : List Nat} {b o : Nat} {x : OpM} (h : OpM.at w b o x) (hf : Fr S w w') (hb : b ∉ S) : OpM.at w' b o x :=
  ⟨hf.cell_some h.1 hb, hf.cell_some h.2.1 hb, hf.cell_some h.2.2.1 hb, hf.cell_some h.2.2.2.1 hb, hf.cell_some h.2.2.2.2.1 hb, hf.cell_some h.2.2.2.2.2 hb⟩
theorem OpsIn.fr {w w' : World} {v : Value} {n : Nat} {ops : Nat → OpM} (h : OpsIn w v n ops) (hf : Fr [] w w') : OpsIn w' v n ops := by
  obtain ⟨h0, A, cap, h1, h2⟩ := h
  refine ⟨h0, A, cap, h1, fun i hi => ?_⟩
  obtain ⟨b, off, hA, hb, hc⟩ := h2 i hi
  have hs := hf.size
  exact ⟨b, off, hA, by omega, OpM.fr (x := ops i) hc hf (by simp)⟩
section
variable {H : Type} {enc : TypeId × Value → H} {w : World} {base : Nat} {spare : Nat → Bool} {held : Bool}
/-- A slice of calls, opened (as a reading with fuel). -/
theorem open_ops_fuel {fuel : Nat} {cs : List Value} {x : DataW H × List MemPlace} (hf : DataW.trod enc Try.prog w base spare held fuel 48 cs = some x) :
    ∃ (A : Option Addr) (n cap : Nat) (ops : Nat → OpM), cs = [.slice A n cap] ∧ OpsIn w (.slice A n cap) n ops := by
  rcases open_slice_fields (fs := _) Try.underlying48 Try.underlying54 (by kernel_rfl) (by kernel_rfl) hf with ⟨hcs, hx⟩ | ⟨x, l, c, m, D, Pl, hcs, _, hl, hm, hmm, hx, hi⟩
  · exact ⟨.none, 0, 0, fun _ => OpM.none, hcs, ⟨Nat.zero_le _, .none, 0, rfl, fun i hi => absurd hi (Nat.not_lt_zero i)⟩⟩
  · have hlm : l ≤ m := by rw [hmm]; split <;> omega
    have key : ∀ i, i < l → ∃ o : OpM, x.spot = .none ∧ x.block < w.heap.size ∧ OpM.at w x.block (x.off + i * 6) o := by
      intro i hil
      obtain ⟨ys, n, hD, hP, hyl, hfl⟩ := hi i (by omega)
      obtain ⟨v0, y0, c0, _, t0⟩ := hfl 0 _ rfl
      obtain ⟨v1, y1, c1, _, t1⟩ := hfl 1 _ rfl
      obtain ⟨v2, y2, c2, _, t2⟩ := hfl 2 _ rfl
      obtain ⟨v3, y3, c3, _, t3⟩ := hfl 3 _ rfl
      obtain ⟨v4, y4, c4, _, t4⟩ := hfl 4 _ rfl
      obtain ⟨v5, y5, c5, _, t5⟩ := hfl 5 _ rfl
      obtain ⟨n0, e0, _, w0⟩ := DataW.trod_int Try.underlying3 t0
      obtain ⟨n1, e1, _, w1⟩ := DataW.trod_int Try.underlying3 t1
      obtain ⟨n2, e2, _, w2⟩ := DataW.trod_int Try.underlying3 t2
      obtain ⟨n3, e3, _, w3⟩ := DataW.trod_int Try.underlying3 t3
      obtain ⟨n4, e4, _, w4⟩ := DataW.trod_int Try.underlying3 t4
      obtain ⟨s5, e5, _, hs5⟩ := DataW.trod_string Try.underlying9 t5
      simp only [List.cons.injEq, and_true] at e0 e1 e2 e3 e4 e5
      subst e0; subst e1; subst e2; subst e3; subst e4; subst e5
      have hsp : x.spot = .none := by
        obtain ⟨_, _, _, _, _, hfl0⟩ := hi 0 (by omega)
        obtain ⟨_, _, c00, _, _⟩ := hfl0 0 _ rfl
        exact spot_of_cell' (a := x) (by simpa [Addr.add] using c00)
      have hb := World.block_lt_of_cell? w _ c0
      rw [block_add] at hb
      obtain ⟨xb, xo, xs⟩ := x
      simp only at hsp
      subst hsp
      simp only [addr_add] at c0 c1 c2 c3 c4 c5
      exact ⟨⟨n0, n1, n2, n3, n4, s5, hs5, w0, w2, w3, w4⟩, rfl, hb, c0, c1, c2, c3, c4, c5⟩
    refine ⟨_, l, c, fun i => if hil : i < l then (key i hil).choose else OpM.none, hcs, ⟨by omega, _, c, rfl, fun i hil => ?_⟩⟩
    simp only [dif_pos hil]
    have hk := (key i hil).choose_spec
    have hsp := hk.1
    refine ⟨x.block, x.off, ?_, hk.2⟩
    obtain ⟨xb, xo, xs⟩ := x
    simp only at hsp
    subst hsp
    rfl
end
end Go.Proofs.Ytdkihajajdhpnaa
