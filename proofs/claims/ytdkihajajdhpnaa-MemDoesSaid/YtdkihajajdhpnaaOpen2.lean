/- A struct of a number, two tables, a script and a text, opened. -/
import Derived.Test.YtdkihajajdhpnaaOps
namespace Go.Proofs.Ytdkihajajdhpnaa
open Go.ChangeShapes Go.WideShapes Go.Deep Go.Joins Go.RowKit
section
variable {H : Type} {enc : TypeId × Value → H} {w : World} {base : Nat} {spare : Nat → Bool} {held : Bool}
theorem open_pages_fuel {fuel : Nat} {cs : List Value} {x : DataW H × List MemPlace} (hf : DataW.trod enc Try.prog w base spare held fuel 22 cs = some x) :
    ∃ (A : Option Addr) (n cap b : Nat) (t : List Pg), cs = [.slice A n cap] ∧ Tb w b (.slice A n cap) t ∧ (b < w.heap.size ∨ b = 0) := by
  rcases open_slice_fields (fs := _) Try.underlying22 Try.underlying31 (by kernel_rfl) (by kernel_rfl) hf with ⟨hcs, hx⟩ | ⟨x, l, c, m, D, Pl, hcs, _, hl, hm, hmm, hx, hi⟩
  · exact ⟨none, 0, 0, 0, [], hcs, ⟨by simp, none, 0, rfl, fun i p hi => by simp at hi⟩, .inr rfl⟩
  · have hlm : l ≤ m := by rw [hmm]; split <;> omega
    have key : ∀ i, i < l → ∃ o : Pg, x.spot = none ∧ x.block < w.heap.size ∧ w.cell? ⟨x.block, x.off + i * 2, none⟩ = some (.int .i64 o.f) ∧ w.cell? ⟨x.block, x.off + i * 2 + 1, none⟩ = some (.int .i64 o.r) := by
      intro i hil
      obtain ⟨ys, n, hD, hP, hyl, hfl⟩ := hi i (by omega)
      obtain ⟨v0, y0, c0, _, t0⟩ := hfl 0 _ rfl
      obtain ⟨v1, y1, c1, _, t1⟩ := hfl 1 _ rfl
      obtain ⟨n0, e0, _, w0⟩ := DataW.trod_int Try.underlying3 t0
      obtain ⟨n1, e1, _, w1⟩ := DataW.trod_int Try.underlying3 t1
      simp only [List.cons.injEq, and_true] at e0 e1
      subst e0; subst e1
      have hsp : x.spot = none := by
        obtain ⟨_, _, _, _, _, hfl0⟩ := hi 0 (by omega)
        obtain ⟨_, _, c00, _, _⟩ := hfl0 0 _ rfl
        exact spot_of_cell' (a := x) (by simpa [Addr.add] using c00)
      have hb := World.block_lt_of_cell? w _ c0
      rw [block_add] at hb
      obtain ⟨xb, xo, xs⟩ := x
      simp only at hsp
      subst hsp
      simp only [addr_add] at c0 c1
      exact ⟨⟨n0, n1⟩, rfl, hb, c0, c1⟩
    by_cases h0 : l = 0
    · subst h0
      exact ⟨_, 0, c, 0, [], hcs, ⟨by simp, _, c, rfl, fun i p hi => by simp at hi⟩, .inr rfl⟩
    · have hb0 := (key 0 (by omega)).choose_spec.2.1
      refine ⟨_, l, c, x.block, (List.range l).map fun i => if hil : i < l then (key i hil).choose else ⟨0, 0⟩, hcs, ⟨by simp; omega, some x, c, by simp, fun i p hi => ?_⟩, .inl hb0⟩
      have hin : i < l := by have := (List.getElem?_eq_some_iff.1 hi).1; simpa using this
      have hp : p = (key i hin).choose := by simp [hin] at hi; exact hi.symm
      have hk := (key i hin).choose_spec
      rw [← hp] at hk
      have hsp := hk.1
      refine ⟨x.off, ?_, hk.2⟩
      obtain ⟨xb, xo, xs⟩ := x
      simp only at hsp
      subst hsp
      rfl
end
end Go.Proofs.Ytdkihajajdhpnaa
