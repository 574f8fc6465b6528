/- A number and two rows of numbers, opened. -/
import Derived.Test.YthmnloapjdalpaaOpen
namespace Go.Proofs.Ythmnloapjdalpaa
open Go.ChangeShapes Go.WideShapes Go.Deep Go.Joins Go.RowKit
section
variable {H : Type} {enc : TypeId × Value → H} {w : World} {base : Nat} {spare : Nat → Bool} {held : Bool}
set_option maxRecDepth 100000 in
theorem open_two {r : Reach} {b0 : Nat} {v : Value} {d : DataW H} {ps : List MemPlace} (hv : Value.okWide Try.prog w r b0 87 v) (h : DataW.Trod enc Try.prog w base spare held 87 v d ps) :
    ∃ (x : Int) (A B : Option Addr) (na ca nb cb : Nat) (la lb : List Int), v = .agg #[.int .i64 x, .slice A na ca, .slice B nb cb] ∧ Zw w (.slice A na ca) la ∧ Zw w (.slice B nb cb) lb ∧ (Lit.int .i64 x).wf = true := by
  obtain ⟨cs, rfl, hsz⟩ := okWide_struct Try.underlying87 hv
  have hC : Try.prog.cellsOf 87 = 3 := by kernel_rfl
  rw [hC] at hsz
  obtain ⟨l⟩ := cs
  match l, hsz with
  | [c0, c1, c2], _ =>
    obtain ⟨fuel, hf⟩ := h
    obtain ⟨xs, n, _, hx, _, hlen, hg⟩ := DataW.trod_struct Try.underlying87 hf
    have h0 := hg 0 _ rfl
    have h1 := hg 1 _ rfl
    have h2 := hg 2 _ rfl
    have g0 : DataW.trod enc Try.prog w base spare held n 3 [c0] = xs[0]? := h0
    have g1 : DataW.trod enc Try.prog w base spare held n 42 [c1] = xs[1]? := h1
    have g2 : DataW.trod enc Try.prog w base spare held n 42 [c2] = xs[2]? := h2
    have hx2 : xs.length = 3 := hlen
    rw [List.getElem?_eq_getElem (by omega)] at g0 g1 g2
    obtain ⟨n0, e0, _, w0⟩ := DataW.trod_int Try.underlying3 g0
    obtain ⟨A6, n6, c6', l6, e6, z6, _⟩ := open_zw_fuel g1
    obtain ⟨A7, n7, c7', l7, e7, z7, _⟩ := open_zw_fuel g2
    simp only [List.cons.injEq, and_true] at e0 e6 e7
    subst e0; subst e6; subst e7
    exact ⟨n0, A6, A7, n6, c6', n7, c7', l6, l7, rfl, z6, z7, w0⟩
end
end Go.Proofs.Ythmnloapjdalpaa
