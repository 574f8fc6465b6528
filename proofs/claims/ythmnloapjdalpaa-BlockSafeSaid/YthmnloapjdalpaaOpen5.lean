/- Deeds, opened: calls and choices. -/
import Derived.Test.YthmnloapjdalpaaOpen4
namespace Go.Proofs.Ythmnloapjdalpaa
open Go.ChangeShapes Go.WideShapes Go.Deep Go.Joins Go.RowKit
section
variable {H : Type} {enc : TypeId × Value → H} {w : World} {base : Nat} {spare : Nat → Bool} {held : Bool}
set_option maxRecDepth 100000 in
theorem open_deeds {r : Reach} {b0 : Nat} {v : Value} {d : DataW H} {ps : List MemPlace} (hv : Value.okWide Try.prog w r b0 59 v) (h : DataW.Trod enc Try.prog w base spare held 59 v d ps) :
    ∃ (A : Option Addr) (n cap : Nat) (ops : Nat → OpB) (A2 : Option Addr) (n2 cap2 : Nat) (l : List Int), v = .agg #[.slice A n cap, .slice A2 n2 cap2] ∧ OpsB w (.slice A n cap) n ops ∧ Zw w (.slice A2 n2 cap2) l := by
  obtain ⟨cs, rfl, hsz⟩ := okWide_struct Try.underlying59 hv
  have hC : Try.prog.cellsOf 59 = 2 := by kernel_rfl
  rw [hC] at hsz
  obtain ⟨l⟩ := cs
  match l, hsz with
  | [c0, c1], _ =>
    obtain ⟨fuel, hf⟩ := h
    obtain ⟨xs, n, _, hx, _, hlen, hg⟩ := DataW.trod_struct Try.underlying59 hf
    have g0 : DataW.trod enc Try.prog w base spare held n 35 [c0] = xs[0]? := hg 0 _ rfl
    have g1 : DataW.trod enc Try.prog w base spare held n 42 [c1] = xs[1]? := hg 1 _ rfl
    have hx2 : xs.length = 2 := hlen
    rw [List.getElem?_eq_getElem (by omega)] at g0 g1
    obtain ⟨A, m, cap, ops, e0, h0⟩ := open_opsB_fuel g0
    obtain ⟨A2, n2, cap2, l2, e1, h1, _⟩ := open_zw_fuel g1
    simp only [List.cons.injEq, and_true] at e0 e1
    subst e0; subst e1
    exact ⟨A, m, cap, ops, A2, n2, cap2, l2, rfl, h0, h1⟩
end
end Go.Proofs.Ythmnloapjdalpaa
