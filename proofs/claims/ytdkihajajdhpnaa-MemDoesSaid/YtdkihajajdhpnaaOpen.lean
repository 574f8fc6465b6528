/- Arguments opened: pages, arrays of four numbers and of two. -/
import Derived.Test.YtdkihajajdhpnaaW1
import Derived.Test.YtdkihajajdhpnaaOpenRows
import Derived.Test.YtdkihajajdhpnaaOwn
import Derived.Laws.IdiomArrays
import Derived.OpenShut
namespace Go.Proofs.Ytdkihajajdhpnaa
open Go.ChangeShapes Go.WideShapes Go.Deep Go.Joins Go.RowKit
section
variable {H : Type} {enc : TypeId × Value → H} {w : World} {base : Nat} {spare : Nat → Bool} {held : Bool}
theorem open_pages {v : Value} {d : DataW H} {ps : List MemPlace} {r : Reach} {b0 : Nat} (hv : Value.okWide Try.prog w r b0 22 v) (h : DataW.Trod enc Try.prog w base spare held 22 v d ps) :
    ∃ (A : Option Addr) (n cap b : Nat) (t : List Pg), v = .slice A n cap ∧ Tb w b (.slice A n cap) t ∧ (b < w.heap.size ∨ b = 0) ∧ ((d = .nil ∧ n = 0) ∨ ∃ es sp, d = .slice es sp ∧ es.length = n) := by
  obtain ⟨A, n, cap, rows, rfl, hn, -, hc, hd⟩ := open_rows (fs := _) Try.underlying22 Try.underlying31 (by kernel_rfl) (by kernel_rfl) (fun j f hf => by
    match j, hf with
    | 0, hf => injection hf with hf; subst hf; exact Try.underlying3
    | 1, hf => injection hf with hf; subst hf; exact Try.underlying3
    | j + 2, hf => simp at hf) (by decide) hv h
  have hlen : ((List.range n).map fun i => (⟨rows i 0, rows i 1⟩ : Pg)).length = n := by simp
  by_cases h0 : n = 0
  · subst h0
    exact ⟨A, 0, cap, 0, [], rfl, ⟨by simp, A, cap, rfl, fun i p hi => by simp at hi⟩, .inr rfl, hd⟩
  · obtain ⟨b, off, hA, hb, _⟩ := hc 0 (by omega)
    refine ⟨A, n, cap, b, (List.range n).map fun i => ⟨rows i 0, rows i 1⟩, rfl, ⟨by rw [hlen]; exact hn, A, cap, by rw [hlen], fun i p hi => ?_⟩, .inl hb, hd⟩
    have hin : i < n := by have := (List.getElem?_eq_some_iff.1 hi).1; rwa [hlen] at this
    obtain ⟨b', off', hA', hb', hcell⟩ := hc i hin
    rw [hA] at hA'
    injection hA' with hA'
    injection hA' with e1 e2
    subst e1; subst e2
    have hp : p = ⟨rows i 0, rows i 1⟩ := by simp [hin] at hi; exact hi.symm
    subst hp
    have c0 := hcell 0 (by decide)
    have c1 := hcell 1 (by decide)
    exact ⟨off, hA, hb, c0, by rw [Nat.add_assoc]; exact c1⟩
theorem open_four {v : Value} {d : DataW H} {ps : List MemPlace} {r : Reach} {b0 : Nat} (hv : Value.okWide Try.prog w r b0 40 v) (h : DataW.Trod enc Try.prog w base spare held 40 v d ps) :
    ∃ x0 x1 x2 x3 : Int, v = .agg #[.int .i64 x0, .int .i64 x1, .int .i64 x2, .int .i64 x3] ∧ (Lit.int .i64 x0).wf = true ∧ (Lit.int .i64 x1).wf = true ∧ (Lit.int .i64 x2).wf = true ∧ (Lit.int .i64 x3).wf = true := by
  obtain ⟨cs, rfl, hsz, _⟩ : ∃ cs, v = .agg cs ∧ cs.size = Try.prog.cellsOf 40 ∧ Row.okWide Try.prog w r b0 40 cs := by
    simpa [Value.okWide, Try.underlying40] using hv
  have h4 : Try.prog.cellsOf 40 = 4 := by kernel_rfl
  have h1 : Try.prog.cellsOf 3 = 1 := by kernel_rfl
  rw [h4] at hsz
  obtain ⟨l⟩ := cs
  match l, hsz with
  | [c0, c1, c2, c3], _ =>
    obtain ⟨fuel, hf⟩ := h
    obtain ⟨y0, y1, y2, y3, m, _, hy0, hy1, hy2, hy3⟩ := trod_array4 Try.underlying40 h1 hf
    obtain ⟨x0, e0, _, w0⟩ := DataW.trod_int Try.underlying3 hy0
    obtain ⟨x1, e1, _, w1⟩ := DataW.trod_int Try.underlying3 hy1
    obtain ⟨x2, e2, _, w2⟩ := DataW.trod_int Try.underlying3 hy2
    obtain ⟨x3, e3, _, w3⟩ := DataW.trod_int Try.underlying3 hy3
    simp only [List.cons.injEq, and_true] at e0 e1 e2 e3
    subst e0; subst e1; subst e2; subst e3
    exact ⟨x0, x1, x2, x3, rfl, w0, w1, w2, w3⟩
theorem open_two {v : Value} {d : DataW H} {ps : List MemPlace} {r : Reach} {b0 : Nat} (hv : Value.okWide Try.prog w r b0 68 v) (h : DataW.Trod enc Try.prog w base spare held 68 v d ps) :
    ∃ x0 x1 : Int, v = .agg #[.int .i64 x0, .int .i64 x1] ∧ (Lit.int .i64 x0).wf = true ∧ (Lit.int .i64 x1).wf = true := by
  obtain ⟨cs, rfl, hsz, _⟩ : ∃ cs, v = .agg cs ∧ cs.size = Try.prog.cellsOf 68 ∧ Row.okWide Try.prog w r b0 68 cs := by
    simpa [Value.okWide, Try.underlying68] using hv
  have h4 : Try.prog.cellsOf 68 = 2 := by kernel_rfl
  have h1 : Try.prog.cellsOf 3 = 1 := by kernel_rfl
  rw [h4] at hsz
  obtain ⟨l⟩ := cs
  match l, hsz with
  | [c0, c1], _ =>
    obtain ⟨fuel, hf⟩ := h
    obtain ⟨xs, m, _, _, _, hl, hel⟩ := DataW.trod_array Try.underlying68 hf
    have g0 := hel 0 (by omega)
    have g1 := hel 1 (by omega)
    rw [h1] at g0 g1
    obtain ⟨y0, hy0⟩ : ∃ y, xs[0]? = some y := ⟨_, List.getElem?_eq_getElem (by omega)⟩
    obtain ⟨y1, hy1⟩ : ∃ y, xs[1]? = some y := ⟨_, List.getElem?_eq_getElem (by omega)⟩
    rw [hy0] at g0
    rw [hy1] at g1
    simp [Value.cells] at g0 g1
    obtain ⟨x0, e0, _, w0⟩ := DataW.trod_int Try.underlying3 g0
    obtain ⟨x1, e1, _, w1⟩ := DataW.trod_int Try.underlying3 g1
    simp only [List.cons.injEq, and_true] at e0 e1
    subst e0; subst e1
    exact ⟨x0, x1, rfl, w0, w1⟩
end
end Go.Proofs.Ytdkihajajdhpnaa
