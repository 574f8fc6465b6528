/- Arguments opened: parts, a call, a slice of calls. -/
import Derived.Test.YtonongaakieciaaS12
import Derived.Test.YtonongaakieciaaOpenRows
import Derived.Test.YtonongaakieciaaOwn
import Derived.OpenShut
namespace Go.Proofs.Ytonongaakieciaa
open Go.ChangeShapes Go.WideShapes Go.Deep Go.Joins Go.RowKit
section
variable {H : Type} {enc : TypeId × Value → H} {w : World} {base : Nat} {spare : Nat → Bool} {held : Bool}
set_option maxRecDepth 100000 in
theorem open_parts {v : Value} {d : DataW H} {ps : List MemPlace} {r : Reach} {b0 : Nat} (hv : Value.okWide Try.prog w r b0 22 v) (h : DataW.Trod enc Try.prog w base spare held 22 v d ps) :
    ∃ (A : Option Addr) (n cap b : Nat) (t : List Pg), v = .slice A n cap ∧ Tb w b (.slice A n cap) t ∧ (b < w.heap.size ∨ b = 0) ∧ ((d = .nil ∧ n = 0) ∨ ∃ es sp, d = .slice es sp ∧ es.length = n) := by
  obtain ⟨A, n, cap, rows, rfl, hn, -, hc, hd⟩ := open_rows (fs := _) Try.underlying22 Try.underlying100 (by kernel_rfl) (by kernel_rfl) (fun j f hf => by
    match j, hf with
    | 0, hf => injection hf with hf; subst hf; exact Try.underlying3
    | 1, hf => injection hf with hf; subst hf; exact Try.underlying3
    | j + 2, hf => simp at hf) (by decide) hv h
  have hlen : ((List.range n).map fun i => (⟨rows i 0, rows i 1⟩ : Pg)).length = n := by simp
  by_cases h0 : n = 0
  · subst h0
    exact ⟨A, 0, cap, 0, [], rfl, ⟨by simp, A, cap, rfl, fun i p hi => by simp at hi⟩, .inr rfl, hd⟩
  · obtain ⟨b, off, hA, hb, _⟩ := hc 0 (by omega)
    refine ⟨A, n, cap, b, (List.range n).map fun i => ⟨rows i 0, rows i 1⟩, rfl, ⟨by rw [hlen]; exact hn, A, cap, by rw [hlen], fun i p hi => ?_⟩, .inl hb, hd⟩
    have hin : i < n := by have := (List.getElem?_eq_some_iff.1 hi).1; rwa [hlen] at this
    obtain ⟨b', off', hA', hb', hcell⟩ := hc i hin
    rw [hA] at hA'
    injection hA' with hA'
    injection hA' with e1 e2
    subst e1; subst e2
    have hp : p = ⟨rows i 0, rows i 1⟩ := by simp [hin] at hi; exact hi.symm
    subst hp
    have c0 := hcell 0 (by decide)
    have c1 := hcell 1 (by decide)
    exact ⟨off, hA, hb, c0, by rw [Nat.add_assoc]; exact c1⟩
set_option maxRecDepth 100000 in
theorem open_op {r : Reach} {b0 : Nat} {v : Value} {d : DataW H} {ps : List MemPlace} (hv : Value.okWide Try.prog w r b0 24 v) (h : DataW.Trod enc Try.prog w base spare held 24 v d ps) :
    ∃ (o0 o1 o2 o3 o4 : Int) (S : ByteArray), v = .agg #[.int .i64 o0, .int .i64 o1, .int .i64 o2, .int .i64 o3, .int .i64 o4, .string S] ∧ (Lit.int .i64 o2).wf = true ∧ (Lit.int .i64 o3).wf = true ∧ (Lit.int .i64 o4).wf = true ∧ S.size ≤ maxLen := by
  obtain ⟨cs, rfl, hsz⟩ := okWide_struct Try.underlying24 hv
  have hC : Try.prog.cellsOf 24 = 6 := by kernel_rfl
  rw [hC] at hsz
  obtain ⟨l⟩ := cs
  match l, hsz with
  | [c0, c1, c2, c3, c4, c5], _ =>
    obtain ⟨fuel, hf⟩ := h
    obtain ⟨xs, n, _, hx, _, hlen, hg⟩ := DataW.trod_struct Try.underlying24 hf
    have g0 : DataW.trod enc Try.prog w base spare held n 3 [c0] = xs[0]? := hg 0 _ rfl
    have g1 : DataW.trod enc Try.prog w base spare held n 3 [c1] = xs[1]? := hg 1 _ rfl
    have g2 : DataW.trod enc Try.prog w base spare held n 3 [c2] = xs[2]? := hg 2 _ rfl
    have g3 : DataW.trod enc Try.prog w base spare held n 3 [c3] = xs[3]? := hg 3 _ rfl
    have g4 : DataW.trod enc Try.prog w base spare held n 3 [c4] = xs[4]? := hg 4 _ rfl
    have g5 : DataW.trod enc Try.prog w base spare held n 9 [c5] = xs[5]? := hg 5 _ rfl
    have hx2 : xs.length = 6 := hlen
    rw [List.getElem?_eq_getElem (by omega)] at g0 g1 g2 g3 g4 g5
    obtain ⟨n0, e0, _, w0⟩ := DataW.trod_int Try.underlying3 g0
    obtain ⟨n1, e1, _, w1⟩ := DataW.trod_int Try.underlying3 g1
    obtain ⟨n2, e2, _, w2⟩ := DataW.trod_int Try.underlying3 g2
    obtain ⟨n3, e3, _, w3⟩ := DataW.trod_int Try.underlying3 g3
    obtain ⟨n4, e4, _, w4⟩ := DataW.trod_int Try.underlying3 g4
    obtain ⟨s5, e5, _, h5⟩ := DataW.trod_string Try.underlying9 g5
    simp only [List.cons.injEq, and_true] at e0 e1 e2 e3 e4 e5
    subst e0; subst e1; subst e2; subst e3; subst e4; subst e5
    exact ⟨n0, n1, n2, n3, n4, s5, rfl, w2, w3, w4, h5⟩
end
end Go.Proofs.Ytonongaakieciaa
