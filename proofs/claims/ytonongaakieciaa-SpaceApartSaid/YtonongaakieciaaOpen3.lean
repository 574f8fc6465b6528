/- Arguments opened: parts, a call, a slice of calls. A way, opened: a partition and a script. A slice of texts, opened. -/
import Derived.Test.YtonongaakieciaaS13
import Derived.Test.YtonongaakieciaaOpenRows
import Derived.Test.YtonongaakieciaaOwn
import Derived.OpenShut
import Derived.Test.YtonongaakieciaaS17
import Derived.Test.YtonongaakieciaaS19
namespace Go.Proofs.Ytonongaakieciaa
open Go.ChangeShapes Go.WideShapes Go.Deep Go.Joins Go.RowKit
section
variable {H : Type} {enc : TypeId × Value → H} {w : World} {base : Nat} {spare : Nat → Bool} {held : Bool}
set_option maxRecDepth 100000 in
theorem open_parts {v : Value} {d : DataW H} {ps : List MemPlace} {r : Reach} {b0 : Nat} (hv : Value.okWide Try.prog w r b0 22 v) (h : DataW.Trod enc Try.prog w base spare held 22 v d ps) :
    ∃ (A : Option Addr) (n cap b : Nat) (t : List Pg), v = .slice A n cap ∧ Tb w b (.slice A n cap) t ∧ (b < w.heap.size ∨ b = 0) ∧ ((d = .nil ∧ n = 0) ∨ ∃ es sp, d = .slice es sp ∧ es.length = n) := by
  obtain ⟨A, n, cap, rows, rfl, hn, -, hc, hd⟩ := open_rows (fs := _) Try.underlying22 Try.underlying100 (by kernel_rfl) (by kernel_rfl) (fun j f hf => by
    match j, hf with
    | 0, hf => injection hf with hf; subst hf; exact Try.underlying3
    | 1, hf => injection hf with hf; subst hf; exact Try.underlying3
    | j + 2, hf => simp at hf) (by decide) hv h
  have hlen : ((List.range n).map fun i => (⟨rows i 0, rows i 1⟩ : Pg)).length = n := by simp
  by_cases h0 : n = 0
  · subst h0
    exact ⟨A, 0, cap, 0, [], rfl, ⟨by simp, A, cap, rfl, fun i p hi => by simp at hi⟩, .inr rfl, hd⟩
  · obtain ⟨b, off, hA, hb, _⟩ := hc 0 (by omega)
    refine ⟨A, n, cap, b, (List.range n).map fun i => ⟨rows i 0, rows i 1⟩, rfl, ⟨by rw [hlen]; exact hn, A, cap, by rw [hlen], fun i p hi => ?_⟩, .inl hb, hd⟩
    have hin : i < n := by have := (List.getElem?_eq_some_iff.1 hi).1; rwa [hlen] at this
    obtain ⟨b', off', hA', hb', hcell⟩ := hc i hin
    rw [hA] at hA'
    injection hA' with hA'
    injection hA' with e1 e2
    subst e1; subst e2
    have hp : p = ⟨rows i 0, rows i 1⟩ := by simp [hin] at hi; exact hi.symm
    subst hp
    have c0 := hcell 0 (by decide)
    have c1 := hcell 1 (by decide)
    exact ⟨off, hA, hb, c0, by rw [Nat.add_assoc]; exact c1⟩
set_option maxRecDepth 100000 in
theorem open_op {r : Reach} {b0 : Nat} {v : Value} {d : DataW H} {ps : List MemPlace} (hv : Value.okWide Try.prog w r b0 24 v) (h : DataW.Trod enc Try.prog w base spare held 24 v d ps) :
    ∃ (o0 o1 o2 o3 o4 : Int) (S : ByteArray), v = .agg #[.int .i64 o0, .int .i64 o1, .int .i64 o2, .int .i64 o3, .int .i64 o4, .string S] ∧ (Lit.int .i64 o2).wf = true ∧ (Lit.int .i64 o3).wf = true ∧ (Lit.int .i64 o4).wf = true ∧ S.size ≤ maxLen := by
  obtain ⟨cs, rfl, hsz⟩ := okWide_struct Try.underlying24 hv
  have hC : Try.prog.cellsOf 24 = 6 := by kernel_rfl
  rw [hC] at hsz
  obtain ⟨l⟩ := cs
  match l, hsz with
  | [c0, c1, c2, c3, c4, c5], _ =>
    obtain ⟨fuel, hf⟩ := h
    obtain ⟨xs, n, _, hx, _, hlen, hg⟩ := DataW.trod_struct Try.underlying24 hf
    have g0 : DataW.trod enc Try.prog w base spare held n 3 [c0] = xs[0]? := hg 0 _ rfl
    have g1 : DataW.trod enc Try.prog w base spare held n 3 [c1] = xs[1]? := hg 1 _ rfl
    have g2 : DataW.trod enc Try.prog w base spare held n 3 [c2] = xs[2]? := hg 2 _ rfl
    have g3 : DataW.trod enc Try.prog w base spare held n 3 [c3] = xs[3]? := hg 3 _ rfl
    have g4 : DataW.trod enc Try.prog w base spare held n 3 [c4] = xs[4]? := hg 4 _ rfl
    have g5 : DataW.trod enc Try.prog w base spare held n 9 [c5] = xs[5]? := hg 5 _ rfl
    have hx2 : xs.length = 6 := hlen
    rw [List.getElem?_eq_getElem (by omega)] at g0 g1 g2 g3 g4 g5
    obtain ⟨n0, e0, _, w0⟩ := DataW.trod_int Try.underlying3 g0
    obtain ⟨n1, e1, _, w1⟩ := DataW.trod_int Try.underlying3 g1
    obtain ⟨n2, e2, _, w2⟩ := DataW.trod_int Try.underlying3 g2
    obtain ⟨n3, e3, _, w3⟩ := DataW.trod_int Try.underlying3 g3
    obtain ⟨n4, e4, _, w4⟩ := DataW.trod_int Try.underlying3 g4
    obtain ⟨s5, e5, _, h5⟩ := DataW.trod_string Try.underlying9 g5
    simp only [List.cons.injEq, and_true] at e0 e1 e2 e3 e4 e5
    subst e0; subst e1; subst e2; subst e3; subst e4; subst e5
    exact ⟨n0, n1, n2, n3, n4, s5, rfl, w2, w3, w4, h5⟩
end
end Go.Proofs.Ytonongaakieciaa
namespace Go.Proofs.Ytonongaakieciaa
open Go.ChangeShapes Go.WideShapes Go.Deep Go.Joins Go.RowKit
section
variable {H : Type} {enc : TypeId × Value → H} {w : World} {base : Nat} {spare : Nat → Bool} {held : Bool}
set_option maxRecDepth 100000 in
theorem open_ops_fuel {fuel : Nat} {cs : List Value} {x : DataW H × List MemPlace} (hf : DataW.trod enc Try.prog w base spare held fuel 38 cs = some x) :
    ∃ (A : Option Addr) (n cap : Nat) (ops : Nat → OpS), cs = [.slice A n cap] ∧ OpsS w A n ops := by
  rcases open_slice_fields (fs := _) Try.underlying38 Try.underlying24 (by kernel_rfl) (by kernel_rfl) hf with ⟨hcs, hx⟩ | ⟨x, l, c, m, D, Pl, hcs, _, hl, hm, hmm, hx, hi⟩
  · exact ⟨.none, 0, 0, fun _ => OpS.none, hcs, Nat.zero_le _, fun i hi => absurd hi (Nat.not_lt_zero i)⟩
  · have hlm : l ≤ m := by rw [hmm]; split <;> omega
    have key : ∀ i, i < l → ∃ (o : OpS), x.spot = .none ∧ OpS.at w x.block (x.off + i * 6) o := by
      intro i hil
      obtain ⟨ys, n, hD, hP, hyl, hfl⟩ := hi i (by omega)
      obtain ⟨v0, y0, c0, _, t0⟩ := hfl 0 _ rfl
      obtain ⟨v1, y1, c1, _, t1⟩ := hfl 1 _ rfl
      obtain ⟨v2, y2, c2, _, t2⟩ := hfl 2 _ rfl
      obtain ⟨v3, y3, c3, _, t3⟩ := hfl 3 _ rfl
      obtain ⟨v4, y4, c4, _, t4⟩ := hfl 4 _ rfl
      obtain ⟨v5, y5, c5, _, t5⟩ := hfl 5 _ rfl
      obtain ⟨n0, e0, _, w0⟩ := DataW.trod_int Try.underlying3 t0
      obtain ⟨n1, e1, _, w1⟩ := DataW.trod_int Try.underlying3 t1
      obtain ⟨n2, e2, _, w2⟩ := DataW.trod_int Try.underlying3 t2
      obtain ⟨n3, e3, _, w3⟩ := DataW.trod_int Try.underlying3 t3
      obtain ⟨n4, e4, _, w4⟩ := DataW.trod_int Try.underlying3 t4
      obtain ⟨s5, e5, _, hs5⟩ := DataW.trod_string Try.underlying9 t5
      simp only [List.cons.injEq, and_true] at e0 e1 e2 e3 e4 e5
      subst e0; subst e1; subst e2; subst e3; subst e4; subst e5
      have hsp : x.spot = .none := by
        obtain ⟨_, _, _, _, _, hfl0⟩ := hi 0 (by omega)
        obtain ⟨_, _, c00, _, _⟩ := hfl0 0 _ rfl
        exact spot_of_cell' (a := x) (by simpa [Addr.add] using c00)
      obtain ⟨xb, xo, xs⟩ := x
      simp only at hsp
      subst hsp
      simp only [addr_add] at c0 c1 c2 c3 c4 c5
      exact ⟨⟨n0, n1, n2, n3, n4, s5, wf_i64 w3, wf_i64 w4, hs5⟩, rfl, c0, c1, c2, c3, c4, c5⟩
    refine ⟨_, l, c, fun i => if hil : i < l then (key i hil).choose else OpS.none, hcs, by omega, fun i hil => ?_⟩
    simp only [dif_pos hil]
    obtain ⟨hsp, hat⟩ := (key i hil).choose_spec
    refine ⟨x.block, x.off, ?_, hat⟩
    obtain ⟨xb, xo, xs⟩ := x
    simp only at hsp
    subst hsp
    rfl
set_option maxRecDepth 100000 in
theorem open_way {r : Reach} {b0 : Nat} {v : Value} {d : DataW H} {ps : List MemPlace} (hv : Value.okWide Try.prog w r b0 96 v) (h : DataW.Trod enc Try.prog w base spare held 96 v d ps) :
    ∃ (wp : Int) (B : Option Addr) (ns cs : Nat) (ops : Nat → OpS), v = .agg #[.int .i64 wp, .slice B ns cs] ∧ (-9223372036854775808 ≤ wp ∧ wp ≤ 9223372036854775807) ∧ OpsS w B ns ops := by
  obtain ⟨cs, rfl, hsz⟩ := okWide_struct Try.underlying96 hv
  have hC : Try.prog.cellsOf 96 = 2 := by kernel_rfl
  rw [hC] at hsz
  obtain ⟨l⟩ := cs
  match l, hsz with
  | [c0, c1], _ =>
    obtain ⟨fuel, hf⟩ := h
    obtain ⟨xs, n, _, hx, _, hlen, hg⟩ := DataW.trod_struct Try.underlying96 hf
    have g0 : DataW.trod enc Try.prog w base spare held n 3 [c0] = xs[0]? := hg 0 _ rfl
    have g1 : DataW.trod enc Try.prog w base spare held n 38 [c1] = xs[1]? := hg 1 _ rfl
    have hx2 : xs.length = 2 := hlen
    rw [List.getElem?_eq_getElem (by omega)] at g0 g1
    obtain ⟨n0, e0, _, w0⟩ := DataW.trod_int Try.underlying3 g0
    obtain ⟨A, m, cap, ops, e1, h1⟩ := open_ops_fuel g1
    simp only [List.cons.injEq, and_true] at e0 e1
    subst e0; subst e1
    exact ⟨n0, A, m, cap, ops, rfl, wf_i64 w0, h1⟩
end
end Go.Proofs.Ytonongaakieciaa
namespace Go.Proofs.Ytonongaakieciaa
open Go.ChangeShapes Go.WideShapes Go.Deep Go.Joins Go.RowKit
section
variable {H : Type} {enc : TypeId × Value → H} {w : World} {base : Nat} {spare : Nat → Bool} {held : Bool}
set_option maxRecDepth 100000 in
theorem open_texts_fuel {fuel : Nat} {cs : List Value} {y : DataW H × List MemPlace} (hf : DataW.trod enc Try.prog w base spare held fuel 70 cs = some y) :
    ∃ (A : Option Addr) (n cap : Nat) (l : Nat → ByteArray), cs = [.slice A n cap] ∧ PrS w A n l := by
  have h1 : Try.prog.cellsOf 9 = 1 := by kernel_rfl
  rcases open_slice Try.underlying70 hf with ⟨hcs, hx⟩ | ⟨x, l, c, m, n, D, Pl, hcs, hb, hl, hm, hmm, hx, hi⟩
  · exact ⟨none, 0, 0, fun _ => ⟨#[]⟩, hcs, Nat.zero_le _, fun i hi => absurd hi (Nat.not_lt_zero i)⟩
  · have hlm : l ≤ m := by rw [hmm]; split <;> omega
    have key : ∀ i, i < l → ∃ u : ByteArray, x.spot = none ∧ w.cell? ⟨x.block, x.off + i, none⟩ = some (.string u) := by
      intro i hil
      obtain ⟨cs', hc, ht'⟩ := hi i (by omega)
      rw [h1] at hc
      obtain ⟨_, hcl, hat⟩ := World.cells?_some hc
      obtain ⟨s, hs, _, _⟩ := DataW.trod_string Try.underlying9 ht'
      subst hs
      have c0 := hat 0 (by omega)
      rw [Go.Deep.add_add] at c0
      simp at c0
      have hsp : x.spot = none := by
        obtain ⟨cs0, hc0, ht0⟩ := hi 0 (by omega)
        rw [h1] at hc0
        obtain ⟨_, hcl0, hat0⟩ := World.cells?_some hc0
        obtain ⟨s0, hs0, _, _⟩ := DataW.trod_string Try.underlying9 ht0
        subst hs0
        have c1 := hat0 0 (by omega)
        exact spot_of_cell' (a := x) (by simpa [Addr.add] using c1)
      obtain ⟨xb, xo, xs⟩ := x
      simp only at hsp
      subst hsp
      rw [addr_add] at c0
      exact ⟨s, rfl, c0⟩
    refine ⟨_, l, c, fun i => if hil : i < l then (key i hil).choose else ⟨#[]⟩, hcs, by omega, fun i hil => ?_⟩
    have hk := (key i hil).choose_spec
    simp only [dif_pos hil]
    refine ⟨x.block, x.off, ?_, hk.2⟩
    have hsp := hk.1
    obtain ⟨xb, xo, xs⟩ := x
    simp only at hsp
    subst hsp
    rfl
set_option maxRecDepth 100000 in
theorem open_texts {r : Reach} {b0 : Nat} {v : Value} {d : DataW H} {ps : List MemPlace} (hv : Value.okWide Try.prog w r b0 70 v) (h : DataW.Trod enc Try.prog w base spare held 70 v d ps) :
    ∃ (A : Option Addr) (n cap : Nat) (l : Nat → ByteArray), v = .slice A n cap ∧ PrS w A n l := by
  obtain ⟨a, len, cap, rfl⟩ := okWide_slice Try.underlying70 hv
  obtain ⟨fuel, hf⟩ := h
  obtain ⟨A, n, c, l, e, h⟩ := open_texts_fuel hf
  simp [Value.cells] at e
  obtain ⟨rfl, rfl, rfl⟩ := e
  exact ⟨_, _, _, l, rfl, h⟩
end
end Go.Proofs.Ytonongaakieciaa
