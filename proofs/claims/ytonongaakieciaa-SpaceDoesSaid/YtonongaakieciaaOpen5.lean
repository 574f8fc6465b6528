/- SpaceDoes: the arguments, opened. -/
import Derived.Test.YtonongaakieciaaQ7
import Derived.Test.YtonongaakieciaaOpenRows
import Derived.Test.YtonongaakieciaaOwn
import Derived.OpenShut
import Derived.SizedLaws
namespace Go.Proofs.Ytonongaakieciaa
open Go.ChangeShapes Go.WideShapes Go.Deep Go.Joins Go.RowKit
section
variable {H : Type} {enc : TypeId × Value → H} {w : World} {base : Nat} {spare : Nat → Bool} {held : Bool}
theorem Try.bytesOf24 : Try.prog.bytesOf 24 = 56 := by kernel_rfl
theorem slice_weight {t e : TypeId} {es sp : List (DataW H)} (ht : Try.prog.underlying t = some (.slice e)) : (es.length + sp.length) * Try.prog.bytesOf e ∈ (DataW.slice es sp).weights Try.prog t := by
  simp [DataW.weights, ht]
set_option maxRecDepth 100000 in
theorem open_parts {v : Value} {d : DataW H} {ps : List MemPlace} {r : Reach} {b0 : Nat} (hv : Value.okWide Try.prog w r b0 22 v) (h : DataW.Trod enc Try.prog w base spare held 22 v d ps) :
    ∃ (A : Option Addr) (n cap b : Nat) (t : List Pg), v = .slice A n cap ∧ Tb w b (.slice A n cap) t ∧ (b < w.heap.size ∨ b = 0) ∧ ((d = .nil ∧ n = 0) ∨ ∃ es sp, d = .slice es sp ∧ es.length = n) := by
  obtain ⟨A, n, cap, rows, rfl, hn, -, hc, hd⟩ := open_rows (fs := _) Try.underlying22 Try.underlying100 (by kernel_rfl) (by kernel_rfl) (fun j f hf => by
    match j, hf with
    | 0, hf => injection hf with hf; subst hf; exact Try.underlying3
    | 1, hf => injection hf with hf; subst hf; exact Try.underlying3
    | j + 2, hf => simp at hf) (by decide) hv h
  have hlen : ((List.range n).map fun i => (⟨rows i 0, rows i 1⟩ : Pg)).length = n := by simp
  by_cases h0 : n = 0
  · subst h0
    exact ⟨A, 0, cap, 0, [], rfl, ⟨by simp, A, cap, rfl, fun i p hi => by simp at hi⟩, .inr rfl, hd⟩
  · obtain ⟨b, off, hA, hb, _⟩ := hc 0 (by omega)
    refine ⟨A, n, cap, b, (List.range n).map fun i => ⟨rows i 0, rows i 1⟩, rfl, ⟨by rw [hlen]; exact hn, A, cap, by rw [hlen], fun i p hi => ?_⟩, .inl hb, hd⟩
    have hin : i < n := by have := (List.getElem?_eq_some_iff.1 hi).1; rwa [hlen] at this
    obtain ⟨b', off', hA', hb', hcell⟩ := hc i hin
    rw [hA] at hA'
    injection hA' with hA'
    injection hA' with e1 e2
    subst e1; subst e2
    have hp : p = ⟨rows i 0, rows i 1⟩ := by simp [hin] at hi; exact hi.symm
    subst hp
    have c0 := hcell 0 (by decide)
    have c1 := hcell 1 (by decide)
    exact ⟨off, hA, hb, c0, by rw [Nat.add_assoc]; exact c1⟩
set_option maxRecDepth 100000 in
theorem open_opsX_fuel {fuel : Nat} {cs : List Value} {x : DataW H × List MemPlace} (hf : DataW.trod enc Try.prog w base spare held fuel 38 cs = some x) (hw : ∀ m, m ∈ x.1.weights Try.prog 38 → m ≤ reachBytes) :
    ∃ (A : Option Addr) (n cap : Nat) (ops : Nat → OpX), cs = [.slice A n cap] ∧ OpsX w A n ops ∧ (n + 1) * 8 ≤ 140737488355328 := by
  rcases open_slice_fields (fs := _) Try.underlying38 Try.underlying24 (by kernel_rfl) (by kernel_rfl) hf with ⟨hcs, hx⟩ | ⟨x, l, c, m, D, Pl, hcs, _, hl, hm, hmm, hx, hi⟩
  · exact ⟨.none, 0, 0, fun _ => OpX.none, hcs, ⟨Nat.zero_le _, fun i hi => absurd hi (Nat.not_lt_zero i)⟩, by omega⟩
  · have hlm : l ≤ m := by rw [hmm]; split <;> omega
    rw [hx] at hw
    simp only at hw
    have hn8 : (l + 1) * 8 ≤ 140737488355328 := by
      have h2 := hw _ (slice_weight Try.underlying38)
      rw [Try.bytesOf24] at h2
      simp [reachBytes] at h2
      omega
    have key : ∀ i, i < l → ∃ (o : OpX), x.spot = .none ∧ OpX.at w x.block (x.off + i * 6) o := by
      intro i hil
      obtain ⟨ys, n, hD, hP, hyl, hfl⟩ := hi i (by omega)
      obtain ⟨v0, y0, c0, _, t0⟩ := hfl 0 _ rfl
      obtain ⟨v1, y1, c1, _, t1⟩ := hfl 1 _ rfl
      obtain ⟨v2, y2, c2, _, t2⟩ := hfl 2 _ rfl
      obtain ⟨v3, y3, c3, _, t3⟩ := hfl 3 _ rfl
      obtain ⟨v4, y4, c4, _, t4⟩ := hfl 4 _ rfl
      obtain ⟨v5, y5, c5, _, t5⟩ := hfl 5 _ rfl
      obtain ⟨n0, e0, _, w0⟩ := DataW.trod_int Try.underlying3 t0
      obtain ⟨n1, e1, _, w1⟩ := DataW.trod_int Try.underlying3 t1
      obtain ⟨n2, e2, _, w2⟩ := DataW.trod_int Try.underlying3 t2
      obtain ⟨n3, e3, _, w3⟩ := DataW.trod_int Try.underlying3 t3
      obtain ⟨n4, e4, _, w4⟩ := DataW.trod_int Try.underlying3 t4
      obtain ⟨s5, e5, _, hs5⟩ := DataW.trod_string Try.underlying9 t5
      simp only [List.cons.injEq, and_true] at e0 e1 e2 e3 e4 e5
      subst e0; subst e1; subst e2; subst e3; subst e4; subst e5
      have hsp : x.spot = .none := by
        obtain ⟨_, _, _, _, _, hfl0⟩ := hi 0 (by omega)
        obtain ⟨_, _, c00, _, _⟩ := hfl0 0 _ rfl
        exact spot_of_cell' (a := x) (by simpa [Addr.add] using c00)
      obtain ⟨xb, xo, xs⟩ := x
      simp only at hsp
      subst hsp
      simp only [addr_add] at c0 c1 c2 c3 c4 c5
      exact ⟨⟨n0, n1, n2, n3, n4, s5, wf_i64 w0, wf_i64 w3, wf_i64 w4, hs5⟩, rfl, c0, c1, c2, c3, c4, c5⟩
    refine ⟨_, l, c, fun i => if hil : i < l then (key i hil).choose else OpX.none, hcs, ⟨by omega, fun i hil => ?_⟩, hn8⟩
    simp only [dif_pos hil]
    obtain ⟨hsp, hat⟩ := (key i hil).choose_spec
    refine ⟨x.block, x.off, ?_, hat⟩
    obtain ⟨xb, xo, xs⟩ := x
    simp only at hsp
    subst hsp
    rfl
set_option maxRecDepth 100000 in
theorem open_opsX {r : Reach} {b0 : Nat} {v : Value} {d : DataW H} {ps : List MemPlace} (hv : Value.okWide Try.prog w r b0 38 v) (h : DataW.Trod enc Try.prog w base spare held 38 v d ps) (hw : ∀ m, m ∈ d.weights Try.prog 38 → m ≤ reachBytes) :
    ∃ (A : Option Addr) (n cap : Nat) (ops : Nat → OpX), v = .slice A n cap ∧ OpsX w A n ops ∧ (n + 1) * 8 ≤ 140737488355328 := by
  obtain ⟨a, len, cap, rfl⟩ := okWide_slice Try.underlying38 hv
  obtain ⟨fuel, hf⟩ := h
  obtain ⟨A, n, c, ops, e, h⟩ := open_opsX_fuel hf hw
  simp [Value.cells] at e
  obtain ⟨rfl, rfl, rfl⟩ := e
  exact ⟨_, _, _, ops, rfl, h⟩
end
end Go.Proofs.Ytonongaakieciaa
