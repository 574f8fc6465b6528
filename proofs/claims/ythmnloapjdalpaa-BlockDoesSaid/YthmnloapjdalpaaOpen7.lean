/- The extents' scripts, opened with their sizes. -/
import Derived.Test.YthmnloapjdalpaaOpen6
import Derived.Test.YthmnloapjdalpaaOpen4
namespace Go.Proofs.Ythmnloapjdalpaa
open Go.ChangeShapes Go.WideShapes Go.Deep Go.Joins Go.RowKit
section
variable {H : Type} {enc : TypeId × Value → H} {w : World} {base : Nat} {spare : Nat → Bool} {held : Bool}
theorem Try.bytesOf44 : Try.prog.bytesOf 44 = 72 := by kernel_rfl
theorem open_opsBS_fuel {fuel : Nat} {cs : List Value} {x : DataW H × List MemPlace} (hf : DataW.trod enc Try.prog w base spare held fuel 35 cs = some x) (hw : ∀ m, m ∈ x.1.weights Try.prog 35 → m ≤ reachBytes) :
    ∃ (A : Option Addr) (n cap : Nat) (ops : Nat → OpB), cs = [.slice A n cap] ∧ OpsB w (.slice A n cap) n ops ∧ (∀ i, i < n → (ops i).ch.length * 8 ≤ 140737488355328) ∧ (n + 1) * 8 ≤ 140737488355328 := by
  rcases open_slice_fields (fs := _) Try.underlying35 Try.underlying44 (by kernel_rfl) (by kernel_rfl) hf with ⟨hcs, hx⟩ | ⟨x, l, c, m, D, Pl, hcs, _, hl, hm, hmm, hx, hi⟩
  · exact ⟨.none, 0, 0, fun _ => OpB.none, hcs, ⟨Nat.zero_le _, .none, 0, rfl, fun i hi => absurd hi (Nat.not_lt_zero i)⟩, fun i hi => absurd hi (Nat.not_lt_zero i), by omega⟩
  · have hlm : l ≤ m := by rw [hmm]; split <;> omega
    rw [hx] at hw
    simp only at hw
    have key : ∀ i, i < l → ∃ (o : OpB) (cv : Value), o.Fine ∧ x.spot = .none ∧ OpB.at w x.block (x.off + i * 6) o cv ∧ o.ch.length * 8 ≤ 140737488355328 := by
      intro i hil
      obtain ⟨ys, n, hD, hP, hyl, hfl⟩ := hi i (by omega)
      obtain ⟨v0, y0, c0, _, t0⟩ := hfl 0 _ rfl
      obtain ⟨v1, y1, c1, _, t1⟩ := hfl 1 _ rfl
      obtain ⟨v2, y2, c2, _, t2⟩ := hfl 2 _ rfl
      obtain ⟨v3, y3, c3, _, t3⟩ := hfl 3 _ rfl
      obtain ⟨v4, y4, c4, _, t4⟩ := hfl 4 _ rfl
      obtain ⟨v5, y5, c5, hy5, t5⟩ := hfl 5 _ rfl
      obtain ⟨n0, e0, _, w0⟩ := DataW.trod_int Try.underlying3 t0
      obtain ⟨n1, e1, _, w1⟩ := DataW.trod_int Try.underlying3 t1
      obtain ⟨n2, e2, _, w2⟩ := DataW.trod_int Try.underlying3 t2
      obtain ⟨n3, e3, _, w3⟩ := DataW.trod_int Try.underlying3 t3
      obtain ⟨s4, e4, _, hs4⟩ := DataW.trod_string Try.underlying9 t4
      obtain ⟨A5, n5, c5', l5, e5, z5, hd5⟩ := open_zw_fuel t5
      simp only [List.cons.injEq, and_true] at e0 e1 e2 e3 e4 e5
      subst e0; subst e1; subst e2; subst e3; subst e4; subst e5
      have hsp : x.spot = .none := by
        obtain ⟨_, _, _, _, _, hfl0⟩ := hi 0 (by omega)
        obtain ⟨_, _, c00, _, _⟩ := hfl0 0 _ rfl
        exact spot_of_cell' (a := x) (by simpa [Addr.add] using c00)
      have h8 : l5.length * 8 ≤ 140737488355328 := by
        have hl5 := z5.len.1
        rcases hd5 with ⟨_, h⟩ | ⟨es, sp, hes, h⟩
        · omega
        · have hp : (ys.map (·.1))[5]? = some (.slice es sp) := by rw [List.getElem?_map, hy5, ← hes]; rfl
          have h1 := struct_part (t := 44) Try.underlying44 (j := 5) (f := 42) rfl hp (slice_weight Try.underlying42)
          rw [← hD] at h1
          have h2 := hw _ (slice_part Try.underlying35 (List.mem_map.2 ⟨i, List.mem_range.2 hil, rfl⟩) h1)
          rw [Try.bytesOf3] at h2
          simp only [reachBytes] at h2
          omega
      obtain ⟨xb, xo, xs⟩ := x
      simp only at hsp
      subst hsp
      simp only [addr_add] at c0 c1 c2 c3 c4 c5
      exact ⟨⟨n0, n1, n2, n3, s4, l5⟩, _, ⟨hs4, w0, w2, w3⟩, rfl, ⟨c0, c1, c2, c3, c4, c5, z5⟩, h8⟩
    have hn8 : (l + 1) * 8 ≤ 140737488355328 := by
      have h2 := hw _ (slice_weight Try.underlying35)
      rw [Try.bytesOf44] at h2
      simp [reachBytes] at h2
      omega
    refine ⟨_, l, c, fun i => if hil : i < l then (key i hil).choose else OpB.none, hcs, ⟨by omega, _, c, rfl, fun i hil => ?_⟩, fun i hil => ?_, hn8⟩
    · simp only [dif_pos hil]
      obtain ⟨cv, hF, hsp, hat, -⟩ := (key i hil).choose_spec
      refine ⟨hF, x.block, x.off, cv, ?_, hat⟩
      obtain ⟨xb, xo, xs⟩ := x
      simp only at hsp
      subst hsp
      rfl
    · simp only [dif_pos hil]
      obtain ⟨cv, hF, hsp, hat, h8⟩ := (key i hil).choose_spec
      exact h8
set_option maxRecDepth 100000 in
theorem open_opsBS {r : Reach} {b0 : Nat} {v : Value} {d : DataW H} {ps : List MemPlace} (hv : Value.okWide Try.prog w r b0 35 v) (h : DataW.Trod enc Try.prog w base spare held 35 v d ps) (hw : ∀ m, m ∈ d.weights Try.prog 35 → m ≤ reachBytes) :
    ∃ (A : Option Addr) (n cap : Nat) (ops : Nat → OpB), v = .slice A n cap ∧ OpsB w (.slice A n cap) n ops ∧ (∀ i, i < n → (ops i).ch.length * 8 ≤ 140737488355328) ∧ (n + 1) * 8 ≤ 140737488355328 := by
  obtain ⟨a, len, cap, rfl⟩ := okWide_slice Try.underlying35 hv
  obtain ⟨fuel, hf⟩ := h
  obtain ⟨A, n, c, ops, e, h⟩ := open_opsBS_fuel hf hw
  simp [Value.cells] at e
  obtain ⟨rfl, rfl, rfl⟩ := e
  exact ⟨_, _, _, ops, rfl, h⟩
end
end Go.Proofs.Ythmnloapjdalpaa
