/- Arguments opened, chapter 10: three numbers, numbers, an instruction, a world, a run. -/
import Derived.Test.YtonongaakieciaaOpenRows
import Derived.Test.YtonongaakieciaaOwn
import Derived.OpenShut
import Derived.Laws.IdiomArrays
import Derived.Test.YtonongaakieciaaD1
namespace Go.Proofs.Ytonongaakieciaa
set_option maxRecDepth 100000
open Go.ChangeShapes Go.WideShapes Go.Deep Go.Joins Go.RowKit
section
variable {H : Type} {enc : TypeId × Value → H} {w : World} {base : Nat} {spare : Nat → Bool} {held : Bool}
theorem okWide_arr {P : Program} {r : Reach} {b0 n : Nat} {t e : TypeId} {v : Value} (ht : P.underlying t = some (.array n e)) (h : Value.okWide P w r b0 t v) : ∃ cs, v = .agg cs ∧ cs.size = P.cellsOf t := by
  simp only [Value.okWide, ht] at h
  obtain ⟨cs, h1, h2, _⟩ := h
  exact ⟨cs, h1, h2⟩
set_option maxRecDepth 100000 in
theorem open_three {r : Reach} {b0 : Nat} {v : Value} {d : DataW H} {ps : List MemPlace} (hv : Value.okWide Try.prog w r b0 48 v) (h : DataW.Trod enc Try.prog w base spare held 48 v d ps) :
    ∃ (r0 r1 r2 : Int), v = .agg #[.int .i64 r0, .int .i64 r1, .int .i64 r2] := by
  obtain ⟨cs, rfl, hsz⟩ := okWide_arr Try.underlying48 hv
  have hC : Try.prog.cellsOf 48 = 3 := by kernel_rfl
  rw [hC] at hsz
  obtain ⟨l⟩ := cs
  match l, hsz with
  | [c0, c1, c2], _ =>
    obtain ⟨fuel, hf⟩ := h
    obtain ⟨y0, y1, y2, n, -, g0, g1, g2⟩ := trod_array3 Try.underlying48 (by kernel_rfl) hf
    obtain ⟨n0, e0, _, w0⟩ := DataW.trod_int Try.underlying3 g0
    obtain ⟨n1, e1, _, w1⟩ := DataW.trod_int Try.underlying3 g1
    obtain ⟨n2, e2, _, w2⟩ := DataW.trod_int Try.underlying3 g2
    simp only [List.cons.injEq, and_true] at e0 e1 e2
    subst e0; subst e1; subst e2
    exact ⟨n0, n1, n2, rfl⟩
set_option maxRecDepth 100000 in
theorem open_nums_fuel {fuel : Nat} {cs : List Value} {y : DataW H × List MemPlace} (hf : DataW.trod enc Try.prog w base spare held fuel 49 cs = some y) :
    ∃ (A : Option Addr) (n cap : Nat) (l : Nat → Int), cs = [.slice A n cap] ∧ NumS w A n l := by
  have h1 : Try.prog.cellsOf 3 = 1 := by kernel_rfl
  rcases open_slice Try.underlying49 hf with ⟨hcs, hx⟩ | ⟨x, l, c, m, n, D, Pl, hcs, hb, hl, hm, hmm, hx, hi⟩
  · exact ⟨none, 0, 0, fun _ => 0, hcs, Nat.zero_le _, fun i hi => absurd hi (Nat.not_lt_zero i)⟩
  · have hlm : l ≤ m := by rw [hmm]; split <;> omega
    have key : ∀ i, i < l → ∃ u : Int, (-9223372036854775808 ≤ u ∧ u ≤ 9223372036854775807) ∧ x.spot = none ∧ w.cell? ⟨x.block, x.off + i, none⟩ = some (.int .i64 u) := by
      intro i hil
      obtain ⟨cs', hc, ht'⟩ := hi i (by omega)
      rw [h1] at hc
      obtain ⟨_, hcl, hat⟩ := World.cells?_some hc
      obtain ⟨s, hs, _, hw⟩ := DataW.trod_int Try.underlying3 ht'
      subst hs
      have c0 := hat 0 (by omega)
      rw [Go.Deep.add_add] at c0
      simp at c0
      have hsp : x.spot = none := by
        obtain ⟨cs0, hc0, ht0⟩ := hi 0 (by omega)
        rw [h1] at hc0
        obtain ⟨_, hcl0, hat0⟩ := World.cells?_some hc0
        obtain ⟨s0, hs0, _, _⟩ := DataW.trod_int Try.underlying3 ht0
        subst hs0
        have c1 := hat0 0 (by omega)
        exact spot_of_cell' (a := x) (by simpa [Addr.add] using c1)
      obtain ⟨xb, xo, xs⟩ := x
      simp only at hsp
      subst hsp
      rw [addr_add] at c0
      exact ⟨s, wf_i64 hw, rfl, c0⟩
    refine ⟨_, l, c, fun i => if hil : i < l then (key i hil).choose else 0, hcs, by omega, fun i hil => ?_⟩
    have hk := (key i hil).choose_spec
    simp only [dif_pos hil]
    refine ⟨hk.1, x.block, x.off, ?_, hk.2.2⟩
    have hsp := hk.2.1
    obtain ⟨xb, xo, xs⟩ := x
    simp only at hsp
    subst hsp
    rfl
theorem open_nums {r : Reach} {b0 : Nat} {v : Value} {d : DataW H} {ps : List MemPlace} (hv : Value.okWide Try.prog w r b0 49 v) (h : DataW.Trod enc Try.prog w base spare held 49 v d ps) :
    ∃ (A : Option Addr) (n cap : Nat) (l : Nat → Int), v = .slice A n cap ∧ NumS w A n l := by
  obtain ⟨a, len, cap, rfl⟩ := okWide_slice Try.underlying49 hv
  obtain ⟨fuel, hf⟩ := h
  obtain ⟨A, n, c, l, e, h⟩ := open_nums_fuel hf
  simp [Value.cells] at e
  obtain ⟨rfl, rfl, rfl⟩ := e
  exact ⟨_, _, _, l, rfl, h⟩
set_option maxRecDepth 100000 in
theorem open_numss_fuel {fuel : Nat} {cs : List Value} {y : DataW H × List MemPlace} (hf : DataW.trod enc Try.prog w base spare held fuel 73 cs = some y) :
    ∃ (A : Option Addr) (n cap : Nat) (B : Nat → Option Addr) (k c : Nat → Nat) (l : Nat → Nat → Int), cs = [.slice A n cap] ∧ NumsS w A n B k c l := by
  have h1 : Try.prog.cellsOf 49 = 1 := by kernel_rfl
  rcases open_slice Try.underlying73 hf with ⟨hcs, hx⟩ | ⟨x, l, c, m, n, D, Pl, hcs, hb, hl, hm, hmm, hx, hi⟩
  · exact ⟨none, 0, 0, fun _ => none, fun _ => 0, fun _ => 0, fun _ _ => 0, hcs, Nat.zero_le _, fun i hi => absurd hi (Nat.not_lt_zero i)⟩
  · have hlm : l ≤ m := by rw [hmm]; split <;> omega
    have key : ∀ i, i < l → ∃ u : Option Addr × Nat × Nat × (Nat → Int), NumS w u.1 u.2.1 u.2.2.2 ∧ x.spot = none ∧ w.cell? ⟨x.block, x.off + i, none⟩ = some (.slice u.1 u.2.1 u.2.2.1) := by
      intro i hil
      obtain ⟨cs', hc, ht'⟩ := hi i (by omega)
      rw [h1] at hc
      obtain ⟨_, hcl, hat⟩ := World.cells?_some hc
      obtain ⟨A, n', c', l', rfl, hN⟩ := open_nums_fuel ht'
      have c0 := hat 0 (by omega)
      rw [Go.Deep.add_add] at c0
      simp at c0
      have hsp : x.spot = none := by
        obtain ⟨cs0, hc0, ht0⟩ := hi 0 (by omega)
        rw [h1] at hc0
        obtain ⟨_, hcl0, hat0⟩ := World.cells?_some hc0
        obtain ⟨_, _, _, _, rfl, _⟩ := open_nums_fuel ht0
        have c1 := hat0 0 (by omega)
        exact spot_of_cell' (a := x) (by simpa [Addr.add] using c1)
      obtain ⟨xb, xo, xs⟩ := x
      simp only at hsp
      subst hsp
      rw [addr_add] at c0
      exact ⟨⟨A, n', c', l'⟩, hN, rfl, c0⟩
    refine ⟨_, l, c, fun i => if hil : i < l then (key i hil).choose.1 else none, fun i => if hil : i < l then (key i hil).choose.2.1 else 0, fun i => if hil : i < l then (key i hil).choose.2.2.1 else 0, fun i => if hil : i < l then (key i hil).choose.2.2.2 else fun _ => 0, hcs, by omega, fun i hil => ?_⟩
    have hk := (key i hil).choose_spec
    simp only [dif_pos hil]
    refine ⟨hk.1, x.block, x.off, ?_, hk.2.2⟩
    have hsp := hk.2.1
    obtain ⟨xb, xo, xs⟩ := x
    simp only at hsp
    subst hsp
    rfl
set_option maxRecDepth 100000 in
theorem open_textz_fuel {fuel : Nat} {cs : List Value} {y : DataW H × List MemPlace} (hf : DataW.trod enc Try.prog w base spare held fuel 70 cs = some y) :
    ∃ (A : Option Addr) (n cap : Nat) (l : Nat → ByteArray), cs = [.slice A n cap] ∧ PrZ w A n l := by
  have h1 : Try.prog.cellsOf 9 = 1 := by kernel_rfl
  rcases open_slice Try.underlying70 hf with ⟨hcs, hx⟩ | ⟨x, l, c, m, n, D, Pl, hcs, hb, hl, hm, hmm, hx, hi⟩
  · exact ⟨none, 0, 0, fun _ => ⟨#[]⟩, hcs, Nat.zero_le _, fun i hi => absurd hi (Nat.not_lt_zero i)⟩
  · have hlm : l ≤ m := by rw [hmm]; split <;> omega
    have key : ∀ i, i < l → ∃ u : ByteArray, u.size ≤ maxLen ∧ x.spot = none ∧ w.cell? ⟨x.block, x.off + i, none⟩ = some (.string u) := by
      intro i hil
      obtain ⟨cs', hc, ht'⟩ := hi i (by omega)
      rw [h1] at hc
      obtain ⟨_, hcl, hat⟩ := World.cells?_some hc
      obtain ⟨s, hs, _, hz⟩ := DataW.trod_string Try.underlying9 ht'
      subst hs
      have c0 := hat 0 (by omega)
      rw [Go.Deep.add_add] at c0
      simp at c0
      have hsp : x.spot = none := by
        obtain ⟨cs0, hc0, ht0⟩ := hi 0 (by omega)
        rw [h1] at hc0
        obtain ⟨_, hcl0, hat0⟩ := World.cells?_some hc0
        obtain ⟨s0, hs0, _, _⟩ := DataW.trod_string Try.underlying9 ht0
        subst hs0
        have c1 := hat0 0 (by omega)
        exact spot_of_cell' (a := x) (by simpa [Addr.add] using c1)
      obtain ⟨xb, xo, xs⟩ := x
      simp only at hsp
      subst hsp
      rw [addr_add] at c0
      exact ⟨s, hz, rfl, c0⟩
    refine ⟨_, l, c, fun i => if hil : i < l then (key i hil).choose else ⟨#[]⟩, hcs, by omega, fun i hil => ?_⟩
    have hk := (key i hil).choose_spec
    simp only [dif_pos hil]
    refine ⟨hk.1, x.block, x.off, ?_, hk.2.2⟩
    have hsp := hk.2.1
    obtain ⟨xb, xo, xs⟩ := x
    simp only at hsp
    subst hsp
    rfl
set_option maxRecDepth 100000 in
theorem open_pages_fuel {fuel : Nat} {cs : List Value} {y : DataW H × List MemPlace} (hf : DataW.trod enc Try.prog w base spare held fuel 62 cs = some y) :
    ∃ (A : Option Addr) (n cap b : Nat) (t : List Pg), cs = [.slice A n cap] ∧ Tb w b (.slice A n cap) t ∧ (b < w.heap.size ∨ b = 0) := by
  rcases open_slice_fields (fs := _) Try.underlying62 Try.underlying61 (by kernel_rfl) (by kernel_rfl) hf with ⟨hcs, hx⟩ | ⟨x, l, c, m, D, Pl, hcs, _, hl, hm, hmm, hx, hi⟩
  · exact ⟨none, 0, 0, 0, [], hcs, ⟨by simp, none, 0, rfl, fun i p hi => by simp at hi⟩, .inr rfl⟩
  · have hlm : l ≤ m := by rw [hmm]; split <;> omega
    have key : ∀ i, i < l → ∃ u : Pg, x.spot = none ∧ x.block < w.heap.size ∧ w.cell? ⟨x.block, x.off + i * 2, none⟩ = some (.int .i64 u.f) ∧ w.cell? ⟨x.block, x.off + i * 2 + 1, none⟩ = some (.int .i64 u.r) := by
      intro i hil
      obtain ⟨ys, n, hD, hP, hyl, hfl⟩ := hi i (by omega)
      obtain ⟨v0, y0, c0, _, t0⟩ := hfl 0 _ rfl
      obtain ⟨v1, y1, c1, _, t1⟩ := hfl 1 _ rfl
      obtain ⟨n0, e0, _, w0⟩ := DataW.trod_int Try.underlying3 t0
      obtain ⟨n1, e1, _, w1⟩ := DataW.trod_int Try.underlying3 t1
      simp only [List.cons.injEq, and_true] at e0 e1
      subst e0; subst e1
      have hsp : x.spot = none := by
        obtain ⟨_, _, _, _, _, hfl0⟩ := hi 0 (by omega)
        obtain ⟨_, _, c00, _, _⟩ := hfl0 0 _ rfl
        exact spot_of_cell' (a := x) (by simpa [Addr.add] using c00)
      have hb := World.block_lt_of_cell? w _ c0
      rw [block_add] at hb
      obtain ⟨xb, xo, xs⟩ := x
      simp only at hsp
      subst hsp
      simp only [addr_add] at c0 c1
      exact ⟨⟨n0, n1⟩, rfl, hb, c0, c1⟩
    by_cases h0 : l = 0
    · subst h0
      exact ⟨_, 0, c, 0, [], hcs, ⟨by simp, some x, c, rfl, fun i p hi => by simp at hi⟩, .inr rfl⟩
    refine ⟨_, l, c, x.block, (List.range l).map fun i => if hil : i < l then (key i hil).choose else ⟨0, 0⟩, hcs, ⟨by simp; omega, some x, c, by simp, fun i p hi2 => ?_⟩, ?_⟩
    · have hil : i < l := by have := (List.getElem?_eq_some_iff.1 hi2).1; simpa using this
      have hp : p = (key i hil).choose := by simp [hil] at hi2; exact hi2.symm
      have hk := (key i hil).choose_spec
      rw [← hp] at hk
      refine ⟨x.off, ?_, hk.2.1, hk.2.2⟩
      have hsp := hk.1
      obtain ⟨xb, xo, xs⟩ := x
      simp only at hsp
      subst hsp
      rfl
    · exact .inl (key 0 (by omega)).choose_spec.2.1
set_option maxRecDepth 100000 in
theorem open_world {r : Reach} {b0 : Nat} {v : Value} {d : DataW H} {ps : List MemPlace} (hv : Value.okWide Try.prog w r b0 72 v) (h : DataW.Trod enc Try.prog w base spare held 72 v d ps) :
    ∃ (n : Int) (LA : Option Addr) (nl cl : Nat) (l : Nat → ByteArray) (TA : Option Addr) (nt ct b : Nat) (t : List Pg), v = .agg #[.int .i64 n, .slice LA nl cl, .slice TA nt ct] ∧ PrZ w LA nl l ∧ Tb w b (.slice TA nt ct) t ∧ (b < w.heap.size ∨ b = 0) := by
  obtain ⟨cs, rfl, hsz⟩ := okWide_struct Try.underlying72 hv
  have hC : Try.prog.cellsOf 72 = 3 := by kernel_rfl
  rw [hC] at hsz
  obtain ⟨l⟩ := cs
  match l, hsz with
  | [c0, c1, c2], _ =>
    obtain ⟨fuel, hf⟩ := h
    obtain ⟨xs, n, _, hx, _, hlen, hg⟩ := DataW.trod_struct Try.underlying72 hf
    have g0 : DataW.trod enc Try.prog w base spare held n 3 [c0] = xs[0]? := hg 0 _ rfl
    have g1 : DataW.trod enc Try.prog w base spare held n 70 [c1] = xs[1]? := hg 1 _ rfl
    have g2 : DataW.trod enc Try.prog w base spare held n 62 [c2] = xs[2]? := hg 2 _ rfl
    have hx2 : xs.length = 3 := hlen
    rw [List.getElem?_eq_getElem (by omega)] at g0 g1 g2
    obtain ⟨n0, e0, _, w0⟩ := DataW.trod_int Try.underlying3 g0
    obtain ⟨A, m, cap, l, e1, h1⟩ := open_textz_fuel g1
    obtain ⟨A2, m2, cap2, b, t, e2, h2, h3⟩ := open_pages_fuel g2
    simp only [List.cons.injEq, and_true] at e0 e1 e2
    subst e0; subst e1; subst e2
    exact ⟨n0, A, m, cap, l, A2, m2, cap2, b, t, rfl, h1, h2, h3⟩
set_option maxRecDepth 100000 in
theorem open_run {r : Reach} {b0 : Nat} {v : Value} {d : DataW H} {ps : List MemPlace} (hv : Value.okWide Try.prog w r b0 75 v) (h : DataW.Trod enc Try.prog w base spare held 75 v d ps) :
    ∃ (s : Int) (RA : Option Addr) (na ca : Nat) (B : Nat → Option Addr) (k c : Nat → Nat) (l : Nat → Nat → Int), v = .agg #[.int .i64 s, .slice RA na ca] ∧ NumsS w RA na B k c l := by
  obtain ⟨cs, rfl, hsz⟩ := okWide_struct Try.underlying75 hv
  have hC : Try.prog.cellsOf 75 = 2 := by kernel_rfl
  rw [hC] at hsz
  obtain ⟨l⟩ := cs
  match l, hsz with
  | [c0, c1], _ =>
    obtain ⟨fuel, hf⟩ := h
    obtain ⟨xs, n, _, hx, _, hlen, hg⟩ := DataW.trod_struct Try.underlying75 hf
    have g0 : DataW.trod enc Try.prog w base spare held n 3 [c0] = xs[0]? := hg 0 _ rfl
    have g1 : DataW.trod enc Try.prog w base spare held n 73 [c1] = xs[1]? := hg 1 _ rfl
    have hx2 : xs.length = 2 := hlen
    rw [List.getElem?_eq_getElem (by omega)] at g0 g1
    obtain ⟨n0, e0, _, w0⟩ := DataW.trod_int Try.underlying3 g0
    obtain ⟨A, m, cap, B, k, c, l, e1, h1⟩ := open_numss_fuel g1
    simp only [List.cons.injEq, and_true] at e0 e1
    subst e0; subst e1
    exact ⟨n0, A, m, cap, B, k, c, l, rfl, h1⟩
set_option maxRecDepth 100000 in
theorem open_instr {r : Reach} {b0 : Nat} {v : Value} {d : DataW H} {ps : List MemPlace} (hv : Value.okWide Try.prog w r b0 53 v) (h : DataW.Trod enc Try.prog w base spare held 53 v d ps) :
    ∃ (o a b m : Int), v = .agg #[.int .i64 o, .int .i64 a, .int .i64 b, .int .i64 m] ∧ (-9223372036854775808 ≤ o ∧ o ≤ 9223372036854775807) := by
  obtain ⟨cs, rfl, hsz⟩ := okWide_struct Try.underlying53 hv
  have hC : Try.prog.cellsOf 53 = 4 := by kernel_rfl
  rw [hC] at hsz
  obtain ⟨l⟩ := cs
  match l, hsz with
  | [c0, c1, c2, c3], _ =>
    obtain ⟨fuel, hf⟩ := h
    obtain ⟨xs, n, _, hx, _, hlen, hg⟩ := DataW.trod_struct Try.underlying53 hf
    have g0 : DataW.trod enc Try.prog w base spare held n 3 [c0] = xs[0]? := hg 0 _ rfl
    have g1 : DataW.trod enc Try.prog w base spare held n 3 [c1] = xs[1]? := hg 1 _ rfl
    have g2 : DataW.trod enc Try.prog w base spare held n 3 [c2] = xs[2]? := hg 2 _ rfl
    have g3 : DataW.trod enc Try.prog w base spare held n 3 [c3] = xs[3]? := hg 3 _ rfl
    have hx2 : xs.length = 4 := hlen
    rw [List.getElem?_eq_getElem (by omega)] at g0 g1 g2 g3
    obtain ⟨n0, e0, _, w0⟩ := DataW.trod_int Try.underlying3 g0
    obtain ⟨n1, e1, _, w1⟩ := DataW.trod_int Try.underlying3 g1
    obtain ⟨n2, e2, _, w2⟩ := DataW.trod_int Try.underlying3 g2
    obtain ⟨n3, e3, _, w3⟩ := DataW.trod_int Try.underlying3 g3
    simp only [List.cons.injEq, and_true] at e0 e1 e2 e3
    subst e0; subst e1; subst e2; subst e3
    exact ⟨n0, n1, n2, n3, rfl, wf_i64 w0⟩
end
end Go.Proofs.Ytonongaakieciaa
