/- Scripts, and structs that hold them, opened. -/
import Derived.Test.YtkjahokffpihmaaDoorC19
import Derived.Test.YtkjahokffpihmaaDoorOpenRows
import Derived.Test.YtkjahokffpihmaaDoorOwn
import Derived.OpenShut
import Derived.SizedLaws
namespace Go.Proofs.YtkjahokffpihmaaDoor
open Go.ChangeShapes Go.WideShapes Go.Deep Go.Joins Go.RowKit
section
variable {H : Type} {enc : TypeId × Value → H} {P : Program} {w : World} {base : Nat} {spare : Nat → Bool} {held : Bool}
theorem open_agg2 {r : Reach} {b0 : Nat} {t : TypeId} {f0 f1 : Field} {v : Value} {d : DataW H} {p : List MemPlace} (hs : P.underlying t = some (.struct #[f0, f1])) (hone : oneCellFields P #[f0, f1] = true) (hC : P.cellsOf t = 2)
    (hv : Value.okWide P w r b0 t v) (h : DataW.Trod enc P w base spare held t v d p) :
    ∃ (v0 v1 : Value) (y0 y1 : DataW H × List MemPlace) (n : Nat), v = .agg #[v0, v1] ∧ d = .agg [y0.1, y1.1] ∧ DataW.trod enc P w base spare held n f0.type [v0] = some y0 ∧ DataW.trod enc P w base spare held n f1.type [v1] = some y1 := by
  obtain ⟨cs, rfl, hsz⟩ := okWide_struct hs hv
  obtain ⟨l⟩ := cs
  match l, hsz.trans hC with
  | [c0, c1], _ =>
    obtain ⟨fuel, hf⟩ := h
    obtain ⟨xs, n, _, hx, _, hlen, hg⟩ := DataW.trod_struct hs hf
    obtain ⟨o0, k0⟩ := hone_of hone 0 f0 rfl
    obtain ⟨o1, k1⟩ := hone_of hone 1 f1 rfl
    match xs, hlen with
    | [y0, y1], _ =>
      simp only [Prod.mk.injEq] at hx
      exact ⟨c0, c1, y0, y1, n, rfl, by simpa using hx.1, by simpa [Value.cells, o0, k0] using hg 0 f0 rfl, by simpa [Value.cells, o1, k1] using hg 1 f1 rfl⟩
theorem open_agg4 {r : Reach} {b0 : Nat} {t : TypeId} {f0 f1 f2 f3 : Field} {v : Value} {d : DataW H} {p : List MemPlace} (hs : P.underlying t = some (.struct #[f0, f1, f2, f3])) (hone : oneCellFields P #[f0, f1, f2, f3] = true) (hC : P.cellsOf t = 4)
    (hv : Value.okWide P w r b0 t v) (h : DataW.Trod enc P w base spare held t v d p) :
    ∃ (v0 v1 v2 v3 : Value) (y0 y1 y2 y3 : DataW H × List MemPlace) (n : Nat), v = .agg #[v0, v1, v2, v3] ∧ d = .agg [y0.1, y1.1, y2.1, y3.1] ∧ DataW.trod enc P w base spare held n f0.type [v0] = some y0 ∧ DataW.trod enc P w base spare held n f1.type [v1] = some y1 ∧ DataW.trod enc P w base spare held n f2.type [v2] = some y2 ∧ DataW.trod enc P w base spare held n f3.type [v3] = some y3 := by
  obtain ⟨cs, rfl, hsz⟩ := okWide_struct hs hv
  obtain ⟨l⟩ := cs
  match l, hsz.trans hC with
  | [c0, c1, c2, c3], _ =>
    obtain ⟨fuel, hf⟩ := h
    obtain ⟨xs, n, _, hx, _, hlen, hg⟩ := DataW.trod_struct hs hf
    obtain ⟨o0, k0⟩ := hone_of hone 0 f0 rfl
    obtain ⟨o1, k1⟩ := hone_of hone 1 f1 rfl
    obtain ⟨o2, k2⟩ := hone_of hone 2 f2 rfl
    obtain ⟨o3, k3⟩ := hone_of hone 3 f3 rfl
    match xs, hlen with
    | [y0, y1, y2, y3], _ =>
      simp only [Prod.mk.injEq] at hx
      exact ⟨c0, c1, c2, c3, y0, y1, y2, y3, n, rfl, by simpa using hx.1, by simpa [Value.cells, o0, k0] using hg 0 f0 rfl, by simpa [Value.cells, o1, k1] using hg 1 f1 rfl, by simpa [Value.cells, o2, k2] using hg 2 f2 rfl, by simpa [Value.cells, o3, k3] using hg 3 f3 rfl⟩
end
section
variable {H : Type} {enc : TypeId × Value → H} {w : World} {base : Nat} {spare : Nat → Bool} {held : Bool}
theorem wfi64 {n : Int} (h : (Lit.int .i64 n).wf = true) : -9223372036854775808 ≤ n ∧ n ≤ 9223372036854775807 := by
  simp [Lit.wf, IntKind.min, IntKind.max, IntKind.signed, IntKind.bits] at h
  omega
set_option maxRecDepth 100000 in
theorem open_opsC_fuel {fuel : Nat} {cs : List Value} {x : DataW H × List MemPlace} (hf : DataW.trod enc Tryd.prog w base spare held fuel 22 cs = some x) :
    ∃ (A : Option Addr) (n cap : Nat) (ops : Nat → OpC), cs = [.slice A n cap] ∧ OpsC w A n ops ∧ ((x.1 = .nil ∧ n = 0) ∨ ∃ es sp, x.1 = .slice es sp ∧ es.length = n) := by
  rcases open_slice_fields (fs := _) Tryd.underlying22 Tryd.underlying46 (by kernel_rfl) (by kernel_rfl) hf with ⟨hcs, hx⟩ | ⟨x, l, c, m, D, Pl, hcs, _, hl, hm, hmm, hx, hi⟩
  · exact ⟨.none, 0, 0, fun _ => opC0, hcs, ⟨Nat.zero_le _, fun i hi => absurd hi (Nat.not_lt_zero i)⟩, .inl ⟨by rw [hx], rfl⟩⟩
  · have hlm : l ≤ m := by rw [hmm]; split <;> omega
    have key : ∀ i, i < l → ∃ (o : OpC), x.spot = .none ∧ OpC.at w x.block (x.off + i * 4) o := by
      intro i hil
      obtain ⟨ys, n, hD, hP, hyl, hfl⟩ := hi i (by omega)
      obtain ⟨v0, y0, c0, _, t0⟩ := hfl 0 _ rfl
      obtain ⟨v1, y1, c1, _, t1⟩ := hfl 1 _ rfl
      obtain ⟨v2, y2, c2, _, t2⟩ := hfl 2 _ rfl
      obtain ⟨v3, y3, c3, _, t3⟩ := hfl 3 _ rfl
      obtain ⟨n0, e0, _, w0⟩ := DataW.trod_int Tryd.underlying3 t0
      obtain ⟨n1, e1, _, w1⟩ := DataW.trod_int Tryd.underlying3 t1
      obtain ⟨n2, e2, _, w2⟩ := DataW.trod_int Tryd.underlying3 t2
      obtain ⟨s3, e3, _, hs3⟩ := DataW.trod_string Tryd.underlying9 t3
      simp only [List.cons.injEq, and_true] at e0 e1 e2 e3
      subst e0; subst e1; subst e2; subst e3
      have hsp : x.spot = .none := by
        obtain ⟨_, _, _, _, _, hfl0⟩ := hi 0 (by omega)
        obtain ⟨_, _, c00, _, _⟩ := hfl0 0 _ rfl
        exact spot_of_cell' (a := x) (by simpa [Addr.add] using c00)
      obtain ⟨xb, xo, xs⟩ := x
      simp only at hsp
      subst hsp
      simp only [addr_add] at c0 c1 c2 c3
      exact ⟨⟨n0, n1, n2, s3, wfi64 w0, hs3⟩, rfl, c0, c1, c2, c3⟩
    refine ⟨_, l, c, fun i => if hil : i < l then (key i hil).choose else opC0, hcs, ⟨by omega, fun i hil => ?_⟩, .inr ⟨_, _, by rw [hx], by simp⟩⟩
    simp only [dif_pos hil]
    obtain ⟨hsp, hat⟩ := (key i hil).choose_spec
    refine ⟨x.block, x.off, ?_, hat⟩
    obtain ⟨xb, xo, xs⟩ := x
    simp only at hsp
    subst hsp
    rfl
set_option maxRecDepth 100000 in
theorem open_opsC {r : Reach} {b0 : Nat} {v : Value} {d : DataW H} {ps : List MemPlace} (hv : Value.okWide Tryd.prog w r b0 22 v) (h : DataW.Trod enc Tryd.prog w base spare held 22 v d ps) :
    ∃ (A : Option Addr) (n cap : Nat) (ops : Nat → OpC), v = .slice A n cap ∧ OpsC w A n ops ∧ ((d = .nil ∧ n = 0) ∨ ∃ es sp, d = .slice es sp ∧ es.length = n) := by
  obtain ⟨a, len, cap, rfl⟩ := okWide_slice Tryd.underlying22 hv
  obtain ⟨fuel, hf⟩ := h
  obtain ⟨A, n, c, ops, e, h1, h2⟩ := open_opsC_fuel hf
  simp [Value.cells] at e
  obtain ⟨rfl, rfl, rfl⟩ := e
  exact ⟨_, _, _, ops, rfl, h1, h2⟩
set_option maxRecDepth 100000 in
/-- A script and keys. -/
theorem open_typed {r : Reach} {b0 : Nat} {v : Value} {d : DataW H} {ps : List MemPlace} (hv : Value.okWide Tryd.prog w r b0 24 v) (h : DataW.Trod enc Tryd.prog w base spare held 24 v d ps) (hw : ∀ m, m ∈ d.weights Tryd.prog 24 → m ≤ reachBytes) :
    ∃ (A : Option Addr) (n cap : Nat) (ops : Nat → OpC) (K : ByteArray), v = .agg #[.slice A n cap, .string K] ∧ OpsC w A n ops ∧ K.size ≤ 140737488355328 := by
  obtain ⟨v0, v1, y0, y1, n, rfl, hd, t0, t1⟩ := open_agg2 Tryd.underlying24 (by kernel_rfl) (by kernel_rfl) hv h
  obtain ⟨A, m, c, ops, e0, h0, -⟩ := open_opsC_fuel t0
  obtain ⟨K, e1, hy1, hK⟩ := DataW.trod_string Tryd.underlying9 t1
  simp only [List.cons.injEq, and_true] at e0 e1
  subst e0; subst e1
  refine ⟨A, m, c, ops, K, rfl, h0, ?_⟩
  have hlen : K.data.toList.length = K.size := rfl
  have hmem : K.data.toList.length ∈ (DataW.lit (.string K.data.toList) : DataW H).weights Tryd.prog 9 := by
    rw [DataW.weights]
    exact List.mem_singleton.2 rfl
  have h2 := hw K.size (by
    rw [hd]
    simp only [DataW.weights, Tryd.underlying24]
    refine DataW.weights_mem_each (j := 1) (t := 9) rfl rfl K.size ?_
    rw [hy1, ← hlen]
    exact hmem)
  simp only [reachBytes] at h2
  omega
set_option maxRecDepth 100000 in
/-- Two scripts, a level, and what is written. -/
theorem open_two {r : Reach} {b0 : Nat} {v : Value} {d : DataW H} {ps : List MemPlace} (hv : Value.okWide Tryd.prog w r b0 58 v) (h : DataW.Trod enc Tryd.prog w base spare held 58 v d ps) :
    ∃ (A : Option Addr) (n cap : Nat) (ops : Nat → OpC) (B : Option Addr) (m cp : Nat) (more : Nat → OpC) (lev : Int) (S : ByteArray), v = .agg #[.slice A n cap, .slice B m cp, .int .i64 lev, .string S] ∧ OpsC w A n ops ∧ OpsC w B m more ∧ (-9223372036854775808 ≤ lev ∧ lev ≤ 9223372036854775807) ∧ S.size ≤ maxLen := by
  obtain ⟨v0, v1, v2, v3, y0, y1, y2, y3, n, rfl, hd, t0, t1, t2, t3⟩ := open_agg4 Tryd.underlying58 (by kernel_rfl) (by kernel_rfl) hv h
  obtain ⟨A, k, c, ops, e0, h0, -⟩ := open_opsC_fuel t0
  obtain ⟨B, m, cp, more, e1, h1, -⟩ := open_opsC_fuel t1
  obtain ⟨lev, e2, _, w2⟩ := DataW.trod_int Tryd.underlying3 t2
  obtain ⟨S, e3, _, hS⟩ := DataW.trod_string Tryd.underlying9 t3
  simp only [List.cons.injEq, and_true] at e0 e1 e2 e3
  subst e0; subst e1; subst e2; subst e3
  exact ⟨A, k, c, ops, B, m, cp, more, lev, S, rfl, h0, h1, wfi64 w2, hS⟩
end
end Go.Proofs.YtkjahokffpihmaaDoor
