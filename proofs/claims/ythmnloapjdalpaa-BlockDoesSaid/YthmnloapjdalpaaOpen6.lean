/- Scripts, opened with their sizes. -/
import Derived.Test.YthmnloapjdalpaaOpen
import Derived.SizedLaws
namespace Go.Proofs.Ythmnloapjdalpaa
open Go.ChangeShapes Go.WideShapes Go.Deep Go.Joins Go.RowKit
section
variable {H : Type} {enc : TypeId × Value → H} {w : World} {base : Nat} {spare : Nat → Bool} {held : Bool}
theorem weights_all {P : Program} {e : TypeId} {d : DataW H} : ∀ {ds : List (DataW H)}, d ∈ ds → ∀ n, n ∈ d.weights P e → n ∈ DataW.weightsAll P e ds
  | [], h, _, _ => by cases h
  | d0 :: ds, h, n, hn => by
    simp only [DataW.weightsAll, List.mem_append]
    rcases List.mem_cons.1 h with rfl | h
    · exact .inl hn
    · exact .inr (weights_all h n hn)
theorem Try.bytesOf94 : Try.prog.bytesOf 94 = 80 := by kernel_rfl
theorem Try.bytesOf3 : Try.prog.bytesOf 3 = 8 := by kernel_rfl
theorem slice_weight {t e : TypeId} {es sp : List (DataW H)} (ht : Try.prog.underlying t = some (.slice e)) : (es.length + sp.length) * Try.prog.bytesOf e ∈ (DataW.slice es sp).weights Try.prog t := by
  simp [DataW.weights, ht]
theorem slice_part {t e : TypeId} {es sp : List (DataW H)} {d : DataW H} (ht : Try.prog.underlying t = some (.slice e)) (hd : d ∈ es) {n : Nat} (hn : n ∈ d.weights Try.prog e) : n ∈ (DataW.slice es sp).weights Try.prog t := by
  simp only [DataW.weights, ht, List.mem_cons, List.mem_append]
  exact .inr (.inl (weights_all hd n hn))
theorem struct_part {t : TypeId} {fs : Array Field} {ps : List (DataW H)} {j : Nat} {f : TypeId} {d : DataW H} (ht : Try.prog.underlying t = some (.struct fs)) (hf : (fs.toList.map (·.type))[j]? = some f) (hd : ps[j]? = some d) {n : Nat} (hn : n ∈ d.weights Try.prog f) : n ∈ (DataW.agg ps).weights Try.prog t := by
  simp only [DataW.weights, ht]
  exact DataW.weights_mem_each hf hd n hn
/-- A slice of calls, and how long its parts are. -/
theorem open_opsS_fuel {fuel : Nat} {cs : List Value} {x : DataW H × List MemPlace} (hf : DataW.trod enc Try.prog w base spare held fuel 78 cs = some x) (hw : ∀ m, m ∈ x.1.weights Try.prog 78 → m ≤ reachBytes) :
    ∃ (A : Option Addr) (n cap : Nat) (ops : Nat → OpD), cs = [.slice A n cap] ∧ OpsD w (.slice A n cap) n ops ∧ (∀ i, i < n → (ops i).ch.length * 8 ≤ 140737488355328) ∧ (n + 1) * 8 ≤ 140737488355328 := by
  rcases open_slice_fields (fs := _) Try.underlying78 Try.underlying94 (by kernel_rfl) (by kernel_rfl) hf with ⟨hcs, hx⟩ | ⟨x, l, c, m, D, Pl, hcs, _, hl, hm, hmm, hx, hi⟩
  · exact ⟨.none, 0, 0, fun _ => OpD.none, hcs, ⟨Nat.zero_le _, .none, 0, rfl, fun i hi => absurd hi (Nat.not_lt_zero i)⟩, fun i hi => absurd hi (Nat.not_lt_zero i), by omega⟩
  · have hlm : l ≤ m := by rw [hmm]; split <;> omega
    rw [hx] at hw
    simp only at hw
    have key : ∀ i, i < l → ∃ (o : OpD) (cv : Value), o.Fine ∧ x.spot = .none ∧ OpD.at w x.block (x.off + i * 7) o cv ∧ o.ch.length * 8 ≤ 140737488355328 := by
      intro i hil
      obtain ⟨ys, n, hD, hP, hyl, hfl⟩ := hi i (by omega)
      obtain ⟨v0, y0, c0, _, t0⟩ := hfl 0 _ rfl
      obtain ⟨v1, y1, c1, _, t1⟩ := hfl 1 _ rfl
      obtain ⟨v2, y2, c2, _, t2⟩ := hfl 2 _ rfl
      obtain ⟨v3, y3, c3, _, t3⟩ := hfl 3 _ rfl
      obtain ⟨v4, y4, c4, _, t4⟩ := hfl 4 _ rfl
      obtain ⟨v5, y5, c5, _, t5⟩ := hfl 5 _ rfl
      obtain ⟨v6, y6, c6, hy6, t6⟩ := hfl 6 _ rfl
      obtain ⟨n0, e0, _, w0⟩ := DataW.trod_int Try.underlying3 t0
      obtain ⟨n1, e1, _, w1⟩ := DataW.trod_int Try.underlying3 t1
      obtain ⟨n2, e2, _, w2⟩ := DataW.trod_int Try.underlying3 t2
      obtain ⟨n3, e3, _, w3⟩ := DataW.trod_int Try.underlying3 t3
      obtain ⟨n4, e4, _, w4⟩ := DataW.trod_int Try.underlying5 t4
      obtain ⟨s5, e5, _, hs5⟩ := DataW.trod_string Try.underlying9 t5
      obtain ⟨A6, n6, c6', l6, e6, z6, hd6⟩ := open_zw_fuel t6
      simp only [List.cons.injEq, and_true] at e0 e1 e2 e3 e4 e5 e6
      subst e0; subst e1; subst e2; subst e3; subst e4; subst e5; subst e6
      have hsp : x.spot = .none := by
        obtain ⟨_, _, _, _, _, hfl0⟩ := hi 0 (by omega)
        obtain ⟨_, _, c00, _, _⟩ := hfl0 0 _ rfl
        exact spot_of_cell' (a := x) (by simpa [Addr.add] using c00)
      have h8 : l6.length * 8 ≤ 140737488355328 := by
        have hl6 := z6.len.1
        rcases hd6 with ⟨_, h⟩ | ⟨es, sp, hes, h⟩
        · omega
        · have hp : (ys.map (·.1))[6]? = some (.slice es sp) := by rw [List.getElem?_map, hy6, ← hes]; rfl
          have h1 := struct_part (t := 94) Try.underlying94 (j := 6) (f := 42) rfl hp (slice_weight Try.underlying42)
          rw [← hD] at h1
          have h2 := hw _ (slice_part Try.underlying78 (List.mem_map.2 ⟨i, List.mem_range.2 hil, rfl⟩) h1)
          rw [Try.bytesOf3] at h2
          simp only [reachBytes] at h2
          omega
      obtain ⟨xb, xo, xs⟩ := x
      simp only at hsp
      subst hsp
      simp only [addr_add] at c0 c1 c2 c3 c4 c5 c6
      have hu : ((UInt8.ofNat n4.toNat).toNat : Int) = n4 := by
        simp [Lit.wf, IntKind.min, IntKind.max, IntKind.signed, IntKind.bits] at w4
        rw [UInt8.toNat_ofNat', Nat.mod_eq_of_lt (by omega)]
        omega
      exact ⟨⟨n0, n1, n2, n3, UInt8.ofNat n4.toNat, s5, l6⟩, _, ⟨hs5, w0, w2, w3⟩, rfl, ⟨c0, c1, c2, c3, by show w.cell? _ = some (.int .u8 ((UInt8.ofNat n4.toNat).toNat : Int)); rw [hu]; exact c4, c5, c6, z6⟩, h8⟩
    have hn8 : (l + 1) * 8 ≤ 140737488355328 := by
      have h2 := hw _ (slice_weight Try.underlying78)
      rw [Try.bytesOf94] at h2
      simp [reachBytes] at h2
      omega
    refine ⟨_, l, c, fun i => if hil : i < l then (key i hil).choose else OpD.none, hcs, ⟨by omega, _, c, rfl, fun i hil => ?_⟩, fun i hil => ?_, hn8⟩
    · simp only [dif_pos hil]
      obtain ⟨cv, hF, hsp, hat, -⟩ := (key i hil).choose_spec
      refine ⟨hF, x.block, x.off, cv, ?_, hat⟩
      obtain ⟨xb, xo, xs⟩ := x
      simp only at hsp
      subst hsp
      rfl
    · simp only [dif_pos hil]
      obtain ⟨cv, hF, hsp, hat, h8⟩ := (key i hil).choose_spec
      exact h8
set_option maxRecDepth 100000 in
theorem open_opsS {r : Reach} {b0 : Nat} {v : Value} {d : DataW H} {ps : List MemPlace} (hv : Value.okWide Try.prog w r b0 78 v) (h : DataW.Trod enc Try.prog w base spare held 78 v d ps) (hw : ∀ m, m ∈ d.weights Try.prog 78 → m ≤ reachBytes) :
    ∃ (A : Option Addr) (n cap : Nat) (ops : Nat → OpD), v = .slice A n cap ∧ OpsD w (.slice A n cap) n ops ∧ (∀ i, i < n → (ops i).ch.length * 8 ≤ 140737488355328) ∧ (n + 1) * 8 ≤ 140737488355328 := by
  obtain ⟨a, len, cap, rfl⟩ := okWide_slice Try.underlying78 hv
  obtain ⟨fuel, hf⟩ := h
  obtain ⟨A, n, c, ops, e, h⟩ := open_opsS_fuel hf hw
  simp [Value.cells] at e
  obtain ⟨rfl, rfl, rfl⟩ := e
  exact ⟨_, _, _, ops, rfl, h⟩
end
end Go.Proofs.Ythmnloapjdalpaa
