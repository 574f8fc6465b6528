/- Slices of structs whose fields are all integers, opened out of the form's readings. -/
import Derived.Test.YtjijhjdemkgpgaaGreatDoorOpens
import Derived.Test.YtjijhjdemkgpgaaGreatDoorLib
namespace Go.Proofs.YtjijhjdemkgpgaaGreatDoor
open Go.ChangeShapes Go.WideShapes Go.Deep Go.Joins Go.RowKit
theorem spot_of_cell' {w : World} {a : Addr} {v : Value} (h : w.cell? a = some v) : a.spot = none := by
  obtain ⟨b, o, s⟩ := a
  cases s with
  | none => rfl
  | some q => simp [World.cell?] at h; split at h <;> simp at h
section
variable {H : Type} {enc : TypeId × Value → H} {P : Program} {w : World} {base : Nat} {spare : Nat → Bool} {held : Bool}
theorem open_rows {t e : TypeId} {fs : Array Field} (ht : P.underlying t = some (.slice e)) (he : P.underlying e = some (.struct fs)) (hone : oneCellFields P fs = true) (hC : P.cellsOf e = fs.size)
    (hint : ∀ (j : Nat) (f : Field), fs[j]? = some f → P.underlying f.type = some (.int .i64)) (hpos : 0 < fs.size)
    {v : Value} {d : DataW H} {ps : List MemPlace} {r : Reach} {b0 : Nat} (hv : Value.okWide P w r b0 t v) (h : DataW.Trod enc P w base spare held t v d ps) :
    ∃ (A : Option Addr) (n cap : Nat) (rows : Nat → Nat → Int), v = .slice A n cap ∧ n ≤ maxLen ∧ (∀ i, i < n → ∀ j, j < fs.size → (Lit.int .i64 (rows i j)).wf = true) ∧
      (∀ i, i < n → ∃ b off, A = some ⟨b, off, none⟩ ∧ b < w.heap.size ∧ ∀ j, j < fs.size → w.cell? ⟨b, off + (i * fs.size + j), none⟩ = some (.int .i64 (rows i j))) ∧
      ((d = .nil ∧ n = 0) ∨ ∃ es sp, d = .slice es sp ∧ es.length = n) := by
  obtain ⟨a, len, cap, rfl⟩ := okWide_slice ht hv
  obtain ⟨fuel, hf⟩ := h
  rcases open_slice_fields (fs := fs) ht he hone hC hf with ⟨hcs, hx⟩ | ⟨x, l, c, m, D, Pl, hcs, _, hl, hm, hmm, hx, hi⟩
  · simp [Value.cells] at hcs
    obtain ⟨rfl, rfl, rfl⟩ := hcs
    simp only [Prod.mk.injEq] at hx
    exact ⟨none, 0, 0, fun _ _ => 0, rfl, Nat.zero_le _, fun i hi => absurd hi (Nat.not_lt_zero i), fun i hi => absurd hi (Nat.not_lt_zero i), .inl ⟨hx.1, rfl⟩⟩
  · simp [Value.cells] at hcs
    obtain ⟨rfl, rfl, rfl⟩ := hcs
    simp only [Prod.mk.injEq] at hx
    have hlm : len ≤ m := by rw [hmm]; split <;> omega
    have key : ∀ i j, i < len ∧ j < fs.size → ∃ z : Int, (Lit.int .i64 z).wf = true ∧ x.spot = none ∧ x.block < w.heap.size ∧ w.cell? ⟨x.block, x.off + (i * fs.size + j), none⟩ = some (.int .i64 z) := by
      intro i j ⟨hil, hj⟩
      obtain ⟨ys, n, hD, hP, hyl, hfl⟩ := hi i (by omega)
      obtain ⟨v0, y0, c0, _, t0⟩ := hfl j fs[j] (by simp [hj])
      obtain ⟨n0, e0, _, wf0⟩ := DataW.trod_int (hint j fs[j] (by simp [hj])) t0
      simp only [List.cons.injEq, and_true] at e0
      subst e0
      have hsp : x.spot = none := by
        obtain ⟨_, _, _, _, _, hfl0⟩ := hi 0 (by omega)
        obtain ⟨_, _, c00, _, _⟩ := hfl0 0 fs[0] (by simp [hpos])
        exact spot_of_cell' (a := x) (by simpa [Addr.add] using c00)
      have hb := World.block_lt_of_cell? w _ c0
      rw [block_add] at hb
      obtain ⟨xb, xo, xs⟩ := x
      simp only at hsp
      subst hsp
      simp only [addr_add] at c0
      exact ⟨n0, wf0, rfl, hb, c0⟩
    refine ⟨_, len, cap, fun i j => if hil : i < len ∧ j < fs.size then (key i j hil).choose else 0, rfl, by omega, fun i hil j hj => ?_, fun i hil => ?_, .inr ⟨_, _, hx.1, by simp⟩⟩
    · simp only [dif_pos (And.intro hil hj)]
      exact (key i j ⟨hil, hj⟩).choose_spec.1
    · have h0 := (key i 0 ⟨hil, hpos⟩).choose_spec
      refine ⟨x.block, x.off, ?_, h0.2.2.1, fun j hj => ?_⟩
      · have hsp := h0.2.1
        obtain ⟨xb, xo, xs⟩ := x
        simp only at hsp
        subst hsp
        rfl
      · simp only [dif_pos (And.intro hil hj)]
        exact (key i j ⟨hil, hj⟩).choose_spec.2.2.2
end
end Go.Proofs.YtjijhjdemkgpgaaGreatDoor
