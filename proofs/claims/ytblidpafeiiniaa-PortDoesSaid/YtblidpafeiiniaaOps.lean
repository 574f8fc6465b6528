/- Scripts: slices of calls that came in. -/
import Derived.Test.YtblidpafeiiniaaRows
import Derived.Test.YtblidpafeiiniaaOpens
namespace Go.Proofs.Ytblidpafeiiniaa
open Go.ChangeShapes Go.WideShapes Go.Deep Go.Joins Go.RowKit

/-- A call in a script. -/
structure OpD where
  On : Int
  Kind : Int
  Tick : Int
  S : ByteArray
  hS : S.size ≤ maxLen
/-- A slice of calls, in memory that came in. -/
def OpsIn (w : World) (v : Value) (n : Nat) (ops : Nat → OpD) : Prop :=
  n ≤ maxLen ∧ ∃ A cap, v = .slice A n cap ∧ ∀ i, i < n → ∃ b off, A = some ⟨b, off, none⟩ ∧ b < w.heap.size ∧
    w.cell? ⟨b, off + i * 4, none⟩ = some (.int .i64 (ops i).On) ∧ w.cell? ⟨b, off + i * 4 + 1, none⟩ = some (.int .i64 (ops i).Kind) ∧
    w.cell? ⟨b, off + i * 4 + 2, none⟩ = some (.int .i64 (ops i).Tick) ∧ w.cell? ⟨b, off + i * 4 + 3, none⟩ = some (.string (ops i).S)
theorem OpsIn.at_ {w : World} {A : Option Addr} {n cap : Nat} {ops : Nat → OpD} (h : OpsIn w (.slice A n cap) n ops) {i : Nat} (hi : i < n) : ∃ b off, A = some ⟨b, off, none⟩ ∧ b < w.heap.size ∧
    w.cell? ⟨b, off + i * 4, none⟩ = some (.int .i64 (ops i).On) ∧ w.cell? ⟨b, off + i * 4 + 1, none⟩ = some (.int .i64 (ops i).Kind) ∧
    w.cell? ⟨b, off + i * 4 + 2, none⟩ = some (.int .i64 (ops i).Tick) ∧ w.cell? ⟨b, off + i * 4 + 3, none⟩ = some (.string (ops i).S) := by
  obtain ⟨_, A', cap', h1, h2⟩ := h
  injection h1 with hA _ _
  rw [hA]
  exact h2 i hi
theorem OpsIn.fr {w w' : World} {v : Value} {n : Nat} {ops : Nat → OpD} (h : OpsIn w v n ops) (hf : Fr [] w w') : OpsIn w' v n ops := by
  obtain ⟨h0, A, cap, h1, h2⟩ := h
  refine ⟨h0, A, cap, h1, fun i hi => ?_⟩
  obtain ⟨b, off, hA, hb, c0, c1, c2, c3⟩ := h2 i hi
  have hs := hf.size
  exact ⟨b, off, hA, by omega, hf.cell_some c0 (by simp), hf.cell_some c1 (by simp), hf.cell_some c2 (by simp), hf.cell_some c3 (by simp)⟩

theorem spot_of_cell {w : World} {a : Addr} {v : Value} (h : w.cell? a = some v) : a.spot = none := by
  obtain ⟨b, o, s⟩ := a
  cases s with
  | none => rfl
  | some q => simp [World.cell?] at h; split at h <;> simp at h
section
variable {H : Type} {enc : TypeId × Value → H} {w : World} {base : Nat} {spare : Nat → Bool} {held : Bool}
theorem Try.cells33 : Try.prog.cellsOf 33 = 4 := by kernel_rfl
theorem Try.bytes33 : Try.prog.bytesOf 33 = 40 := by kernel_rfl
/-- A slice of calls, opened: in memory, and as data. -/
theorem open_ops {v : Value} {d : DataW H} {ps : List MemPlace} {r : Reach} {b0 : Nat} (hv : Value.okWide Try.prog w r b0 24 v) (h : DataW.Trod enc Try.prog w base spare held 24 v d ps) :
    ∃ (A : Option Addr) (n cap : Nat) (ops : Nat → OpD), v = .slice A n cap ∧ OpsIn w (.slice A n cap) n ops ∧ ((d = .nil ∧ n = 0) ∨ ∃ es sp, d = .slice es sp ∧ es.length = n) := by
  obtain ⟨a, len, cap, rfl⟩ := okWide_slice Try.underlying24 hv
  obtain ⟨fuel, hf⟩ := h
  rcases open_slice_fields (fs := _) Try.underlying24 Try.underlying33 (by kernel_rfl) (by kernel_rfl) hf with ⟨hcs, hx⟩ | ⟨x, l, c, m, D, Pl, hcs, _, hl, hm, hmm, hx, hi⟩
  · simp [Value.cells] at hcs
    obtain ⟨rfl, rfl, rfl⟩ := hcs
    simp only [Prod.mk.injEq] at hx
    exact ⟨none, 0, 0, fun _ => ⟨0, 0, 0, ByteArray.empty, Nat.zero_le _⟩, rfl, ⟨Nat.zero_le _, none, 0, rfl, fun i hi => absurd hi (Nat.not_lt_zero i)⟩, .inl ⟨hx.1, rfl⟩⟩
  · simp [Value.cells] at hcs
    obtain ⟨rfl, rfl, rfl⟩ := hcs
    simp only [Prod.mk.injEq] at hx
    have hlm : len ≤ m := by rw [hmm]; split <;> omega
    have key : ∀ i, i < len → ∃ o : OpD, x.spot = none ∧ x.block < w.heap.size ∧ w.cell? ⟨x.block, x.off + i * 4, none⟩ = some (.int .i64 o.On) ∧ w.cell? ⟨x.block, x.off + i * 4 + 1, none⟩ = some (.int .i64 o.Kind) ∧
        w.cell? ⟨x.block, x.off + i * 4 + 2, none⟩ = some (.int .i64 o.Tick) ∧ w.cell? ⟨x.block, x.off + i * 4 + 3, none⟩ = some (.string o.S) := by
      intro i hil
      obtain ⟨ys, n, hD, hP, hyl, hfl⟩ := hi i (by omega)
      obtain ⟨v0, y0, c0, _, t0⟩ := hfl 0 _ rfl
      obtain ⟨v1, y1, c1, _, t1⟩ := hfl 1 _ rfl
      obtain ⟨v2, y2, c2, _, t2⟩ := hfl 2 _ rfl
      obtain ⟨v3, y3, c3, _, t3⟩ := hfl 3 _ rfl
      obtain ⟨n0, e0, _⟩ := DataW.trod_int Try.underlying3 t0
      obtain ⟨n1, e1, _⟩ := DataW.trod_int Try.underlying3 t1
      obtain ⟨n2, e2, _⟩ := DataW.trod_int Try.underlying3 t2
      obtain ⟨s3, e3, _, hs3⟩ := DataW.trod_string Try.underlying9 t3
      simp only [List.cons.injEq, and_true] at e0 e1 e2 e3
      subst e0; subst e1; subst e2; subst e3
      have hsp : x.spot = none := by
        obtain ⟨_, _, _, _, _, hfl0⟩ := hi 0 (by omega)
        obtain ⟨_, _, c00, _, _⟩ := hfl0 0 _ rfl
        exact spot_of_cell (a := x) (by simpa [Addr.add] using c00)
      have hb := World.block_lt_of_cell? w _ c0
      rw [block_add] at hb
      obtain ⟨xb, xo, xs⟩ := x
      simp only at hsp
      subst hsp
      simp only [addr_add] at c0 c1 c2 c3
      exact ⟨⟨n0, n1, n2, s3, hs3⟩, rfl, hb, c0, c1, c2, c3⟩
    refine ⟨_, len, cap, fun i => if hil : i < len then (key i hil).choose else ⟨0, 0, 0, ByteArray.empty, Nat.zero_le _⟩, rfl, ⟨by omega, _, cap, rfl, fun i hil => ?_⟩, .inr ⟨_, _, hx.1, by simp⟩⟩
    simp only [dif_pos hil]
    have hk := (key i hil).choose_spec
    have hsp := hk.1
    refine ⟨x.block, x.off, ?_, hk.2⟩
    obtain ⟨xb, xo, xs⟩ := x
    simp only at hsp
    subst hsp
    rfl
end
end Go.Proofs.Ytblidpafeiiniaa
