/- Scripts that came in, opened. -/
import Derived.Test.YtnpdljmgjpngaaaL6
import Derived.Test.YtnpdljmgjpngaaaOpen
namespace Go.Proofs.Ytnpdljmgjpngaaa
open Go.ChangeShapes Go.WideShapes Go.Deep Go.Joins Go.RowKit
theorem Try.cells47 : Try.prog.cellsOf 47 = 3 := by kernel_rfl
theorem Try.bytes47 : Try.prog.bytesOf 47 = 24 := by kernel_rfl
section
variable {H : Type} {enc : TypeId × Value → H} {w : World} {base : Nat} {spare : Nat → Bool} {held : Bool}
theorem open_ops {v : Value} {d : DataW H} {ps : List MemPlace} {r : Reach} {b0 : Nat} (hv : Value.okWide Try.prog w r b0 42 v) (h : DataW.Trod enc Try.prog w base spare held 42 v d ps) :
    ∃ (A : Option Addr) (n cap : Nat) (ops : Nat → Op3), v = .slice A n cap ∧ OpsIn w A n ops ∧ (∀ i, i < n → (Lit.int .i64 (ops i).On).wf = true) ∧ ((d = .nil ∧ n = 0) ∨ ∃ es sp, d = .slice es sp ∧ es.length = n) := by
  obtain ⟨A, n, cap, rows, rfl, hn, hw, hc, hd⟩ := open_rows (fs := _) Try.underlying42 Try.underlying47 (by kernel_rfl) (by kernel_rfl) (fun j f hf => by
    match j, hf with
    | 0, hf => injection hf with hf; subst hf; exact Try.underlying3
    | 1, hf => injection hf with hf; subst hf; exact Try.underlying3
    | 2, hf => injection hf with hf; subst hf; exact Try.underlying3
    | j + 3, hf => simp at hf) (by decide) hv h
  refine ⟨A, n, cap, fun i => ⟨rows i 0, rows i 1, rows i 2⟩, rfl, fun i hi => ?_, fun i hi => hw i hi 0 (by decide), hd⟩
  obtain ⟨b, off, hA, hb, hcell⟩ := hc i hi
  have c0 := hcell 0 (by decide)
  have c1 := hcell 1 (by decide)
  have c2 := hcell 2 (by decide)
  exact ⟨b, off, hA, hb, c0, by rw [Nat.add_assoc]; exact c1, by rw [Nat.add_assoc]; exact c2⟩
end
end Go.Proofs.Ytnpdljmgjpngaaa
