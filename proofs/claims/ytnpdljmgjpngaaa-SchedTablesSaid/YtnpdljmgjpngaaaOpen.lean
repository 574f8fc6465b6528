/- Windows and asks that came in, opened. -/
import Derived.Test.YtnpdljmgjpngaaaL0
import Derived.Test.YtnpdljmgjpngaaaOpenRows
namespace Go.Proofs.Ytnpdljmgjpngaaa
open Go.ChangeShapes Go.WideShapes Go.Deep Go.Joins Go.RowKit
theorem Try.own : ownKnob Try.prog.godebug = none := by kernel_rfl
theorem Try.laidOut : laidOutB Try.prog = true := by kernel_rfl
theorem Try.cells24 : Try.prog.cellsOf 24 = 4 := by kernel_rfl
theorem Try.cells40 : Try.prog.cellsOf 40 = 3 := by kernel_rfl
theorem Try.bytes40 : Try.prog.bytesOf 40 = 24 := by kernel_rfl
section
variable {H : Type} {enc : TypeId × Value → H} {w : World} {base : Nat} {spare : Nat → Bool} {held : Bool}
theorem open_wins {v : Value} {d : DataW H} {ps : List MemPlace} {r : Reach} {b0 : Nat} (hv : Value.okWide Try.prog w r b0 22 v) (h : DataW.Trod enc Try.prog w base spare held 22 v d ps) :
    ∃ (A : Option Addr) (n cap : Nat) (l : List Win), v = .slice A n cap ∧ WinsIn w (.slice A n cap) l ∧ ((d = .nil ∧ n = 0) ∨ ∃ es sp, d = .slice es sp ∧ es.length = n) := by
  obtain ⟨A, n, cap, rows, rfl, hn, -, hc, hd⟩ := open_rows (fs := _) Try.underlying22 Try.underlying40 (by kernel_rfl) (by kernel_rfl) (fun j f hf => by
    match j, hf with
    | 0, hf => injection hf with hf; subst hf; exact Try.underlying3
    | 1, hf => injection hf with hf; subst hf; exact Try.underlying3
    | 2, hf => injection hf with hf; subst hf; exact Try.underlying3
    | j + 3, hf => simp at hf) (by decide) hv h
  refine ⟨A, n, cap, (List.range n).map fun i => ⟨rows i 0, rows i 1, rows i 2⟩, rfl, ⟨by simpa using hn, A, cap, by simp, fun i hi => ?_⟩, hd⟩
  simp at hi
  obtain ⟨b, off, hA, hb, hcell⟩ := hc i hi
  have c0 := hcell 0 (by decide)
  have c1 := hcell 1 (by decide)
  have c2 := hcell 2 (by decide)
  exact ⟨b, off, ⟨rows i 0, rows i 1, rows i 2⟩, hA, hb, by simp [hi], c0, by rw [Nat.add_assoc]; exact c1, by rw [Nat.add_assoc]; exact c2⟩
end
end Go.Proofs.Ytnpdljmgjpngaaa
