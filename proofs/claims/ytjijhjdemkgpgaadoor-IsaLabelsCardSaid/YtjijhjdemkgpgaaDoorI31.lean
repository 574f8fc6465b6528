/- A slice of instructions that came in, opened. -/
import Derived.Test.YtjijhjdemkgpgaaDoorOpenRows
import Derived.Test.YtjijhjdemkgpgaaDoorI30
import Derived.OpenShut
import Derived.SizedLaws
namespace Go.Proofs.YtjijhjdemkgpgaaDoor
open Go.ChangeShapes Go.WideShapes Go.Deep Go.Joins Go.RowKit
section
variable {H : Type} {enc : TypeId × Value → H} {w : World} {base : Nat} {spare : Nat → Bool} {held : Bool}
set_option maxRecDepth 100000 in
theorem open_inss {r : Reach} {b0 : Nat} {v : Value} {d : DataW H} {ps : List MemPlace} (hv : Value.okWide Tryd.prog w r b0 35 v) (h : DataW.Trod enc Tryd.prog w base spare held 35 v d ps) :
    ∃ (A : Option Addr) (n cap : Nat) (rs : Nat → In), v = .slice A n cap ∧ InsAt w A n rs := by
  obtain ⟨A, n, cap, rows, e, h1, h2, h3, h4⟩ := open_rows (fs := _) Tryd.underlying35 Tryd.underlying23 (by kernel_rfl) (by kernel_rfl) (fun j f hf => by
    have : f.type = 3 := by
      match j, hf with
      | 0, hf => injection hf with hf; subst hf; rfl
      | 1, hf => injection hf with hf; subst hf; rfl
      | 2, hf => injection hf with hf; subst hf; rfl
      | 3, hf => injection hf with hf; subst hf; rfl
      | j + 4, hf => cases hf
    rw [this]
    exact Tryd.underlying3) (by decide) hv h
  refine ⟨A, n, cap, fun i => ⟨rows i 0, rows i 1, rows i 2, rows i 3⟩, e, ⟨fun i hi => ?_⟩⟩
  obtain ⟨b, off, hA, -, hc⟩ := h3 i hi
  have c0 := hc 0 (by decide)
  have c1 := hc 1 (by decide)
  have c2 := hc 2 (by decide)
  have c3 := hc 3 (by decide)
  exact ⟨b, off, hA, by simpa using c0, by simpa [Nat.add_assoc] using c1, by simpa [Nat.add_assoc] using c2, by simpa [Nat.add_assoc] using c3⟩
end
end Go.Proofs.YtjijhjdemkgpgaaDoor
