/- A slice of numbers that came in, opened. -/
import Derived.Test.YtjijhjdemkgpgaaDoorOpenRows
import Derived.Test.YtjijhjdemkgpgaaDoorI32
import Derived.ChangeSlices
import Derived.OpenShut
import Derived.SizedLaws
namespace Go.Proofs.YtjijhjdemkgpgaaDoor
open Go.ChangeShapes Go.WideShapes Go.Deep Go.Joins Go.RowKit
section
variable {H : Type} {enc : TypeId × Value → H} {w : World} {base : Nat} {spare : Nat → Bool} {held : Bool}
set_option maxRecDepth 100000 in
theorem open_ordr {r : Reach} {b0 : Nat} {v : Value} {d : DataW H} {ps : List MemPlace} (hv : Value.okWide Tryd.prog w r b0 42 v) (h : DataW.Trod enc Tryd.prog w base spare held 42 v d ps) :
    ∃ (A : Option Addr) (n cap : Nat) (z : Nat → Int), v = .slice A n cap ∧ NumsAt w A n z := by
  obtain ⟨a, len, cap, rfl⟩ := okWide_slice Tryd.underlying42 hv
  obtain ⟨fuel, hf⟩ := h
  rcases open_ints Tryd.underlying42 Tryd.underlying3 (by kernel_rfl) hf with ⟨hcs, -⟩ | ⟨x, l, c, zs, hcs, -, hl, -, hz, -, hcell, -⟩
  · simp [Value.cells] at hcs
    obtain ⟨rfl, rfl, rfl⟩ := hcs
    exact ⟨none, 0, 0, fun _ => 0, rfl, fun i hi => absurd hi (Nat.not_lt_zero i)⟩
  · simp [Value.cells] at hcs
    obtain ⟨rfl, rfl, rfl⟩ := hcs
    have hzl : len ≤ zs.length := by rw [hz]; split <;> omega
    refine ⟨_, len, cap, fun i => zs.getD i 0, rfl, fun i hi => ?_⟩
    have h0 := hcell 0 (by omega)
    have hc := hcell i (by omega)
    have hsp := spot_of_cell' h0
    obtain ⟨xb, xo, xs⟩ := x
    have hs2 : xs = none := by
      cases xs with
      | none => rfl
      | some q => simp [Addr.add] at hsp
    subst hs2
    rw [addr_add] at hc
    exact ⟨xb, xo, rfl, hc⟩
end
end Go.Proofs.YtjijhjdemkgpgaaDoor
