/- The console's arguments, opened. -/
import Derived.Test.YtkjahokffpihmaaDoorC19
import Derived.Test.YtkjahokffpihmaaDoorC21
import Derived.Test.YtkjahokffpihmaaDoorOpenRows
import Derived.Test.YtkjahokffpihmaaDoorOwn
import Derived.OpenShut
import Derived.SizedLaws
import Derived.Deep.Strs
namespace Go.Proofs.YtkjahokffpihmaaDoor
open Go.ChangeShapes Go.WideShapes Go.Deep Go.Joins Go.RowKit
section
variable {H : Type} {enc : TypeId × Value → H} {w : World} {base : Nat} {spare : Nat → Bool} {held : Bool}
set_option maxRecDepth 100000 in
theorem open_strsT {r : Reach} {b0 : Nat} {v : Value} {d : DataW H} {ps : List MemPlace} (hv : Value.okWide Tryd.prog w r b0 36 v) (h : DataW.Trod enc Tryd.prog w base spare held 36 v d ps) :
    ∃ (A : Option Addr) (n cap : Nat) (T : Nat → ByteArray), v = .slice A n cap ∧ StrsT w A n T := by
  obtain ⟨a, len, cap, rfl⟩ := okWide_slice Tryd.underlying36 hv
  obtain ⟨fuel, hf⟩ := h
  rcases open_strs Tryd.underlying36 Tryd.underlying9 (by kernel_rfl) hf with ⟨hcs, -⟩ | ⟨x, l, c, m, Sx, hcs, _, hl, hm, hmm, -, hi⟩
  · simp [Value.cells] at hcs
    obtain ⟨rfl, rfl, rfl⟩ := hcs
    exact ⟨none, 0, 0, fun _ => empty, rfl, Nat.zero_le _, fun i hi => absurd hi (Nat.not_lt_zero i)⟩
  · simp [Value.cells] at hcs
    obtain ⟨rfl, rfl, rfl⟩ := hcs
    have hlm : len ≤ m := by rw [hmm]; split <;> omega
    refine ⟨_, len, cap, Sx, rfl, by omega, fun i hil => ?_⟩
    obtain ⟨h1, h2⟩ := hi i (by omega)
    have hsp : x.spot = none := by
      have := (hi 0 (by omega)).1
      exact spot_of_cell' (a := x) (by simpa [Addr.add] using this)
    obtain ⟨xb, xo, xs⟩ := x
    simp only at hsp
    subst hsp
    exact ⟨xb, xo, rfl, by rw [← addr_add]; exact h1, h2⟩
end
end Go.Proofs.YtkjahokffpihmaaDoor
