/- How long a script can be. -/
import Derived.Test.YtkjahokffpihmaaDoorOpen2
namespace Go.Proofs.YtkjahokffpihmaaDoor
open Go.ChangeShapes Go.WideShapes Go.Deep Go.Joins Go.RowKit
section
variable {H : Type}
theorem slice_weight {t e : TypeId} {es sp : List (DataW H)} (ht : Tryd.prog.underlying t = some (.slice e)) : (es.length + sp.length) * Tryd.prog.bytesOf e ∈ (DataW.slice es sp).weights Tryd.prog t := by
  simp [DataW.weights, ht]
theorem ops_small {d : DataW H} {n : Nat} (hd : (d = .nil ∧ n = 0) ∨ ∃ es sp, d = .slice es sp ∧ es.length = n) (hw : ∀ m, m ∈ d.weights Tryd.prog 22 → m ≤ reachBytes) : (n + 1) * 8 ≤ 140737488355328 := by
  rcases hd with ⟨-, rfl⟩ | ⟨es, sp, rfl, rfl⟩
  · decide
  · have h1 := hw _ (slice_weight (es := es) (sp := sp) Tryd.underlying22)
    have hb : Tryd.prog.bytesOf 46 = 40 := by kernel_rfl
    rw [hb] at h1
    simp only [reachBytes] at h1
    omega
end
end Go.Proofs.YtkjahokffpihmaaDoor
