/- The laws' lines tied to the plain ones. -/
import Derived.Test.YtjijhjdemkgpgaaDoorI10
import Derived.Test.YtjijhjdemkgpgaaDoorA2
namespace Go.Proofs.YtjijhjdemkgpgaaDoor
theorem nopC_cons : ∀ k, [110, 111, 112, 10] ++ nopC k = nopC k ++ [110, 111, 112, 10]
  | 0 => rfl
  | k + 1 => by
    show [110, 111, 112, 10] ++ (nopC k ++ [110, 111, 112, 10]) = _
    rw [← List.append_assoc, nopC_cons k]
    rfl
theorem nopC_lines : ∀ k, nopC k = linesB k
  | 0 => rfl
  | k + 1 => by
    show nopC k ++ [110, 111, 112, 10] = _
    rw [← nopC_cons, nopC_lines k]
    rfl
end Go.Proofs.YtjijhjdemkgpgaaDoor
