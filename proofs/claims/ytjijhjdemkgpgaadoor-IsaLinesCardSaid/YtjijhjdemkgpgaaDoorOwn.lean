/- The program's two closed facts that each row's proof asks. -/
import Derived.Test.YtjijhjdemkgpgaaDoorRows
import Derived.Test.YtjijhjdemkgpgaaDoorLib
import Derived.ProofKit
import Derived.WalkKit
import Derived.Lib.SmallJoins
namespace Go.Proofs.YtjijhjdemkgpgaaDoor
open Go.ChangeShapes Go.WideShapes Go.Joins Go.RowKit
theorem Tryd.own : ownKnob Tryd.prog.godebug = none := by kernel_rfl
theorem Tryd.laidOut : laidOutB Tryd.prog = true := by kernel_rfl
end Go.Proofs.YtjijhjdemkgpgaaDoor
