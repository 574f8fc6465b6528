/- The program's two closed facts that each row's proof asks. -/
import Derived.Test.YtbmaecdlkchkeaaGreatDoorRows
import Derived.Test.YtbmaecdlkchkeaaGreatDoorLib
import Derived.ProofKit
import Derived.WalkKit
import Derived.Lib.SmallJoins
namespace Go.Proofs.YtbmaecdlkchkeaaGreatDoor
open Go.ChangeShapes Go.WideShapes Go.Joins Go.RowKit
theorem Tryz.own : ownKnob Tryz.prog.godebug = none := by kernel_rfl
theorem Tryz.laidOut : laidOutB Tryz.prog = true := by kernel_rfl
end Go.Proofs.YtbmaecdlkchkeaaGreatDoor
