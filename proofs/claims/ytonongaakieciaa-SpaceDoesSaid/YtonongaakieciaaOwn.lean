/- The program's two closed facts that each row's proof asks. -/
import Derived.Test.YtonongaakieciaaRows
import Derived.Test.YtonongaakieciaaLib
import Derived.ProofKit
import Derived.WalkKit
import Derived.Lib.SmallJoins
namespace Go.Proofs.Ytonongaakieciaa
open Go.ChangeShapes Go.WideShapes Go.Joins Go.RowKit
theorem Try.own : ownKnob Try.prog.godebug = none := by kernel_rfl
theorem Try.laidOut : laidOutB Try.prog = true := by kernel_rfl
end Go.Proofs.Ytonongaakieciaa
