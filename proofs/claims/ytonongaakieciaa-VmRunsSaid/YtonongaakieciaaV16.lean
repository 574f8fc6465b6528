/- What a machine's step may turn (no program in sight). -/
import Derived.Test.YtonongaakieciaaV13
import Derived.Test.YtonongaakieciaaB6
namespace Go.Proofs.Ytonongaakieciaa
open Go.RowKit
set_option linter.unusedVariables false
set_option linter.unusedSimpArgs false
set_option maxRecDepth 100000
theorem Wr.touchV (k : Nat) (y : Vm) (st : St) (t : List Pg) (a : Nat) (ad wd nx : Int) : Wr t st (touchV k y st t a ad wd nx).2.2 := by
  unfold Go.Proofs.Ytonongaakieciaa.touchV
  split
  · split <;> exact Wr.refl t st
  · split
    · exact Wr.refl t st
    · exact Wr.stS ..
theorem Wr.stepI (y : Vm) (st : St) (t : List Pg) (k a b : Nat) (m : Int) : Wr t st (stepI y st t k a b m).2.2 := by
  unfold Go.Proofs.Ytonongaakieciaa.stepI
  split
  all_goals first
    | exact Wr.refl t st
    | exact Wr.touchV ..
    | (split <;> exact Wr.refl t st)
theorem Wr.stepV (y : Vm) (st : St) (t : List Pg) : Wr t st (stepV y st t).2.2 := by
  unfold Go.Proofs.Ytonongaakieciaa.stepV
  split
  · exact Wr.refl t st
  · exact Wr.stepI ..
end Go.Proofs.Ytonongaakieciaa
