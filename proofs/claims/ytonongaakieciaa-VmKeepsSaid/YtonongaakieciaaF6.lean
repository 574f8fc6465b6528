/- fixed: the machine's steps at the law's own program (no program in sight). -/
import Derived.Test.YtonongaakieciaaF5
import Derived.Test.YtonongaakieciaaV13
import Derived.Test.YtonongaakieciaaB6
import Derived.Test.YtonongaakieciaaV14
namespace Go.Proofs.Ytonongaakieciaa
open Go.RowKit
set_option linter.unusedVariables false
set_option maxRecDepth 100000
def fF (j : Nat) : In := if j = 0 then ⟨2, 1, 0, 7⟩ else if j = 1 then ⟨19, 3, 0, -1⟩ else if j = 2 then ⟨29, 0, 0, 9⟩ else ⟨8, 1, 4, 0⟩
def stF : St := layS ⟨1, fun _ => 0⟩ 0 0 (catE fF 4)
def tF : List Pg := [⟨0, 7⟩]
theorem lay0 : layE 1 0 0 (catE fF 4) = 0 := by kernel_rfl
theorem okF : ∀ j, j < 4 → ∃ k : Nat, k < 30 ∧ (fF j).op = (k : Int) ∧ okI (fF j) k = true := by
  intro j hj
  match j, hj with
  | 0, _ => exact ⟨2, by decide, rfl, by kernel_rfl⟩
  | 1, _ => exact ⟨19, by decide, rfl, by kernel_rfl⟩
  | 2, _ => exact ⟨29, by decide, rfl, by kernel_rfl⟩
  | 3, _ => exact ⟨8, by decide, rfl, by kernel_rfl⟩
def s1 := stepV vm0 stF tF
def s2 := stepV s1.2.1 s1.2.2 tF
def s3 := stepV s2.2.1 s2.2.2 tF
def s4 := stepV s3.2.1 s3.2.2 tF
theorem s1_1 : s1.1 = (0, 0) := by kernel_rfl
theorem s2_1 : s2.1 = (0, 0) := by kernel_rfl
theorem s3_1 : s3.1 = (3, 9) := by kernel_rfl
theorem s4_1 : s4.1 = (2, 2) := by kernel_rfl
theorem s4_w : s4.2.1.wt = true := by kernel_rfl
theorem s4_p : s4.2.1.pl = 12 := by kernel_rfl
theorem s4_r1 : s4.2.1.r 1 = 7 := by kernel_rfl
theorem s4_r3 : s4.2.1.r 3 = 4294967295 := by kernel_rfl
def lF (j : Nat) : Int := if j = 0 then 1 else if j = 1 then -1 else 2
def xF : Vm := ansV s4.2.1 lF
def s5 := stepV xF s4.2.2 tF
theorem s5_1 : s5.1 = (2, 5) := by kernel_rfl
theorem s5_r1 : s5.2.1.r 1 = 4294967295 := by kernel_rfl
theorem s5_r3 : s5.2.1.r 3 = 4294967295 := by kernel_rfl
theorem s5_p : s5.2.1.pl = 12 := by kernel_rfl
theorem s5_w : s5.2.1.wt = false := by kernel_rfl
end Go.Proofs.Ytonongaakieciaa
