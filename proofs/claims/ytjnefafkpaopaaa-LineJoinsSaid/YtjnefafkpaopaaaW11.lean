/- Line: Receive on a row of two. -/
import Derived.Test.YtjnefafkpaopaaaW10
namespace Go.Proofs.Ytjnefafkpaopaaa
open Go.RowKit
set_option linter.unusedVariables false
set_option linter.unusedSimpArgs false
def p3 : Nat := 4613937818241073152
def m3 : Nat := 13837309855095848960
def pilots : List (Nat × Nat) := [(4613937818241073152, 4613937818241073152), (13837309855095848960, 4613937818241073152), (13837309855095848960, 13837309855095848960), (4613937818241073152, 13837309855095848960)]
theorem near33 (w : World) : Calls Try.prog 13 #[.complex .f64 4613937818241073152 4613937818241073152] w fun e w' => e = .returned (.tuple #[.complex .f64 4613937818241073152 4613937818241073152, .bool true]) ∧ w = w' := by
  have h := Near_any 4613937818241073152 4613937818241073152 w
  have h1 : (ins4 4613937818241073152 && ins4 4613937818241073152) = true := by kernel_rfl
  have h2 : nn 4613937818241073152 4613937818241073152 = 15 := by kernel_rfl
  rw [h1, h2] at h
  exact h
theorem index33 (g cap : Nat) (w : World) (hb : Blk w g 27 #[.complex .f64 4613937818241073152 4613937818241073152, .complex .f64 13837309855095848960 4613937818241073152, .complex .f64 13837309855095848960 13837309855095848960, .complex .f64 4613937818241073152 13837309855095848960]) (hc : 4 ≤ cap) (hc2 : cap ≤ maxLen) :
    Calls Try.prog 18 #[.slice (some ⟨g, 0, none⟩) 4 cap, .complex .f64 4613937818241073152 4613937818241073152] w fun e w' => e = .returned (.int .i64 0) ∧ w = w' := by
  refine index_any pilots _ _ 4 _ _ 0 w ⟨rfl, .inr ⟨g, 0, cap, _, rfl, hc, hc2, hb, fun j u hu => ?_⟩⟩ (by omega) (by omega) (fun i p hp hi => ?_)
  · simpa [pilots, enc] using hu
  · have : i = 0 := by omega
    subst this
    simp [pilots] at hp
    subst hp
    have he : ((FloatKind.f64.format.order 4613937818241073152 4613937818241073152 == some .eq) && (FloatKind.f64.format.order 4613937818241073152 4613937818241073152 == some .eq)) = (0 == 0) := by kernel_rfl
    exact he
end Go.Proofs.Ytjnefafkpaopaaa
