/- Line: what a part is taken for, a point's number. -/
import Derived.Test.YtjnefafkpaopaaaW4
namespace Go.Proofs.Ytjnefafkpaopaaa
open Go.RowKit
set_option linter.unusedVariables false
set_option linter.unusedSimpArgs false

def fo (x c : Nat) : Option Ordering := FloatKind.f64.format.order x c
def ins4 (x : Nat) : Bool := (fo x 13839561654909534208 == some .gt || fo x 13839561654909534208 == some .eq) && (fo x 4616189618054758400 == some .lt || fo x 4616189618054758400 == some .eq)
def tk (x : Nat) : Int := bif !ins4 x then 0 else bif fo x 13835058055282163712 == some .lt then 0 else bif fo x 0 == some .lt then 1 else bif fo x 4611686018427387904 == some .lt then 2 else 3
theorem taken_any (x : Nat) (w : World) : Calls Try.prog 21 #[.float .f64 x] w fun e w' => e = .returned (.tuple #[.int .i64 (tk x), .bool (ins4 x)]) ∧ w = w' := by
  go_enter Try.func21, Try.ntmps21
  go_wp2
  all_goals
    go_ret2
    refine ⟨?_, rfl⟩
    simp_all [tk, ins4, fo, cond_eq_ite]
  all_goals
    generalize FloatKind.f64.format.order x 13839561654909534208 = o1 at *
    generalize FloatKind.f64.format.order x 4616189618054758400 = o2 at *
    rcases o1 with _ | o1 <;> rcases o2 with _ | o2 <;> (try cases o1) <;> (try cases o2) <;> simp_all
theorem tk_cases (x : Nat) : tk x = 0 ∨ tk x = 1 ∨ tk x = 2 ∨ tk x = 3 := by
  unfold tk
  cases !ins4 x <;> cases (fo x 13835058055282163712 == some .lt) <;> cases (fo x 0 == some .lt) <;> cases (fo x 4611686018427387904 == some .lt) <;> simp
theorem shlor : ∀ (a b : Int), (a = 0 ∨ a = 1 ∨ a = 2 ∨ a = 3) → (b = 0 ∨ b = 1 ∨ b = 2 ∨ b = 3) → (∀ w : World, (binOp .shl 3 (.int .i64 a) (.int .u64 2)).run Try.prog w = .ok (.int .i64 (4 * a)) w) ∧ (∀ w : World, (binOp .or 3 (.int .i64 (4 * a)) (.int .i64 b)).run Try.prog w = .ok (.int .i64 (4 * a + b)) w) := by
  rintro a b (rfl | rfl | rfl | rfl) (rfl | rfl | rfl | rfl) <;> exact ⟨fun w => by kernel_rfl, fun w => by kernel_rfl⟩
set_option maxHeartbeats 1000000 in
theorem number_any (x y : Nat) (w : World) : Calls Try.prog 19 #[.complex .f64 x y] w fun e w' => e = .returned (.tuple #[.int .u8 (4 * tk x + tk y), .bool (ins4 x && ins4 y)]) ∧ w = w' := by
  have H1 := Lib.hid (taken_any x w)
  have H2 := Lib.hid (taken_any y w)
  have hx := tk_cases x
  have hy := tk_cases y
  generalize tk x = a at *
  generalize tk y = b at *
  generalize ins4 x = p at *
  generalize ins4 y = q at *
  rcases hx with rfl | rfl | rfl | rfl <;> rcases hy with rfl | rfl | rfl | rfl
  all_goals
    cases p
  all_goals
    go_enter Try.func19, Try.ntmps19
    go_wp2_with fail
    refine H1.out.mono ?_
    rintro e w' ⟨rfl, rfl⟩
    go_wp2_with fail
    refine H2.out.mono ?_
    rintro e w' ⟨rfl, rfl⟩
    go_wp2_with fail
    go_ret2
    exact ⟨rfl, rfl⟩
end Go.Proofs.Ytjnefafkpaopaaa
