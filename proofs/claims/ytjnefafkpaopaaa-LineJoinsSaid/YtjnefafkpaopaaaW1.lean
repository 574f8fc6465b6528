/- Line: points, sameness. -/
import Derived.Test.YtjnefafkpaopaaaRows
import Derived.Test.YtjnefafkpaopaaaLib2
import Derived.WalkKit
import Derived.WalkSpells
import Derived.WalkLawsBesides
import Derived.Deep.QuietTactic
import Derived.BigQuiet
import Derived.Lib.Hide
import Derived.Deep.LoopGhost
import Derived.Deep.DeepMust
import Derived.Deep.RegionHeld3
namespace Go.Proofs.Ytjnefafkpaopaaa
open Go.RowKit
set_option linter.unusedVariables false
set_option linter.unusedSimpArgs false

/-- The part of two bits: -3, -1, 1, 3. -/
def pv : Nat → Nat
  | 0 => 13837309855095848960
  | 1 => 13830554455654793216
  | 2 => 4607182418800017408
  | _ => 4613937818241073152
def cx (n : Nat) : Value := .complex .f64 (pv (n / 4)) (pv (n % 4))

theorem part1_any (n : Nat) (w : World) (h : n < 4) : Calls Try.prog 16 #[.int .u8 (n : Int)] w fun e w' => e = .returned (.float .f64 (pv n)) ∧ w = w' := by
  have hc : ∀ w : World, (convert 5 36 (.int .u8 (n : Int))).run Try.prog w = .ok (.float .f64 (floatOfInt .f64 n)) w := by
    match n, h with
    | 0, _ => exact fun w => by kernel_rfl
    | 1, _ => exact fun w => by kernel_rfl
    | 2, _ => exact fun w => by kernel_rfl
    | 3, _ => exact fun w => by kernel_rfl
  obtain ⟨r, hm, hs⟩ : ∃ r, (∀ w : World, (binOp .mul 36 (.float .f64 4611686018427387904) (.float .f64 (floatOfInt .f64 n))).run Try.prog w = .ok (.float .f64 r) w) ∧ ∀ w : World, (binOp .sub 36 (.float .f64 r) (.float .f64 4613937818241073152)).run Try.prog w = .ok (.float .f64 (pv n)) w := by
    match n, h with
    | 0, _ => exact ⟨0, fun w => by kernel_rfl, fun w => by kernel_rfl⟩
    | 1, _ => exact ⟨4611686018427387904, fun w => by kernel_rfl, fun w => by kernel_rfl⟩
    | 2, _ => exact ⟨4616189618054758400, fun w => by kernel_rfl, fun w => by kernel_rfl⟩
    | 3, _ => exact ⟨4618441417868443648, fun w => by kernel_rfl, fun w => by kernel_rfl⟩
  generalize pv n = V at *
  generalize floatOfInt .f64 n = fl at *
  go_enter Try.func16, Try.ntmps16
  go_wp2
  go_ret
  exact ⟨rfl, rfl⟩
theorem sh2 : ∀ (n : Nat), n < 16 → ∀ w : World, (binOp .shr 5 (.int .u8 (n : Int)) (.int .u64 2)).run Try.prog w = .ok (.int .u8 ((n / 4 : Nat) : Int)) w
  | 0, _ => fun _ => by kernel_rfl
  | 1, _ => fun _ => by kernel_rfl
  | 2, _ => fun _ => by kernel_rfl
  | 3, _ => fun _ => by kernel_rfl
  | 4, _ => fun _ => by kernel_rfl
  | 5, _ => fun _ => by kernel_rfl
  | 6, _ => fun _ => by kernel_rfl
  | 7, _ => fun _ => by kernel_rfl
  | 8, _ => fun _ => by kernel_rfl
  | 9, _ => fun _ => by kernel_rfl
  | 10, _ => fun _ => by kernel_rfl
  | 11, _ => fun _ => by kernel_rfl
  | 12, _ => fun _ => by kernel_rfl
  | 13, _ => fun _ => by kernel_rfl
  | 14, _ => fun _ => by kernel_rfl
  | 15, _ => fun _ => by kernel_rfl
  | _ + 16, h => absurd h (by omega)
theorem and3 : ∀ (n : Nat), n < 16 → bits .and .u8 (n : Int) 3 = ((n % 4 : Nat) : Int)
  | 0, _ => by kernel_rfl
  | 1, _ => by kernel_rfl
  | 2, _ => by kernel_rfl
  | 3, _ => by kernel_rfl
  | 4, _ => by kernel_rfl
  | 5, _ => by kernel_rfl
  | 6, _ => by kernel_rfl
  | 7, _ => by kernel_rfl
  | 8, _ => by kernel_rfl
  | 9, _ => by kernel_rfl
  | 10, _ => by kernel_rfl
  | 11, _ => by kernel_rfl
  | 12, _ => by kernel_rfl
  | 13, _ => by kernel_rfl
  | 14, _ => by kernel_rfl
  | 15, _ => by kernel_rfl
  | _ + 16, h => absurd h (by omega)
theorem point_any (n : Nat) (w : World) (h : n < 16) : Calls Try.prog 9 #[.int .u8 (n : Int)] w fun e w' => e = .returned (cx n) ∧ w = w' := by
  have h2 := and3 n h
  have H1 := Lib.hid (part1_any (n / 4) w (by omega))
  have H2 := Lib.hid (part1_any (n % 4) w (by omega))
  rw [show ((n / 4 : Nat) : Int) = (n : Int) / 4 from rfl] at H1
  have hb4 : n % 4 < 4 := by omega
  obtain ⟨a, ha⟩ : ∃ a, pv (n / 4) = a := ⟨_, rfl⟩
  obtain ⟨c, hc⟩ : ∃ c, pv (n % 4) = c := ⟨_, rfl⟩
  obtain ⟨b, hb⟩ : ∃ b, n % 4 = b := ⟨_, rfl⟩
  have HA := Lib.hid (And.intro ha hc)
  rw [ha] at H1
  rw [hc] at H2
  rw [hb] at h2 H2 hb4
  clear ha hb hc
  go_enter Try.func9, Try.ntmps9
  go_wp2_with fail
  refine H1.out.mono ?_
  rintro e w' ⟨rfl, rfl⟩
  go_wp2_with fail
  refine H2.out.mono ?_
  rintro e w' ⟨rfl, rfl⟩
  go_wp2_with fail
  go_ret
  exact ⟨by rw [cx, HA.out.1, HA.out.2]; rfl, rfl⟩
theorem quo4 : ∀ (n : Nat), n < 16 → (n : Int).tdiv 4 = ((n / 4 : Nat) : Int) ∧ (n : Int).tmod 4 = ((n % 4 : Nat) : Int) := fun n _ => ⟨rfl, rfl⟩
theorem Part_any (n : Nat) (w : World) (h : n < 4) : Calls Try.prog 17 #[.int .i64 (n : Int)] w fun e w' => e = .returned (.float .f64 (pv n)) ∧ w = w' := by
  have hc : ∀ w : World, (convert 3 36 (.int .i64 (2 * (n : Int) - 3))).run Try.prog w = .ok (.float .f64 (pv n)) w := by
    match n, h with
    | 0, _ => exact fun w => by kernel_rfl
    | 1, _ => exact fun w => by kernel_rfl
    | 2, _ => exact fun w => by kernel_rfl
    | 3, _ => exact fun w => by kernel_rfl
  obtain ⟨V, hV⟩ : ∃ V, pv n = V := ⟨_, rfl⟩
  rw [hV] at hc ⊢
  have HV := Lib.hid hV
  clear hV
  go_enter Try.func17, Try.ntmps17
  go_wp2
  go_ret
  exact ⟨rfl, rfl⟩
theorem Point_any (n : Nat) (w : World) (h : n < 16) : Calls Try.prog 10 #[.int .i64 (n : Int)] w fun e w' => e = .returned (cx n) ∧ w = w' := by
  have H1 := Lib.hid (Part_any (n / 4) w (by omega))
  have H2 := Lib.hid (Part_any (n % 4) w (by omega))
  have h1 : (n : Int).tdiv 4 = ((n / 4 : Nat) : Int) := rfl
  have h2 : (n : Int).tmod 4 = ((n % 4 : Nat) : Int) := rfl
  obtain ⟨a, ha⟩ : ∃ a, n / 4 = a := ⟨_, rfl⟩
  obtain ⟨b, hb⟩ : ∃ b, n % 4 = b := ⟨_, rfl⟩
  have ha4 : a < 4 := by omega
  have hb4 : b < 4 := by omega
  rw [ha] at h1 H1
  rw [hb] at h2 H2
  have HA := Lib.hid (And.intro ha hb)
  clear ha hb
  go_enter Try.func10, Try.ntmps10
  go_wp2_with fail
  refine H1.out.mono ?_
  rintro e w' ⟨rfl, rfl⟩
  go_wp2_with fail
  refine H2.out.mono ?_
  rintro e w' ⟨rfl, rfl⟩
  go_wp2_with fail
  go_ret
  exact ⟨by rw [cx, HA.out.1, HA.out.2]; rfl, rfl⟩
/-- Two parts of one form are the same, be they numbers or not. -/
theorem same_part (x : Nat) (w : World) : Calls Try.prog 11 #[.float .f64 x, .float .f64 x] w fun e w' => e = .returned (.bool true) ∧ w = w' := by
  go_enter Try.func11, Try.ntmps11
  go_wp2
  all_goals
    go_ret
    refine ⟨?_, rfl⟩
    show Ending.returned (.bool _) = _
    cases ho : (FloatKind.f64.format.order x x == some Ordering.eq)
    all_goals first
      | rfl
      | (simp only [bne, ho]; rfl)
end Go.Proofs.Ytjnefafkpaopaaa
