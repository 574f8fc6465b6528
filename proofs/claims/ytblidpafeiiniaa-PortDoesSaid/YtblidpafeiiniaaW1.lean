/- The functions of package port, each by its contract. -/
import Derived.Test.YtblidpafeiiniaaRows
import Derived.Test.YtblidpafeiiniaaLib
import Derived.WalkKit
import Derived.WalkSpells
import Derived.WalkLawsBesides
import Derived.Deep.QuietTactic
import Derived.BigQuiet
import Derived.StillTailTactics
import Derived.Lib.Hide
namespace Go.Proofs.Ytblidpafeiiniaa
open Go.RowKit

theorem ret_bool {a b : Bool} (h : a = b) : Ending.returned (.bool a) = .returned (.bool b) := by rw [h]

set_option maxHeartbeats 400000 in
theorem in_any (a b c : Int) (w : World) :
    Calls Try.prog 22 #[.int .i64 a, .int .i64 b, .int .i64 c] w fun e w' => e = .returned (.bool (decide (b ≤ a) && decide (a ≤ c))) ∧ w = w' := by
  by_cases h1 : b ≤ a
  · go_enter Try.func22, Try.ntmps22
    go_wp2
    go_ret
    exact ⟨by simp [*], rfl⟩
  · go_enter Try.func22, Try.ntmps22
    go_wp2
    go_ret
    exact ⟨by simp; intro; omega, rfl⟩

theorem in_yes (a b c : Int) (w : World) (h1 : b ≤ a) (h2 : a ≤ c) :
    Calls Try.prog 22 #[.int .i64 a, .int .i64 b, .int .i64 c] w fun e w' => e = .returned (.bool true) ∧ w = w' :=
  (in_any a b c w).mono fun e w' ⟨he, hw⟩ => ⟨by rw [he]; simp [h1, h2], hw⟩
theorem in_no (a b c : Int) (w : World) (h : a < b ∨ c < a) :
    Calls Try.prog 22 #[.int .i64 a, .int .i64 b, .int .i64 c] w fun e w' => e = .returned (.bool false) ∧ w = w' :=
  (in_any a b c w).mono fun e w' ⟨he, hw⟩ => ⟨by rw [he]; apply ret_bool; rw [Bool.and_eq_false_iff]; simp; omega, hw⟩

/-- May a port be? -/
def okC (K F T S D : Int) : Bool :=
  decide (0 ≤ F) && decide (F ≤ 7) && (decide (0 ≤ T) && decide (T ≤ 7)) && !(F == T) && (decide (0 ≤ K) && decide (K ≤ 1)) && (decide (1 ≤ S) && decide (S ≤ 255)) && (decide (1 ≤ D) && decide (D ≤ 8)) && !(K == 0 && !(D == 1))
theorem okC_iff (K F T S D : Int) : okC K F T S D = true ↔ 0 ≤ F ∧ F ≤ 7 ∧ 0 ≤ T ∧ T ≤ 7 ∧ F ≠ T ∧ 0 ≤ K ∧ K ≤ 1 ∧ 1 ≤ S ∧ S ≤ 255 ∧ 1 ≤ D ∧ D ≤ 8 ∧ (K = 0 → D = 1) := by
  unfold okC
  simp only [Bool.and_eq_true, decide_eq_true_eq, Bool.not_eq_true', Bool.and_eq_false_iff, beq_eq_false_iff_ne, Bool.not_eq_false', beq_iff_eq]
  omega
def cfg (K F T S D : Int) : Value := .agg #[.int .i64 K, .int .i64 F, .int .i64 T, .int .i64 S, .int .i64 D]


/-- What Check tells. -/
def ckE (K F T S D : Int) : Int := if okC K F T S D then 0 else 140
theorem ck0 {K F T S D : Int} (h : 0 ≤ F ∧ F ≤ 7 ∧ 0 ≤ T ∧ T ≤ 7 ∧ F ≠ T ∧ 0 ≤ K ∧ K ≤ 1 ∧ 1 ≤ S ∧ S ≤ 255 ∧ 1 ≤ D ∧ D ≤ 8 ∧ (K = 0 → D = 1)) : 0 = ckE K F T S D := by
  unfold ckE; rw [if_pos ((okC_iff ..).2 h)]
theorem ck140 {K F T S D : Int} (h : ¬ (0 ≤ F ∧ F ≤ 7 ∧ 0 ≤ T ∧ T ≤ 7 ∧ F ≠ T ∧ 0 ≤ K ∧ K ≤ 1 ∧ 1 ≤ S ∧ S ≤ 255 ∧ 1 ≤ D ∧ D ≤ 8 ∧ (K = 0 → D = 1))) : 140 = ckE K F T S D := by
  unfold ckE; rw [if_neg (fun hh => h ((okC_iff ..).1 hh))]
theorem ret_int {k : IntKind} {a b : Int} (h : a = b) : Ending.returned (.int k a) = .returned (.int k b) := by rw [h]

set_option maxHeartbeats 1000000 in
theorem check_any (K F T S D : Int) (w : World) :
    Calls Try.prog 15 #[cfg K F T S D] w fun e w' => e = .returned (.int .i64 (ckE K F T S D)) ∧ Below w.heap.size w w' := by
  unfold cfg
  by_cases f : 0 ≤ F ∧ F ≤ 7
  all_goals
    go_enter Try.func15, Try.ntmps15
    go_wp2_with (go_at_call 22; first | (refine (in_yes _ _ _ _ ?h1 ?h2).mono ?_; (case h1 => omega); (case h2 => omega); rintro e w' ⟨rfl, rfl⟩) | (refine (in_no _ _ _ _ ?h1).mono ?_; (case h1 => omega); rintro e w' ⟨rfl, rfl⟩) | (refine (in_any _ _ _ _).mono ?_; rintro e w' ⟨rfl, rfl⟩))
    all_goals
      go_ret
      refine ⟨ret_int ?_, (Below.refl _ _).alloc (Nat.le_refl _) _⟩
      try simp only [Bool.not_eq_true', bne_iff_ne, ne_eq, bne_eq_false_iff_eq, Bool.not_eq_false'] at *
      first | exact ck0 (by omega) | exact ck140 (by omega)
end Go.Proofs.Ytblidpafeiiniaa
