/- Package port's New; the reference's Check; the calls that are fixed. -/
import Derived.Test.YtblidpafeiiniaaW3
namespace Go.Proofs.Ytblidpafeiiniaa
open Go.RowKit

/-- A new port's state. -/
def ps0 (K F T S D : Int) : PS := ⟨K, F, T, S, D, [], 0⟩
/-- What New comes to where the port may be. -/
def NewOk (w : World) (s : PS) (e : Ending) (w' : World) : Prop :=
  ∃ p, e = .returned (.tuple #[ptr p, .int .i64 0]) ∧ w.heap.size ≤ p ∧ PortAt w' p s ∧ Fr [] w w'

theorem ckE_ok {K F T S D : Int} (h : okC K F T S D = true) : ckE K F T S D = 0 := by simp [ckE, h]
theorem ckE_no {K F T S D : Int} (h : okC K F T S D = false) : ckE K F T S D = 140 := by simp [ckE, h]
theorem check_ok (K F T S D : Int) (w : World) (h : okC K F T S D = true) :
    Calls Try.prog 15 #[cfg K F T S D] w fun e w' => e = .returned (.int .i64 0) ∧ Fr [] w w' :=
  (check_any K F T S D w).mono fun e w' ⟨he, hw⟩ => ⟨by rw [he, ckE_ok h], Fr.of_below hw (Nat.le_refl _)⟩
theorem check_no (K F T S D : Int) (w : World) (h : okC K F T S D = false) :
    Calls Try.prog 15 #[cfg K F T S D] w fun e w' => e = .returned (.int .i64 140) ∧ Fr [] w w' :=
  (check_any K F T S D w).mono fun e w' ⟨he, hw⟩ => ⟨by rw [he, ckE_no h], Fr.of_below hw (Nat.le_refl _)⟩

set_option maxHeartbeats 400000 in
theorem new_ok (K F T S D : Int) (w : World) (h : okC K F T S D = true) : Calls Try.prog 7 #[cfg K F T S D] w (NewOk w (ps0 K F T S D)) := by
  have Hk := Lib.hid h; clear h
  unfold cfg
  go_enter Try.func7, Try.ntmps7
  go_wp2_with (go_at_call 15; refine (check_ok K F T S D _ Hk.out).mono ?_; rintro e w1 ⟨rfl, hf1⟩; have hc := fun i => hf1.cell (p := ⟨w.heap.size, i, none⟩) (by simp) (by simp))
  go_ret2
  have hs := hf1.size
  simp at hs
  refine ⟨w1.heap.size, rfl, by omega, ⟨_, Blk.new _ _ _, Sl.nil _ _ _⟩, (((Fr.refl _ _).alloc _).trans hf1).alloc _⟩
set_option maxHeartbeats 400000 in
theorem new_no (K F T S D : Int) (w : World) (h : okC K F T S D = false) : Calls Try.prog 7 #[cfg K F T S D] w fun e w' => e = .returned (.tuple #[.pointer none, .int .i64 140]) ∧ Fr [] w w' := by
  have Hk := Lib.hid h; clear h
  unfold cfg
  go_enter Try.func7, Try.ntmps7
  go_wp2_with (go_at_call 15; refine (check_no K F T S D _ Hk.out).mono ?_; rintro e w1 ⟨rfl, hf1⟩)
  go_ret2
  exact ⟨rfl, ((Fr.refl _ _).alloc _).trans (hf1.mono (by simp))⟩

set_option maxHeartbeats 1000000 in
theorem rcheck_any (K F T S D : Int) (w : World) :
    Calls Try.prog 8 #[cfg K F T S D] w fun e w' => e = .returned (.int .i64 (ckE K F T S D)) ∧ Below w.heap.size w w' := by
  unfold cfg
  go_enter Try.func8, Try.ntmps8
  go_wp2
  all_goals
    go_ret
    refine ⟨ret_int ?_, (Below.refl _ _).alloc (Nat.le_refl _) _⟩
    try simp only [Bool.not_eq_true', bne_iff_ne, ne_eq, bne_eq_false_iff_eq, Bool.not_eq_false', beq_iff_eq, beq_eq_false_iff_ne] at *
    first | exact ck0 (by omega) | exact ck140 (by omega)

/-- The two calls of New that the law's fixed calls and the laws make. -/
theorem rcheck_no (K F T S D : Int) (w : World) (h : okC K F T S D = false) :
    Calls Try.prog 8 #[cfg K F T S D] w fun e w' => e = .returned (.int .i64 140) ∧ Fr [] w w' :=
  (rcheck_any K F T S D w).mono fun e w' ⟨he, hw⟩ => ⟨by rw [he, ckE_no h], Fr.of_below hw (Nat.le_refl _)⟩
theorem rcheck_ok (K F T S D : Int) (w : World) (h : okC K F T S D = true) :
    Calls Try.prog 8 #[cfg K F T S D] w fun e w' => e = .returned (.int .i64 0) ∧ Fr [] w w' :=
  (rcheck_any K F T S D w).mono fun e w' ⟨he, hw⟩ => ⟨by rw [he, ckE_ok h], Fr.of_below hw (Nat.le_refl _)⟩
end Go.Proofs.Ytblidpafeiiniaa
