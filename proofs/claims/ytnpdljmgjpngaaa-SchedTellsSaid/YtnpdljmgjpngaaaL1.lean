/- SchedTells: the walk. -/
import Derived.Test.YtnpdljmgjpngaaaL0
namespace Go.Proofs.Ytnpdljmgjpngaaa
open Go.RowKit
set_option linter.unusedVariables false
set_option linter.unusedSimpArgs false

set_option maxRecDepth 100000 in
set_option maxHeartbeats 4000000 in
theorem tells_walk (A : Option Addr) (n cap : Nat) (l : List Win) (K I F T : Int) (w : World) (h : WinsIn w (.slice A n cap) l) (hn : n ≤ 4611686018427387904) :
    Calls Try.prog 3 #[.slice A n cap, .agg #[.int .i64 K, .int .i64 I, .int .i64 F, .int .i64 T]] w fun e w' => e = .returned (.bool true) ∧ Fr [] w w' := by
  have H := Lib.hid h
  have hL := fun w h => Length_any A n cap l w h hn
  have hrL := fun w h => rLength_any A n cap l w h hn
  have hC := fun w h => check_any A n cap l w h hn
  have hrC := fun w h => rcheck_any A n cap l w h hn
  have hA := fun w h => At_any A n cap l w F h hn
  have hrA := fun w h => rAt_any A n cap l w F h hn
  have hT := fun w h => Ticks_any A n cap l w K I F T h hn
  have hrT := fun w h => rTicks_any A n cap l w K I F T h hn
  have HN := Lib.hid fun w h => Next_any A n cap l w K I F h hn
  have HrN := Lib.hid fun w h => rNext_any A n cap l w K I F h hn
  clear h
  generalize lenT l = x1 at *
  generalize chE l = x2 at *
  generalize atM l F = x3 at *
  generalize (atP l F).1 = x4 at *
  generalize (atP l F).2 = x5 at *
  generalize atE l F = x6 at *
  generalize tkT l K I F T = x7 at *
  generalize tkE l F T = x8 at *
  have HL := Lib.hid hL; clear hL
  have HrL := Lib.hid hrL; clear hrL
  have HC := Lib.hid hC; clear hC
  have HrC := Lib.hid hrC; clear hrC
  have HA := Lib.hid hA; clear hA
  have HrA := Lib.hid hrA; clear hrA
  have HT := Lib.hid hT; clear hT
  have HrT := Lib.hid hrT; clear hrT
  have hB := Blk.new w 24 #[.int .i64 K, .int .i64 I, .int .i64 F, .int .i64 T]
  have hf0 := (Fr.refl [] w).alloc (.cells #[.int .i64 K, .int .i64 I, .int .i64 F, .int .i64 T] 24)
  go_enter Try.func3, Try.ntmps3
  go_wp2_with fail
  refine (HL.out _ (H.out.fr hf0)).mono ?_
  rintro e w1 ⟨rfl, hf1⟩
  go_wp2_with fail
  refine (HrL.out _ ((H.out.fr hf0).fr hf1)).mono ?_
  rintro e w2 ⟨rfl, hf2⟩
  have hg2 := (hf0.trans hf1).trans hf2
  go_wp2_with fail
  refine (HC.out _ (H.out.fr hg2)).mono ?_
  rintro e w3 ⟨rfl, hf3⟩
  go_wp2_with fail
  refine (HrC.out _ (H.out.fr (hg2.trans hf3))).mono ?_
  rintro e w4 ⟨rfl, hf4⟩
  have hg4 := (hg2.trans hf3).trans hf4
  have hB4 := (((hB.fr hf1 (by simp)).fr hf2 (by simp)).fr hf3 (by simp)).fr hf4 (by simp)
  have a2 := hB4.cell 2
  simp at a2
  go_wp2_with fail
  refine (HA.out _ (H.out.fr hg4)).mono ?_
  rintro e w5 ⟨rfl, hf5⟩
  have hB5 := (hB4.fr hf5 (by simp)).alloc (.cells #[.int .i64 x3, .int .i64 x4, .int .i64 x5] 30)
  have hP5 := Blk.new w5 30 #[.int .i64 x3, .int .i64 x4, .int .i64 x5]
  have hg5 := (hg4.trans hf5).alloc (.cells #[.int .i64 x3, .int .i64 x4, .int .i64 x5] 30)
  have b2 := hB5.cell 2
  simp at b2
  go_wp2_with fail
  refine (HrA.out _ (H.out.fr hg5)).mono ?_
  rintro e w6 ⟨rfl, hf6⟩
  have hg6 := hg5.trans hf6
  have hP6 := hP5.fr hf6 (by simp)
  have hB6 := hB5.fr hf6 (by simp)
  have p0 := hP6.cell 0
  have p1 := hP6.cell 1
  have p2 := hP6.cell 2
  have c0 := hB6.cell 0
  have c1 := hB6.cell 1
  have c2 := hB6.cell 2
  have c3 := hB6.cell 3
  simp at p0 p1 p2 c0 c1 c2 c3
  go_wp2_with fail
  refine (HT.out _ (H.out.fr hg6)).mono ?_
  rintro e w7 ⟨rfl, hf7⟩
  have hg7 := hg6.trans hf7
  have hB7 := hB6.fr hf7 (by simp)
  have d0 := hB7.cell 0
  have d1 := hB7.cell 1
  have d2 := hB7.cell 2
  have d3 := hB7.cell 3
  simp at d0 d1 d2 d3
  go_wp2_with fail
  refine (HrT.out _ (H.out.fr hg7)).mono ?_
  rintro e w8 ⟨rfl, hf8⟩
  have hg8 := hg7.trans hf8
  have hB8 := hB7.fr hf8 (by simp)
  have e0 := hB8.cell 0
  have e1 := hB8.cell 1
  have e2 := hB8.cell 2
  simp at e0 e1 e2
  go_wp2_with fail
  refine (HN.out _ (H.out.fr hg8)).mono ?_
  rintro e w9 ⟨x, er, rfl, hx, hf9⟩
  have HX := Lib.hid hx
  clear hx
  have hg9 := hg8.trans hf9
  have hB9 := hB8.fr hf9 (by simp)
  have f0 := hB9.cell 0
  have f1 := hB9.cell 1
  have f2 := hB9.cell 2
  simp at f0 f1 f2
  go_wp2_with fail
  refine (HrN.out _ (H.out.fr hg9)).mono ?_
  rintro e w10 ⟨y, er2, rfl, hy, hf10⟩
  obtain ⟨rfl, rfl⟩ := nextR_uniq HX.out hy
  clear hy
  go_wp2_with fail
  refine (fixed_any _).mono ?_
  rintro e w11 ⟨rfl, hf11⟩
  go_wp2_with fail
  go_ret
  exact ⟨rfl, (hg9.trans hf10).trans hf11⟩
end Go.Proofs.Ytnpdljmgjpngaaa
