/- Parse, of the program, over what read tells. -/
import Derived.Test.YtjijhjdemkgpgaaGreatDoorI3
namespace Go.Proofs.YtjijhjdemkgpgaaGreatDoor
open Go.RowKit
set_option linter.unusedVariables false
set_option linter.unusedSimpArgs false
set_option maxRecDepth 100000
theorem res13 {tmps : Array Value} {w : World} {g : Nat} {e : Value} {cs : Array Value} (h2 : tmps.getD 2 undef = .pointer (some ⟨g, 0, none⟩)) (h3 : tmps.getD 3 undef = e) (hb : Blk w g 23 cs) (hs : cs.size = 4) : (results Tryz.f12 tmps).run Tryz.prog w = .ok (.tuple #[.agg cs, e]) w := by
  have h1 : (asAddr (tmps.getD 2 undef)).run Tryz.prog w = .ok ⟨g, 0, none⟩ w := by rw [h2]; rfl
  rw [results_cell_tmp Tryz.results12, h1, h3]
  have h4 := run_loadVar_row (P := Tryz.prog) w g 23 23 cs (0, 0) _ hb Tryz.underlying23 rfl (by rw [hs]; kernel_rfl)
  simp [Result.andThen, h4]
set_option maxHeartbeats 4000000 in
theorem Parse_of (s lb : ByteArray) (i : In) (is : Bool) (w : World) (hr : ∀ W, Fr [] w W → Calls Tryz.prog 29 #[.string s, .bool false] W fun e w' => e = .returned (.tuple #[i.v, .string lb, .bool is]) ∧ Fr [] W w') : Calls Tryz.prog 12 #[.string s] w fun e w' => e = .returned (.tuple #[(if is = true then i.v else In0.v), .int .i64 (if is = true then 0 else 92)]) ∧ Fr [] w w' := by
  have HR := Lib.hid hr
  have H0 : Hid (Fr [] w (w.alloc (.cells Z4 23))) := Lib.hid ((Fr.refl [] w).alloc _)
  have HB := Lib.hid (Blk.new w 23 Z4)
  obtain ⟨op, a, b, m⟩ := i
  clear hr
  cases is with
  | false =>
    go_enter Tryz.func12, Tryz.ntmps12
    go_wp2_with (first
      | (go_at_call 29; refine (HR.out _ H0.out).mono ?_; rintro e w1 ⟨rfl, hf⟩; have H1 := Lib.hid (H0.out.trans hf); have hb1 := (HB.out.fr hf (by simp)).fr ((Fr.refl [] w1).alloc (.cells #[.int .i64 op, .int .i64 a, .int .i64 b, .int .i64 m] 23)) (by simp); have c0 := hb1.cell 0; have c1 := hb1.cell 1; have c2 := hb1.cell 2; have c3 := hb1.cell 3; simp at c0 c1 c2 c3; have f0 := hb1.frozen; have HB1 := Lib.hid hb1; clear hf hb1)
      | fail)
    exact bodyPost_ret (v := .tuple #[.agg #[.int .i64 0, .int .i64 0, .int .i64 0, .int .i64 0], .int .i64 92]) (res13 rfl rfl (Blk.set4 HB1.out _ _ _ _) rfl) rfl ⟨rfl, Fr.set4 (H1.out.alloc _) (Or.inr (Nat.le_refl _)) _ _ _ _⟩
  | true =>
    go_enter Tryz.func12, Tryz.ntmps12
    go_wp2_with (first
      | (go_at_call 29; refine (HR.out _ H0.out).mono ?_; rintro e w1 ⟨rfl, hf⟩; have H1 := Lib.hid (H0.out.trans hf); have hb1 := (HB.out.fr hf (by simp)).fr ((Fr.refl [] w1).alloc (.cells #[.int .i64 op, .int .i64 a, .int .i64 b, .int .i64 m] 23)) (by simp); have c0 := hb1.cell 0; have c1 := hb1.cell 1; have c2 := hb1.cell 2; have c3 := hb1.cell 3; simp at c0 c1 c2 c3; have f0 := hb1.frozen; have HB1 := Lib.hid hb1; clear hf hb1)
      | fail)
    exact bodyPost_ret (v := .tuple #[.agg #[.int .i64 op, .int .i64 a, .int .i64 b, .int .i64 m], .int .i64 0]) (res13 rfl rfl (Blk.set4 HB1.out _ _ _ _) rfl) rfl ⟨rfl, Fr.set4 (H1.out.alloc _) (Or.inr (Nat.le_refl _)) _ _ _ _⟩
end Go.Proofs.YtjijhjdemkgpgaaGreatDoor
