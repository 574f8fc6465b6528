/- The document's Parse. -/
import Derived.Test.YtjijhjdemkgpgaaGreatDoorZ11
import Derived.Test.YtjijhjdemkgpgaaGreatDoorI23
namespace Go.Proofs.YtjijhjdemkgpgaaGreatDoor
open Go.RowKit
set_option linter.unusedVariables false
set_option linter.unusedSimpArgs false
set_option maxRecDepth 100000
theorem resQ {tmps : Array Value} {w : World} {g : Nat} {e : Value} {cs : Array Value} (h2 : tmps.getD 2 undef = .pointer (some ⟨g, 0, none⟩)) (h3 : tmps.getD 3 undef = e) (hb : Blk w g 23 cs) (hs : cs.size = 4) : (results Tryz.f13 tmps).run Tryz.prog w = .ok (.tuple #[.agg cs, e]) w := by
  have h1 : (asAddr (tmps.getD 2 undef)).run Tryz.prog w = .ok ⟨g, 0, none⟩ w := by rw [h2]; rfl
  rw [results_cell_tmp Tryz.results13, h1, h3]
  have h4 := run_loadVar_row (P := Tryz.prog) w g 23 23 cs (0, 0) _ hb Tryz.underlying23 rfl (by rw [hs]; kernel_rfl)
  simp [Result.andThen, h4]
set_option maxHeartbeats 4000000 in
theorem rParse_of (s lb : ByteArray) (i : In) (is : Bool) (w : World) (hr : ∀ W, Fr [] w W → Calls Tryz.prog 30 #[.string s, .bool false] W fun e w' => e = .returned (.tuple #[i.v, .string lb, .bool is]) ∧ Fr [] W w') : Calls Tryz.prog 13 #[.string s] w fun e w' => e = .returned (.tuple #[(if is = true then i.v else In0.v), .int .i64 (if is = true then 0 else 92)]) ∧ Fr [] w w' := by
  have HR := Lib.hid hr
  have H0 : Hid (Fr [] w (w.alloc (.cells Z4 23))) := Lib.hid ((Fr.refl [] w).alloc _)
  have HB := Lib.hid (Blk.new w 23 Z4)
  obtain ⟨op, a, b, m⟩ := i
  clear hr
  cases is with
  | false =>
    go_enter Tryz.func13, Tryz.ntmps13
    go_wp2_with (first
      | (go_at_call 30; refine (HR.out _ H0.out).mono ?_; rintro e w1 ⟨rfl, hf⟩; have H1 := Lib.hid (H0.out.trans hf); have hb1 := (HB.out.fr hf (by simp)).fr ((Fr.refl [] w1).alloc (.cells #[.int .i64 op, .int .i64 a, .int .i64 b, .int .i64 m] 23)) (by simp); have c0 := hb1.cell 0; have c1 := hb1.cell 1; have c2 := hb1.cell 2; have c3 := hb1.cell 3; simp at c0 c1 c2 c3; have f0 := hb1.frozen; have HB1 := Lib.hid hb1; clear hf hb1)
      | fail)
    exact bodyPost_ret (v := .tuple #[.agg #[.int .i64 0, .int .i64 0, .int .i64 0, .int .i64 0], .int .i64 92]) (resQ rfl rfl (Blk.set4 HB1.out _ _ _ _) rfl) rfl ⟨rfl, Fr.set4 (H1.out.alloc _) (Or.inr (Nat.le_refl _)) _ _ _ _⟩
  | true =>
    go_enter Tryz.func13, Tryz.ntmps13
    go_wp2_with (first
      | (go_at_call 30; refine (HR.out _ H0.out).mono ?_; rintro e w1 ⟨rfl, hf⟩; have H1 := Lib.hid (H0.out.trans hf); have hb1 := (HB.out.fr hf (by simp)).fr ((Fr.refl [] w1).alloc (.cells #[.int .i64 op, .int .i64 a, .int .i64 b, .int .i64 m] 23)) (by simp); have c0 := hb1.cell 0; have c1 := hb1.cell 1; have c2 := hb1.cell 2; have c3 := hb1.cell 3; simp at c0 c1 c2 c3; have f0 := hb1.frozen; have HB1 := Lib.hid hb1; clear hf hb1)
      | fail)
    exact bodyPost_ret (v := .tuple #[.agg #[.int .i64 op, .int .i64 a, .int .i64 b, .int .i64 m], .int .i64 0]) (resQ rfl rfl (Blk.set4 HB1.out _ _ _ _) rfl) rfl ⟨rfl, Fr.set4 (H1.out.alloc _) (Or.inr (Nat.le_refl _)) _ _ _ _⟩
theorem parse_same (s : List UInt8) : (if (readR false s).2.2 = true then ((readR false s).1, (0 : Int)) else (In0, 92)) = parseV s := by
  have h1 := readR_G false s
  have h2 := readV_G false s
  rw [← read_same] at h1
  unfold parseV
  by_cases hr : (readR false s).2.2 = true
  · rw [if_pos hr] at h1 ⊢
    by_cases hv : (readV false s).2.2 = true
    · rw [if_pos hv] at h2 ⊢
      have h := h1.symm.trans h2
      injection h with h
      injection h with h _
      rw [h]
    · rw [if_neg hv] at h2
      exact absurd (h1.symm.trans h2) (by simp)
  · rw [if_neg hr] at h1 ⊢
    by_cases hv : (readV false s).2.2 = true
    · rw [if_pos hv] at h2
      exact absurd (h1.symm.trans h2) (by simp)
    · rw [if_neg hv]
theorem rParse_any (s : ByteArray) (hs : s.size ≤ 4294967280) (w : World) : Calls Tryz.prog 13 #[.string s] w fun e w' => e = .returned (.tuple #[(parseV s.data.toList).1.v, .int .i64 (parseV s.data.toList).2]) ∧ Fr [] w w' := by
  rw [← parse_same]
  refine (rParse_of s ⟨(readR false s.data.toList).2.1.toArray⟩ (readR false s.data.toList).1 (readR false s.data.toList).2.2 w (fun W _ => rparse_any s false hs W)).mono ?_
  rintro e w' ⟨rfl, hf⟩
  refine ⟨?_, hf⟩
  cases (readR false s.data.toList).2.2 <;> rfl
end Go.Proofs.YtjijhjdemkgpgaaGreatDoor
