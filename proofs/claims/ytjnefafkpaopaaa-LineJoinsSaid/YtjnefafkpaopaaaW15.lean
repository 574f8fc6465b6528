/- Line: the calls whose answers the document fixes. -/
import Derived.Test.YtjnefafkpaopaaaW14
import Derived.Outline
namespace Go.Proofs.Ytjnefafkpaopaaa
open Go.RowKit
set_option linter.unusedVariables false
set_option linter.unusedSimpArgs false
theorem row1 {w : World} {g cap : Nat} {a : Nat × Nat} (hb : Blk w g 27 #[.complex .f64 a.1 a.2]) (h1 : 1 ≤ cap) (h2 : cap ≤ maxLen) : Sl w 27 1 (.slice (some ⟨g, 0, none⟩) 1 cap) 1 (enc [a]) :=
  ⟨rfl, .inr ⟨g, 0, cap, _, rfl, h1, h2, hb, fun j u hu => by simpa [enc] using hu⟩⟩
theorem TurnI.sl {w W : World} {l : List (Nat × Nat)} {r g n cap : Nat} (h : TurnI w l r g n W) (hn : l.length = n) (h1 : n ≤ cap) (h2 : cap ≤ maxLen) : Sl W 27 1 (.slice (some ⟨g, 0, none⟩) n cap) n (enc (l.map (rot r))) := by
  refine ⟨by simp [enc, hn], ?_⟩
  obtain ⟨⟨cs, hb, hc⟩, _, _⟩ := h
  refine .inr ⟨g, 0, cap, cs, rfl, h1, h2, hb, fun j u hu => ?_⟩
  simp [enc] at hu
  obtain ⟨x, y, hxy, rfl⟩ := hu
  have hj : j < n := by rw [← hn]; exact (List.getElem?_eq_some_iff.1 hxy).1
  rw [Nat.zero_add, hc j _ hxy, if_pos hj]
theorem near_m1m3 (w : World) : Calls Try.prog 13 #[.complex .f64 13835058055282163712 13836183955189006336] w fun e w' => e = .returned (.tuple #[.complex .f64 13830554455654793216 13837309855095848960, .bool true]) ∧ w = w' := by
  have h := Near_any 13835058055282163712 13836183955189006336 w
  have h1 : (ins4 13835058055282163712 && ins4 13836183955189006336) = true := by kernel_rfl
  have h2 : nn 13835058055282163712 13836183955189006336 = 4 := by kernel_rfl
  rw [h1, h2] at h
  exact h
theorem near_45 (w : World) : Calls Try.prog 13 #[.complex .f64 4616752568008179712 0] w fun e w' => e = .returned (.tuple #[.complex .f64 0 0, .bool false]) ∧ w = w' := by
  have h := Near_any 4616752568008179712 0 w
  have h1 : (ins4 4616752568008179712 && ins4 0) = false := by kernel_rfl
  rw [h1] at h
  exact h
set_option maxRecDepth 100000 in
set_option maxHeartbeats 2000000 in
theorem fixed_any (w : World) : Calls Try.prog 8 #[] w fun e w' => e = .returned (.bool true) ∧ Fr [] w w' := by
  have H1 := Lib.hid (Send_any ⟨#[27]⟩ w (by decide))
  go_enter Try.func8, Try.ntmps8
  go_wp2_with fail
  refine H1.out.mono ?_
  rintro e w1 ⟨v1, rfl, hv1, hf1⟩
  obtain ⟨A1, c1, rfl⟩ := own_shape hv1
  have hS1 : Hid (Sl w1 27 1 (.slice A1 3 c1) 3 (enc (row [27]))) := Lib.hid (Sl.of_own hv1)
  have HF1 := Lib.hid hf1
  clear hv1 hf1
  have hB := Lib.hid (Recv_good w1.heap.size _ (Blk.new w1 27 #[.complex .f64 13837309855095848960 4613937818241073152, .complex .f64 4607182418800017408 13837309855095848960, .complex .f64 13837309855095848960 4607182418800017408]))
  go_wp2_with fail
  refine hB.out.mono ?_
  rintro e w2 ⟨rfl, hf2⟩
  have HF2 := Lib.hid (((Fr.refl [] w1).alloc (.cells #[.complex .f64 13837309855095848960 4613937818241073152, .complex .f64 4607182418800017408 13837309855095848960, .complex .f64 13837309855095848960 4607182418800017408] 27)).trans hf2)
  clear hf2
  go_wp2_with fail
  refine (Recv_nil w2).mono ?_
  rintro e w3 ⟨rfl, hf3⟩
  have HF3 := Lib.hid hf3
  clear hf3
  have hB3 := Lib.hid (Recv_two w3.heap.size 2 _ (Blk.new w3 27 #[.complex .f64 4613937818241073152 4613937818241073152, .complex .f64 4607182418800017408 0]))
  go_wp2_with fail
  refine hB3.out.mono ?_
  rintro e w4 ⟨rfl, hf4⟩
  have HF4 := Lib.hid (((Fr.refl [] w3).alloc (.cells #[.complex .f64 4613937818241073152 4613937818241073152, .complex .f64 4607182418800017408 0] 27)).trans hf4)
  clear hf4
  have hB4 := Lib.hid (Recv_bad w4.heap.size _ (Blk.new w4 27 #[.complex .f64 4613937818241073152 4613937818241073152, .complex .f64 4607182418800017408 0, .complex .f64 4617315517961601024 0]))
  go_wp2_with fail
  refine hB4.out.mono ?_
  rintro e w5 ⟨rfl, hf5⟩
  have HF5 := Lib.hid (((Fr.refl [] w4).alloc (.cells #[.complex .f64 4613937818241073152 4613937818241073152, .complex .f64 4607182418800017408 0, .complex .f64 4617315517961601024 0] 27)).trans hf5)
  clear hf5
  go_wp2_with fail
  refine (near_m1m3 w5).mono ?_
  rintro e w6 ⟨rfl, rfl⟩
  go_wp2_with fail
  refine (near_45 w5).mono ?_
  rintro e w6 ⟨rfl, rfl⟩
  go_wp2_with fail
  have hR : row [27] = [(4613937818241073152, 4613937818241073152), (13837309855095848960, 13830554455654793216), (4607182418800017408, 4613937818241073152)] := by kernel_rfl
  have h5 := ((((hS1.out.fr HF2.out (by simp)).fr HF3.out (by simp)).fr HF4.out (by simp)).fr HF5.out (by simp)).fr ((Fr.refl [] w5).alloc (.cells #[.complex .f64 4613937818241073152 4613937818241073152, .complex .f64 13837309855095848960 13830554455654793216, .complex .f64 4607182418800017408 4613937818241073152] 27)) (by simp)
  rw [hR] at h5
  refine (same_rows [(4613937818241073152, 4613937818241073152), (13837309855095848960, 13830554455654793216), (4607182418800017408, 4613937818241073152)] _ _ 3 _ h5 (row3 (a := (_, _)) (b := (_, _)) (c := (_, _)) (Blk.new _ _ _) (by omega) (by simp [maxLen])) (by omega)).mono ?_
  clear h5 hR
  rintro e w7 ⟨rfl, hf7⟩
  have HF7 := Lib.hid (((Fr.refl [] w5).alloc (.cells #[.complex .f64 4613937818241073152 4613937818241073152, .complex .f64 13837309855095848960 13830554455654793216, .complex .f64 4607182418800017408 4613937818241073152] 27)).trans hf7)
  clear hf7
  go_wp2_with fail
  have hT := Turn_0 [(4607182418800017408, 4611686018427387904)] w7.heap.size 0 1 1 (-1) _ (row1 (a := (_, _)) (Blk.new w7 _ _) (by omega) (by simp [maxLen])) (by omega) 3 (by kernel_rfl) (.inr rfl)
  refine hT.mono ?_
  clear hT
  rintro e w8 ⟨g8, c8, rfl, hT8, hc8, hc8'⟩
  have hS8 := hT8.sl rfl hc8 hc8'
  have hR : [(4607182418800017408, 4611686018427387904)].map (rot 3) = [(4611686018427387904, 13830554455654793216)] := by kernel_rfl
  rw [hR] at hS8
  have HF8 := Lib.hid (((Fr.refl [] w7).alloc (.cells #[.complex .f64 4607182418800017408 4611686018427387904] 27)).trans hT8.fr)
  have HS8 := Lib.hid (hS8.fr ((Fr.refl [] w8).alloc (.cells #[.complex .f64 4611686018427387904 13830554455654793216] 27)) (by simp))
  clear hS8 hR hT8 hc8 hc8'
  go_wp2_with fail
  refine (same_rows _ _ _ 1 _ HS8.out (row1 (a := (_, _)) (Blk.new _ _ _) (by omega) (by simp [maxLen])) (by omega)).mono ?_
  rintro e w9 ⟨rfl, hf9⟩
  have HF9 := Lib.hid (((Fr.refl [] w8).alloc (.cells #[.complex .f64 4611686018427387904 13830554455654793216] 27)).trans hf9)
  clear hf9
  go_wp2_with fail
  refine (Add_nil _ w9.heap.size 0 1 1 _ (row1 (a := (_, _)) (Blk.new w9 _ _) (by omega) (by simp [maxLen])) (by omega) (by omega)).mono ?_
  rintro e w10 ⟨g10, c10, cs10, rfl, -, -, hf10, -⟩
  have HF10 := Lib.hid (((Fr.refl [] w9).alloc (.cells #[.complex .f64 4607182418800017408 0] 27)).trans hf10)
  clear hf10
  go_wp2_with fail
  go_ret
  exact ⟨rfl, (((((((HF1.out.trans HF2.out).trans HF3.out).trans HF4.out).trans HF5.out).trans HF7.out).trans HF8.out).trans HF9.out).trans HF10.out⟩
end Go.Proofs.Ytjnefafkpaopaaa
