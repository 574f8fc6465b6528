/- Line: Receive on a row of which a point is not near. -/
import Derived.Test.YtjnefafkpaopaaaW12
import Derived.LoopN
namespace Go.Proofs.Ytjnefafkpaopaaa
open Go.RowKit
set_option linter.unusedVariables false
set_option linter.unusedSimpArgs false
theorem TurnI.at_ {w W : World} {l : List (Nat × Nat)} {r g n : Nat} (h : TurnI w l r g n W) {j : Nat} {p : Nat × Nat} (hp : l[j]? = some p) (hj : j < n) : W.cell? ⟨g, j, none⟩ = some (.complex .f64 (rot r p).1 (rot r p).2) := by
  obtain ⟨⟨cs, hb, hc⟩, _, _⟩ := h
  rw [hb.cell, hc j p hp, if_pos hj]
theorem num_of (x y : Nat) (v : Int) (b : Bool) (w : World) (h : 4 * tk x + tk y = v) (hb : (ins4 x && ins4 y) = b) : Calls Try.prog 19 #[.complex .f64 x y] w fun e w' => e = .returned (.tuple #[.int .u8 v, .bool b]) ∧ w = w' := by
  have := number_any x y w
  rw [h, hb] at this
  exact this
theorem row3 {w : World} {g cap : Nat} {a b c : Nat × Nat} (hb : Blk w g 27 #[.complex .f64 a.1 a.2, .complex .f64 b.1 b.2, .complex .f64 c.1 c.2]) (h1 : 3 ≤ cap) (h2 : cap ≤ maxLen) : Sl w 27 1 (.slice (some ⟨g, 0, none⟩) 3 cap) 3 (enc [a, b, c]) :=
  ⟨rfl, .inr ⟨g, 0, cap, _, rfl, h1, h2, hb, fun j u hu => by simpa [enc] using hu⟩⟩
def bad3 : List (Nat × Nat) := [(4613937818241073152, 4613937818241073152), (4607182418800017408, 0), (4617315517961601024, 0)]
set_option maxRecDepth 100000 in
set_option maxHeartbeats 1000000 in
theorem Recv_bad (g : Nat) (w : World) (hb : Blk w g 27 #[.complex .f64 4613937818241073152 4613937818241073152, .complex .f64 4607182418800017408 0, .complex .f64 4617315517961601024 0]) : Calls Try.prog 12 #[.slice (some ⟨g, 0, none⟩) 3 3] w fun e w' => e = .returned (.tuple #[.string ⟨#[]⟩, .int .i64 31]) ∧ Fr [] w w' := by
  have c0 := hb.cell 0
  simp at c0
  have HN := Lib.hid fun w => near33 w
  have HX := Lib.hid fun (w : World) h => index33 w.heap.size 4 (w.alloc (.cells #[.complex .f64 4613937818241073152 4613937818241073152, .complex .f64 13837309855095848960 4613937818241073152, .complex .f64 13837309855095848960 13837309855095848960, .complex .f64 4613937818241073152 13837309855095848960] 27)) h (by omega) (by simp [maxLen])
  have HT := Lib.hid (Turn_0 bad3 g 0 3 3 0 (w.alloc (.cells #[.complex .f64 4613937818241073152 4613937818241073152, .complex .f64 13837309855095848960 4613937818241073152, .complex .f64 13837309855095848960 13837309855095848960, .complex .f64 4613937818241073152 13837309855095848960] 27)) ((row3 (a := (_, _)) (b := (_, _)) (c := (_, _)) hb (by omega) (by simp [maxLen])).fr ((Fr.refl [] w).alloc _) (by simp)) (by omega) 0 (by kernel_rfl) (.inl rfl))
  have HM := Lib.hid fun w => num_of 4607182418800017408 0 10 true w (by kernel_rfl) (by kernel_rfl)
  have HK := Lib.hid fun w => num_of 4617315517961601024 0 2 false w (by kernel_rfl) (by kernel_rfl)
  clear hb
  go_enter Try.func12, Try.ntmps12
  go_wp2
  refine wp_scope_jumps 0 (AtEnd w 31) (fun _ _ => 0) rfl ?first ?pass
  case pass =>
    rintro a W ⟨⟨ts⟩, rfl, hs, h5, hf⟩
    refine wp_seq (wp_skip ?_)
    match ts, hs with
    | u0 :: u1 :: u2 :: u3 :: u4 :: u5 :: u6 :: u7 :: u8 :: u9 :: u10 :: u11 :: u12 :: u13 :: u14 :: u15 :: u16 :: u17 :: u18 :: u19 :: u20 :: u21 :: u22 :: u23 :: u24 :: u25 :: u26 :: u27 :: u28 :: u29 :: u30 :: u31 :: u32 :: u33 :: u34 :: u35 :: u36 :: u37 :: u38 :: u39 :: u40 :: u41 :: u42 :: u43 :: u44 :: u45 :: u46 :: u47 :: u48 :: u49 :: u50 :: u51 :: u52 :: u53 :: u54 :: u55 :: u56 :: u57 :: u58 :: u59 :: u60 :: u61 :: u62 :: u63 :: u64 :: u65 :: u66 :: u67 :: u68 :: u69 :: u70 :: u71 :: u72 :: u73 :: u74 :: u75 :: u76 :: u77 :: u78 :: u79 :: u80 :: u81 :: [], _ =>
      have h5' : u5 = .int .i64 31 := h5
      subst h5'
      clear h5
      go_wp2
      unfold Exit.jump
      go_ret2
      exact ⟨rfl, hf⟩
  case first =>
    go_wp2_with fail
    refine (HN.out _).mono ?_
    rintro e w1 ⟨rfl, rfl⟩
    go_wp2_with fail
    refine (HX.out _ (Blk.new _ _ _)).mono ?_
    rintro e w1 ⟨rfl, rfl⟩
    go_wp2_with fail
    refine HT.out.mono ?_
    rintro e w2 ⟨g1, cap1, rfl, hT, -⟩
    have c1 := hT.at_ (j := 1) rfl (by omega)
    have c2 := hT.at_ (j := 2) rfl (by omega)
    simp only [rot] at c1 c2
    have HF := Lib.hid (((Fr.refl [] w).alloc (.cells #[.complex .f64 4613937818241073152 4613937818241073152, .complex .f64 13837309855095848960 4613937818241073152, .complex .f64 13837309855095848960 13837309855095848960, .complex .f64 4613937818241073152 13837309855095848960] 27)).trans hT.fr)
    clear hT
    go_wp2_with fail
    refine wp_loop_rounds 1 ?_
    rw [rounds_succ]
    go_wp2_with fail
    refine (HM.out _).mono ?_
    rintro e w1 ⟨rfl, rfl⟩
    go_wp2_with fail
    refine (HK.out _).mono ?_
    rintro e w1 ⟨rfl, rfl⟩
    go_wp2_with fail
    refine wp_goto ?_
    exact ⟨rfl, _, rfl, rfl, rfl, HF.out⟩
end Go.Proofs.Ytjnefafkpaopaaa
