/- Line: Receive on a row of even length. -/
import Derived.Test.YtjnefafkpaopaaaW11
namespace Go.Proofs.Ytjnefafkpaopaaa
open Go.RowKit
set_option linter.unusedVariables false
set_option linter.unusedSimpArgs false
set_option maxRecDepth 100000 in
set_option maxHeartbeats 1000000 in
theorem Recv_two (g cap : Nat) (w : World) (hb : Blk w g 27 #[.complex .f64 4613937818241073152 4613937818241073152, .complex .f64 4607182418800017408 0]) : Calls Try.prog 12 #[.slice (some ⟨g, 0, none⟩) 2 cap] w fun e w' => e = .returned (.tuple #[.string ⟨#[]⟩, .int .i64 30]) ∧ Fr [] w w' := by
  have c0 := hb.cell 0
  simp at c0
  have HN := Lib.hid fun w => near33 w
  have HX := Lib.hid fun (w : World) h => index33 w.heap.size 4 (w.alloc (.cells #[.complex .f64 4613937818241073152 4613937818241073152, .complex .f64 13837309855095848960 4613937818241073152, .complex .f64 13837309855095848960 13837309855095848960, .complex .f64 4613937818241073152 13837309855095848960] 27)) h (by omega) (by simp [maxLen])
  clear hb
  go_enter Try.func12, Try.ntmps12
  go_wp2
  refine wp_scope_jumps 0 (AtEnd w 30) (fun _ _ => 0) rfl ?first ?pass
  case pass =>
    rintro a W ⟨⟨ts⟩, rfl, hs, h5, hf⟩
    refine wp_seq (wp_skip ?_)
    match ts, hs with
    | u0 :: u1 :: u2 :: u3 :: u4 :: u5 :: u6 :: u7 :: u8 :: u9 :: u10 :: u11 :: u12 :: u13 :: u14 :: u15 :: u16 :: u17 :: u18 :: u19 :: u20 :: u21 :: u22 :: u23 :: u24 :: u25 :: u26 :: u27 :: u28 :: u29 :: u30 :: u31 :: u32 :: u33 :: u34 :: u35 :: u36 :: u37 :: u38 :: u39 :: u40 :: u41 :: u42 :: u43 :: u44 :: u45 :: u46 :: u47 :: u48 :: u49 :: u50 :: u51 :: u52 :: u53 :: u54 :: u55 :: u56 :: u57 :: u58 :: u59 :: u60 :: u61 :: u62 :: u63 :: u64 :: u65 :: u66 :: u67 :: u68 :: u69 :: u70 :: u71 :: u72 :: u73 :: u74 :: u75 :: u76 :: u77 :: u78 :: u79 :: u80 :: u81 :: [], _ =>
      have h5' : u5 = .int .i64 30 := h5
      subst h5'
      clear h5
      go_wp2
      unfold Exit.jump
      go_ret2
      exact ⟨rfl, hf⟩
  case first =>
    go_wp2_with fail
    refine (HN.out _).mono ?_
    rintro e w1 ⟨rfl, rfl⟩
    go_wp2_with fail
    refine (HX.out _ (Blk.new _ _ _)).mono ?_
    rintro e w1 ⟨rfl, rfl⟩
    go_wp2_with fail
    refine wp_goto ?_
    exact ⟨rfl, _, rfl, rfl, rfl, (Fr.refl _ _).alloc _⟩
end Go.Proofs.Ytjnefafkpaopaaa
