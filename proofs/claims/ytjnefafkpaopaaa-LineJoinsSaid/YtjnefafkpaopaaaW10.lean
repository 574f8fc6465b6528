/- Line: Add without noise. -/
import Derived.Test.YtjnefafkpaopaaaW9
namespace Go.Proofs.Ytjnefafkpaopaaa
open Go.RowKit
set_option linter.unusedVariables false
set_option linter.unusedSimpArgs false
theorem Add_nil (l : List (Nat × Nat)) (g o cap n : Nat) (w : World) (h : Sl w 27 1 (.slice (some ⟨g, o, none⟩) n cap) n (enc l)) (hn : n ≤ 4096) (hn0 : 0 < n) :
    Calls Try.prog 15 #[.slice (some ⟨g, o, none⟩) n cap, .slice none 0 0] w (ClP w n (enc l)) := by
  have HC := Lib.hid (cclone_any l g o cap n w h hn)
  have hn1 : (0 : Int) < (n : Int) := by omega
  clear h
  go_enter Try.func15, Try.ntmps15
  go_wp2_with fail
  refine HC.out.mono ?_
  rintro e w1 ⟨g1, cap1, cs1, rfl, hb1, hc1, hf1, hg1, hcp⟩
  have HCP := Lib.hid hcp
  clear hcp
  go_wp2_with fail
  go_loopg [13] 0 (fun gg i wr => i = .int .i64 0 ∧ wr = w1)
  case atStart => exact ⟨rfl, rfl⟩
  case round =>
    obtain ⟨rfl, rfl⟩ := hrel
    go_wp2_with fail
    go_ret
    exact ⟨g1, cap1, cs1, rfl, hb1, hc1, hf1, hg1, HCP.out⟩
end Go.Proofs.Ytjnefafkpaopaaa
