/- IsaAssembles, walked. -/
import Derived.Test.YtjijhjdemkgpgaaGreatDoorZ16
import Derived.Test.YtjijhjdemkgpgaaGreatDoorI24
namespace Go.Proofs.YtjijhjdemkgpgaaGreatDoor
open Go.RowKit
set_option linter.unusedVariables false
set_option linter.unusedSimpArgs false
set_option maxRecDepth 100000
set_option maxHeartbeats 4000000 in
theorem assembles_walk (s0 : ByteArray) (w : World) (hw : Std w) : Calls Tryz.prog 4 #[.string s0] w fun e w' => e = .returned (.bool true) ∧ Fr [] w w' := by
  have HS := Lib.hid hw
  have HFx := Lib.hid (fun W hW => fixed_any W hW)
  have HAs := Lib.hid (fun W hW => Assemble_any s0 W hW)
  have HAr := Lib.hid (fun W => rAssemble_any s0 W)
  generalize (⟨(asm s0.data.toList).1.toArray⟩ : ByteArray) = T at *
  generalize (((asm s0.data.toList).2.1 : Nat) : Int) = N at *
  generalize (asm s0.data.toList).2.2 = E at *
  have h1 : (T.toList == T.toList) = true := by simp
  have h2 : (E == E) = true := by simp
  have h3 : (N == N) = true := by simp
  clear hw
  go_enter Tryz.func4, Tryz.ntmps4
  go_wp2_with (first
    | (go_at_call 17; refine (HAs.out _ HS.out).mono ?_; rintro e w1 ⟨rfl, hf⟩; have G1 := Lib.hid hf; clear hf)
    | (go_at_call 18; refine (HAr.out _).mono ?_; rintro e w2 ⟨rfl, hf⟩; have G2 := Lib.hid (G1.out.trans hf); clear hf)
    | (go_at_call 14; refine (HFx.out _ (HS.out.fr G2.out)).mono ?_; rintro e w3 ⟨rfl, hf⟩; have G3 := Lib.hid (G2.out.trans hf); clear hf)
    | fail)
  go_ret
  exact ⟨rfl, G3.out⟩
end Go.Proofs.YtjijhjdemkgpgaaGreatDoor
