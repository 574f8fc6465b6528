/- The document's calls, in plain words. -/
import Derived.Test.YtdkihajajdhpnaaW14
namespace Go.Proofs.Ytdkihajajdhpnaa
open Go.RowKit
set_option linter.unusedVariables false
def s6 : ByteArray := ⟨#[97, 98, 99, 100, 101, 102]⟩
def s7 : ByteArray := ⟨#[97, 98, 99, 100, 101, 102, 103]⟩
def s1x : ByteArray := ⟨#[120]⟩
def st0 : St := ⟨2, fun _ => 0⟩
def st1 : St := wrS st0 tab0 250 s6
def st2 : St := stS st1 tab0 0 4 (-2)
theorem f1 : wrE st0 tab0 250 s6 = 0 := by kernel_rfl
theorem f2 : wrE st1 tab0 250 s7 = 81 := by kernel_rfl
theorem f3 : wrE st1 tab0 512 s1x = 82 := by kernel_rfl
theorem f4 : stE st1 tab0 0 4 (-2) = 0 := by kernel_rfl
theorem f5 : layE st2.n 2 0 ⟨#[]⟩ = 83 := by kernel_rfl
theorem f6 : chT st2.n [⟨2, 0⟩] = 84 := by kernel_rfl
theorem f7 : rdR st2 tab0 250 6 1 = ([97, 98, 99, 100, 101, 102], 0) := by kernel_rfl
theorem f8 : ldR st2 tab0 0 4 1 = (4294967294, 0) := by kernel_rfl
theorem f9 : clE st2.n 1 = 0 := by kernel_rfl
theorem f10 : st2.n = 2 := by kernel_rfl
theorem f11 : ((frS st2 1).extract 250 256 == ⟨#[97, 98, 99, 100, 101, 102]⟩) = true := by kernel_rfl
theorem f11' : ((frS st2 1).extract 250 256).toList = [97, 98, 99, 100, 101, 102] := by
  have h : (frS st2 1).extract 250 256 = ⟨#[97, 98, 99, 100, 101, 102]⟩ := by kernel_rfl
  rw [h]
  first | kernel_rfl | decide +kernel | rfl | simp [ByteArray.toList]
theorem f12 : wrS st1 tab0 250 s7 = st1 := by unfold wrS; rw [f2]; rfl
theorem f13 : wrS st1 tab0 512 s1x = st1 := by unfold wrS; rw [f3]; rfl
end Go.Proofs.Ytdkihajajdhpnaa
