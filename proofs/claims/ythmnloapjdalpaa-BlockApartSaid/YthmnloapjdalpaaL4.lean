/- The law's fixed calls on a disk. -/
import Derived.Test.YthmnloapjdalpaaL3
namespace Go.Proofs.Ythmnloapjdalpaa
open Go.RowKit
set_option linter.unusedVariables false
set_option linter.unusedSimpArgs false
def AAA : ByteArray := ⟨#[65, 65, 65]⟩
def F0 : Dk := newD (zeros 256)
def F1 : Dk := F0.writeS 1 (allB 65)
def F2 : Dk := F1.flushS 1 1
def F3 : Dk := F2.armS 2 []
def F4 : Dk := F3.writeS 0 (allB 66)
def F5 : Dk := F4.flushS 0 1
def F6 : Dk := F5.revive
theorem fx_new : newE (zeros 256) = 0 := by kernel_rfl
theorem fx_n : F0.n = 2 := by kernel_rfl
theorem fx_w1 : F0.writeE 1 (allB 65) = 0 := by kernel_rfl
theorem fx_w2 : F1.writeE 2 (allB 65) = 71 := by kernel_rfl
theorem fx_w2' : F1.writeE0 2 (allB 65) = 71 := by kernel_rfl
theorem fx_w2S : F1.writeS 2 (allB 65) = F1 := by unfold Dk.writeS; rw [fx_w2']; exact if_neg (by decide)
theorem fx_wait : F1.waiting.length = 1 := by kernel_rfl
theorem fx_after : F1.after [0, 3] = zeros 128 ++ AAA ++ zeros 125 := by kernel_rfl
theorem fx_f1 : F1.flushE 0 3 = 71 := by kernel_rfl
theorem fx_f1' : F1.flushE0 0 3 = 71 := by kernel_rfl
theorem fx_f1S : F1.flushS 0 3 = F1 := by unfold Dk.flushS; rw [fx_f1']; exact if_neg (by decide)
theorem fx_f2 : F1.flushE 1 1 = 0 := by kernel_rfl
theorem fx_arm : F2.armE 2 = 0 := by kernel_rfl
theorem fx_w3 : F3.writeE 0 (allB 66) = 0 := by kernel_rfl
theorem fx_f3 : F4.flushE 0 1 = 2 := by kernel_rfl
theorem fx_r1 : F5.readE 0 = 2 := by kernel_rfl
theorem fx_r2 : F6.readE 0 = 0 := by kernel_rfl
theorem fx_v2 : F6.readV 0 = zeros 128 := by kernel_rfl
theorem fx_im : F6.image = zeros 128 ++ allB 65 := by kernel_rfl
theorem fx_sf : F6.safe = F6.image := by kernel_rfl
theorem zeros_size (n : Nat) : (zeros n).size = n := bs_size _ _ _
end Go.Proofs.Ythmnloapjdalpaa
