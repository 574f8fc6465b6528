/- The block law's fixed calls: plain facts. -/
import Derived.Test.YthmnloapjdalpaaD6
namespace Go.Proofs.Ythmnloapjdalpaa
open Go.RowKit
set_option linter.unusedVariables false
def tA : ByteArray := ⟨#[97]⟩
def G0 : Dk := newD (zeros 256)
def b0 : Bv := newB 0 2 1
def G1 : Dk := b0.writeD G0 0 tA 5
def b1 : Bv := b0.writeB G0 0 tA 5
def b2 : Bv := b1.readB G1 0
def b3 : Bv := b2.readB G1 1
def b4 : Bv := b3.readB G1 2
def G2 : Dk := b4.barrierD G1
theorem gx_new : newBE G0 0 2 1 = 0 := by kernel_rfl
theorem gx_w : b0.writeE G0 0 tA 5 = 0 := by kernel_rfl
theorem gx_r0 : b1.readV G1 0 = .tuple #[.string (tA ++ zeros 115), .int .i64 5, .int .i64 0] := by kernel_rfl
theorem gx_p : parseE (G1.sec 1) = 153 := by kernel_rfl
theorem gx_f1 : b2.find 1 = none := by kernel_rfl
theorem gx_a1 : askedE b2 G1 1 = 0 := by kernel_rfl
theorem gx_bf : b2.first + (1 : Int).toNat = 1 := by kernel_rfl
theorem gx_r1 : b2.readV G1 1 = .tuple #[.string ⟨#[]⟩, .int .i64 0, .int .i64 153] := by
  have h := parseR_bad gx_p (by decide)
  unfold Bv.readV
  rw [if_neg (by rw [gx_a1]; decide), gx_f1]
  simp only []
  rw [gx_bf]
  exact h
theorem gx_b3 : b3 = b2.miss := by
  show b2.readB G1 1 = _
  unfold Bv.readB
  rw [if_neg (by rw [gx_a1]; decide), gx_f1]
  simp only []
  rw [gx_bf, gx_p]
  exact if_neg (by decide)
theorem gx_a2 : askedE b3 G1 2 = 151 := by rw [gx_b3]; kernel_rfl
theorem gx_r2 : b3.readV G1 2 = .tuple #[.string ⟨#[]⟩, .int .i64 0, .int .i64 151] := by
  unfold Bv.readV
  rw [gx_a2]
  exact if_pos (by decide)
theorem gx_b4 : b4 = b2.miss := by
  show b3.readB G1 2 = _
  unfold Bv.readB
  rw [gx_a2, if_pos (by decide), gx_b3]
theorem gx_m2 : b2.misses = 0 := by kernel_rfl
theorem gx_m3 : b3.misses = 1 := by rw [gx_b3]; kernel_rfl
theorem gx_m4 : b4.misses = 1 := by rw [gx_b4]; kernel_rfl
theorem gx_st : b4.stampV G1 1 = .tuple #[.int .i64 0, .int .i64 0] := by rw [gx_b4]; kernel_rfl
theorem gx_b1 : bytesE ⟨#[]⟩ 1 = 0 := by kernel_rfl
theorem gx_bs : (bytesV ⟨#[]⟩ 1).size = 128 := bytesV_ok gx_b1
theorem gx_b7 : at8 (bytesV ⟨#[]⟩ 1) 127 = 1 := by kernel_rfl
theorem gx_b2 : bytesE (zeros 117) 0 = 152 := by kernel_rfl
theorem gx_ba : b4.barrierE G1 = 0 := by rw [gx_b4]; kernel_rfl
end Go.Proofs.Ythmnloapjdalpaa
