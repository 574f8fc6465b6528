/- four, of the program. -/
import Derived.Test.YtjijhjdemkgpgaaGreatDoorI4
namespace Go.Proofs.YtjijhjdemkgpgaaGreatDoor
open Go.RowKit
set_option linter.unusedVariables false
set_option linter.unusedSimpArgs false
set_option maxRecDepth 100000
theorem four_of (n : Nat) : bs4 ((n : Int) / 16777216 % 256) ((n : Int) / 65536 % 256) ((n : Int) / 256 % 256) ((n : Int) % 256) = ⟨(fourB n).toArray⟩ := by
  have e0 : ∀ c0 c1 c2 c3 : Int, bs4 c0 c1 c2 c3 = ⟨#[UInt8.ofNat c0.toNat, UInt8.ofNat c1.toNat, UInt8.ofNat c2.toNat, UInt8.ofNat c3.toNat]⟩ := fun _ _ _ _ => rfl
  have h1 : ((n : Int) / 16777216 % 256).toNat = n / 16777216 % 256 := by omega
  have h2 : ((n : Int) / 65536 % 256).toNat = n / 65536 % 256 := by omega
  have h3 : ((n : Int) / 256 % 256).toNat = n / 256 % 256 := by omega
  have h4 : ((n : Int) % 256).toNat = n % 256 := by omega
  rw [e0, h1, h2, h3, h4]
  rfl
theorem four_any (n : Nat) (hn : n < 9223372036854775808) (w : World) : Calls Tryz.prog 38 #[.int .i64 (n : Int)] w fun e w' => e = .returned (.string ⟨(fourB n).toArray⟩) ∧ Fr [] w w' := by
  have hE := four_of n
  have H0 := Lib.hid (fun o => (Fr.refl [] w).alloc o)
  go_enter Tryz.func38, Tryz.ntmps38
  go_wp2_with fail
  rw [run_str4 (Blk.new w 5 _)]
  rw [hE]
  go_wp2_with fail
  go_ret
  exact ⟨rfl, H0.out _⟩
end Go.Proofs.YtjijhjdemkgpgaaGreatDoor
