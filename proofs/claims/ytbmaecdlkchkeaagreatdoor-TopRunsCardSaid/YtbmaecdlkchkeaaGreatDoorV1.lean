/- The machine: reckonings of two registers. -/
import Derived.Test.YtbmaecdlkchkeaaGreatDoorW6
namespace Go.Proofs.YtbmaecdlkchkeaaGreatDoor
open Go.RowKit
set_option linter.unusedVariables false
set_option linter.unusedSimpArgs false
set_option maxRecDepth 100000
def shlV (a b : Int) : Int := IntKind.u32.wrap (a * 2 ^ (b % 32).toNat)
def shrV (a b : Int) : Int := a / 2 ^ (b % 32).toNat
def flagV (b : Bool) : Int := if b then 1 else 0
theorem shl_run {P : Program} {w : World} (a b : Int) (hb : 0 ≤ b) : (Op.shift .shl .u32 a .u32 (b.tmod 32)).run P w = .ok (.int .u32 (shlV a b)) w := by
  have h1 : b.tmod 32 = b % 32 := Int.tmod_eq_emod_of_nonneg hb
  have h2 : 0 ≤ b % 32 ∧ b % 32 < 32 := by omega
  rw [h1]
  unfold shlV
  generalize b % 32 = c at *
  obtain ⟨n, rfl⟩ := Int.eq_ofNat_of_zero_le h2.1
  have h3 : ¬ (n : Int) < 0 := by omega
  have h4 : min n 32 = n := by omega
  simp [Op.shift, Sem.run, IntKind.bits, h3, h4]
theorem shr_run {P : Program} {w : World} (a b : Int) (hb : 0 ≤ b) (ha0 : 0 ≤ a) (ha : a < 4294967296) : (Op.shift .shr .u32 a .u32 (b.tmod 32)).run P w = .ok (.int .u32 (shrV a b)) w := by
  have h1 : b.tmod 32 = b % 32 := Int.tmod_eq_emod_of_nonneg hb
  have h2 : 0 ≤ b % 32 ∧ b % 32 < 32 := by omega
  rw [h1]
  unfold shrV
  generalize b % 32 = c at *
  obtain ⟨n, rfl⟩ := Int.eq_ofNat_of_zero_le h2.1
  have h3 : ¬ (n : Int) < 0 := by omega
  have h4 : min n 32 = n := by omega
  simp [Op.shift, Sem.run, IntKind.bits, h3, h4]
/-- A reckoning of two registers, by the operation's number. -/
def sumV (k : Nat) (a b : Int) : Int :=
  match k with
  | 4 => b
  | 5 => (a + b) % 4294967296
  | 6 => (a - b) % 4294967296
  | 7 => a * b % 4294967296
  | 10 => bits .and .u32 a b
  | 11 => bits .or .u32 a b
  | 12 => bits .xor .u32 a b
  | 13 => bits .xor .u32 IntKind.u32.max a
  | 14 => shlV a b
  | 15 => shrV a b
  | 16 => flagV (decide (wrap32 a < wrap32 b))
  | 17 => flagV (decide (a < b))
  | 18 => flagV (decide (a = b))
  | _ => 0
def sumF (k : Nat) : Nat :=
  match k with
  | 4 => 63
  | 5 => 64
  | 6 => 65
  | 7 => 66
  | 10 => 67
  | 11 => 68
  | 12 => 69
  | 13 => 70
  | 14 => 71
  | 15 => 72
  | 16 => 73
  | 17 => 75
  | 18 => 76
  | _ => 0
def isSum (k : Nat) : Prop := k = 4 ∨ k = 5 ∨ k = 6 ∨ k = 7 ∨ k = 10 ∨ k = 11 ∨ k = 12 ∨ k = 13 ∨ k = 14 ∨ k = 15 ∨ k = 16 ∨ k = 17 ∨ k = 18
theorem flag_any (b : Bool) (w : World) : Calls Tryz.prog 74 #[.bool b] w fun e w' => e = .returned (.int .u32 (flagV b)) ∧ w = w' := by
  cases b <;> (
    unfold flagV
    simp only [Bool.false_eq_true, if_true, if_false]
    go_enter Tryz.func74, Tryz.ntmps74
    go_wp2
    go_ret
    exact ⟨rfl, rfl⟩)
theorem sum_4 (a b : Int) (ha0 : 0 ≤ a) (ha : a < 4294967296) (hb0 : 0 ≤ b) (hb : b < 4294967296) (w : World) : Calls Tryz.prog 63 #[.int .u32 a, .int .u32 b] w fun e w' => e = .returned (.int .u32 (sumV 4 a b)) ∧ w = w' := by
  show Calls _ _ _ _ fun e w' => e = .returned (.int .u32 (b)) ∧ w = w'
  go_enter Tryz.func63, Tryz.ntmps63
  go_wp2
  go_ret
  exact ⟨rfl, rfl⟩
theorem sum_5 (a b : Int) (ha0 : 0 ≤ a) (ha : a < 4294967296) (hb0 : 0 ≤ b) (hb : b < 4294967296) (w : World) : Calls Tryz.prog 64 #[.int .u32 a, .int .u32 b] w fun e w' => e = .returned (.int .u32 (sumV 5 a b)) ∧ w = w' := by
  show Calls _ _ _ _ fun e w' => e = .returned (.int .u32 ((a + b) % 4294967296)) ∧ w = w'
  go_enter Tryz.func64, Tryz.ntmps64
  go_wp2
  go_ret
  exact ⟨rfl, rfl⟩
theorem sum_6 (a b : Int) (ha0 : 0 ≤ a) (ha : a < 4294967296) (hb0 : 0 ≤ b) (hb : b < 4294967296) (w : World) : Calls Tryz.prog 65 #[.int .u32 a, .int .u32 b] w fun e w' => e = .returned (.int .u32 (sumV 6 a b)) ∧ w = w' := by
  show Calls _ _ _ _ fun e w' => e = .returned (.int .u32 ((a - b) % 4294967296)) ∧ w = w'
  go_enter Tryz.func65, Tryz.ntmps65
  go_wp2
  go_ret
  exact ⟨rfl, rfl⟩
theorem sum_7 (a b : Int) (ha0 : 0 ≤ a) (ha : a < 4294967296) (hb0 : 0 ≤ b) (hb : b < 4294967296) (w : World) : Calls Tryz.prog 66 #[.int .u32 a, .int .u32 b] w fun e w' => e = .returned (.int .u32 (sumV 7 a b)) ∧ w = w' := by
  show Calls _ _ _ _ fun e w' => e = .returned (.int .u32 (a * b % 4294967296)) ∧ w = w'
  go_enter Tryz.func66, Tryz.ntmps66
  go_wp2
  go_ret
  exact ⟨rfl, rfl⟩
theorem sum_10 (a b : Int) (ha0 : 0 ≤ a) (ha : a < 4294967296) (hb0 : 0 ≤ b) (hb : b < 4294967296) (w : World) : Calls Tryz.prog 67 #[.int .u32 a, .int .u32 b] w fun e w' => e = .returned (.int .u32 (sumV 10 a b)) ∧ w = w' := by
  show Calls _ _ _ _ fun e w' => e = .returned (.int .u32 (bits .and .u32 a b)) ∧ w = w'
  go_enter Tryz.func67, Tryz.ntmps67
  go_wp2
  go_ret
  exact ⟨rfl, rfl⟩
theorem sum_11 (a b : Int) (ha0 : 0 ≤ a) (ha : a < 4294967296) (hb0 : 0 ≤ b) (hb : b < 4294967296) (w : World) : Calls Tryz.prog 68 #[.int .u32 a, .int .u32 b] w fun e w' => e = .returned (.int .u32 (sumV 11 a b)) ∧ w = w' := by
  show Calls _ _ _ _ fun e w' => e = .returned (.int .u32 (bits .or .u32 a b)) ∧ w = w'
  go_enter Tryz.func68, Tryz.ntmps68
  go_wp2
  go_ret
  exact ⟨rfl, rfl⟩
theorem sum_12 (a b : Int) (ha0 : 0 ≤ a) (ha : a < 4294967296) (hb0 : 0 ≤ b) (hb : b < 4294967296) (w : World) : Calls Tryz.prog 69 #[.int .u32 a, .int .u32 b] w fun e w' => e = .returned (.int .u32 (sumV 12 a b)) ∧ w = w' := by
  show Calls _ _ _ _ fun e w' => e = .returned (.int .u32 (bits .xor .u32 a b)) ∧ w = w'
  go_enter Tryz.func69, Tryz.ntmps69
  go_wp2
  go_ret
  exact ⟨rfl, rfl⟩
theorem sum_13 (a b : Int) (ha0 : 0 ≤ a) (ha : a < 4294967296) (hb0 : 0 ≤ b) (hb : b < 4294967296) (w : World) : Calls Tryz.prog 70 #[.int .u32 a, .int .u32 b] w fun e w' => e = .returned (.int .u32 (sumV 13 a b)) ∧ w = w' := by
  show Calls _ _ _ _ fun e w' => e = .returned (.int .u32 (bits .xor .u32 IntKind.u32.max a)) ∧ w = w'
  go_enter Tryz.func70, Tryz.ntmps70
  go_wp2
  go_ret
  exact ⟨rfl, rfl⟩
theorem sum_14 (a b : Int) (ha0 : 0 ≤ a) (ha : a < 4294967296) (hb0 : 0 ≤ b) (hb : b < 4294967296) (w : World) : Calls Tryz.prog 71 #[.int .u32 a, .int .u32 b] w fun e w' => e = .returned (.int .u32 (sumV 14 a b)) ∧ w = w' := by
  show Calls _ _ _ _ fun e w' => e = .returned (.int .u32 (shlV a b)) ∧ w = w'
  have hs := fun W => shl_run (P := Tryz.prog) (w := W) a b hb0
  go_enter Tryz.func71, Tryz.ntmps71
  go_wp2
  go_ret
  exact ⟨rfl, rfl⟩
theorem sum_15 (a b : Int) (ha0 : 0 ≤ a) (ha : a < 4294967296) (hb0 : 0 ≤ b) (hb : b < 4294967296) (w : World) : Calls Tryz.prog 72 #[.int .u32 a, .int .u32 b] w fun e w' => e = .returned (.int .u32 (sumV 15 a b)) ∧ w = w' := by
  show Calls _ _ _ _ fun e w' => e = .returned (.int .u32 (shrV a b)) ∧ w = w'
  have hs := fun W => shr_run (P := Tryz.prog) (w := W) a b hb0 ha0 ha
  go_enter Tryz.func72, Tryz.ntmps72
  go_wp2
  go_ret
  exact ⟨rfl, rfl⟩
theorem sum_16 (a b : Int) (ha0 : 0 ≤ a) (ha : a < 4294967296) (hb0 : 0 ≤ b) (hb : b < 4294967296) (w : World) : Calls Tryz.prog 73 #[.int .u32 a, .int .u32 b] w fun e w' => e = .returned (.int .u32 (sumV 16 a b)) ∧ w = w' := by
  show Calls _ _ _ _ fun e w' => e = .returned (.int .u32 (flagV (decide (wrap32 a < wrap32 b)))) ∧ w = w'
  have H := Lib.hid (fun W => flag_any (decide (wrap32 a < wrap32 b)) W)
  go_enter Tryz.func73, Tryz.ntmps73
  go_wp2_with (go_at_call 74; refine (H.out _).mono ?_; rintro e w1 ⟨rfl, rfl⟩)
  go_ret
  exact ⟨rfl, rfl⟩
theorem sum_17 (a b : Int) (ha0 : 0 ≤ a) (ha : a < 4294967296) (hb0 : 0 ≤ b) (hb : b < 4294967296) (w : World) : Calls Tryz.prog 75 #[.int .u32 a, .int .u32 b] w fun e w' => e = .returned (.int .u32 (sumV 17 a b)) ∧ w = w' := by
  show Calls _ _ _ _ fun e w' => e = .returned (.int .u32 (flagV (decide (a < b)))) ∧ w = w'
  have H := Lib.hid (fun W => flag_any (decide (a < b)) W)
  go_enter Tryz.func75, Tryz.ntmps75
  go_wp2_with (go_at_call 74; refine (H.out _).mono ?_; rintro e w1 ⟨rfl, rfl⟩)
  go_ret
  exact ⟨rfl, rfl⟩
theorem sum_18 (a b : Int) (ha0 : 0 ≤ a) (ha : a < 4294967296) (hb0 : 0 ≤ b) (hb : b < 4294967296) (w : World) : Calls Tryz.prog 76 #[.int .u32 a, .int .u32 b] w fun e w' => e = .returned (.int .u32 (sumV 18 a b)) ∧ w = w' := by
  show Calls _ _ _ _ fun e w' => e = .returned (.int .u32 (flagV (decide (a = b)))) ∧ w = w'
  have H := Lib.hid (fun W => flag_any (decide (a = b)) W)
  have hd : (a == b) = decide (a = b) := by by_cases h : a = b <;> simp [h]
  go_enter Tryz.func76, Tryz.ntmps76
  go_wp2_with (go_at_call 74; refine (H.out _).mono ?_; rintro e w1 ⟨rfl, rfl⟩)
  go_ret
  exact ⟨rfl, rfl⟩
set_option maxHeartbeats 2000000 in
theorem sums_4 (w : World) : Calls Tryz.prog 43 #[.int .i64 4] w fun e w' => e = .returned (.func (.func 63) #[] #[]) ∧ Fr [] w w' := by
  have HF := Lib.hid (fun o => (Fr.refl [] w).alloc o)
  go_enter Tryz.func43, Tryz.ntmps43
  go_wp2
  go_ret
  exact ⟨rfl, HF.out _⟩
set_option maxHeartbeats 2000000 in
theorem sums_5 (w : World) : Calls Tryz.prog 43 #[.int .i64 5] w fun e w' => e = .returned (.func (.func 64) #[] #[]) ∧ Fr [] w w' := by
  have HF := Lib.hid (fun o => (Fr.refl [] w).alloc o)
  go_enter Tryz.func43, Tryz.ntmps43
  go_wp2
  go_ret
  exact ⟨rfl, HF.out _⟩
set_option maxHeartbeats 2000000 in
theorem sums_6 (w : World) : Calls Tryz.prog 43 #[.int .i64 6] w fun e w' => e = .returned (.func (.func 65) #[] #[]) ∧ Fr [] w w' := by
  have HF := Lib.hid (fun o => (Fr.refl [] w).alloc o)
  go_enter Tryz.func43, Tryz.ntmps43
  go_wp2
  go_ret
  exact ⟨rfl, HF.out _⟩
set_option maxHeartbeats 2000000 in
theorem sums_7 (w : World) : Calls Tryz.prog 43 #[.int .i64 7] w fun e w' => e = .returned (.func (.func 66) #[] #[]) ∧ Fr [] w w' := by
  have HF := Lib.hid (fun o => (Fr.refl [] w).alloc o)
  go_enter Tryz.func43, Tryz.ntmps43
  go_wp2
  go_ret
  exact ⟨rfl, HF.out _⟩
set_option maxHeartbeats 2000000 in
theorem sums_10 (w : World) : Calls Tryz.prog 43 #[.int .i64 10] w fun e w' => e = .returned (.func (.func 67) #[] #[]) ∧ Fr [] w w' := by
  have HF := Lib.hid (fun o => (Fr.refl [] w).alloc o)
  go_enter Tryz.func43, Tryz.ntmps43
  go_wp2
  go_ret
  exact ⟨rfl, HF.out _⟩
set_option maxHeartbeats 2000000 in
theorem sums_11 (w : World) : Calls Tryz.prog 43 #[.int .i64 11] w fun e w' => e = .returned (.func (.func 68) #[] #[]) ∧ Fr [] w w' := by
  have HF := Lib.hid (fun o => (Fr.refl [] w).alloc o)
  go_enter Tryz.func43, Tryz.ntmps43
  go_wp2
  go_ret
  exact ⟨rfl, HF.out _⟩
set_option maxHeartbeats 2000000 in
theorem sums_12 (w : World) : Calls Tryz.prog 43 #[.int .i64 12] w fun e w' => e = .returned (.func (.func 69) #[] #[]) ∧ Fr [] w w' := by
  have HF := Lib.hid (fun o => (Fr.refl [] w).alloc o)
  go_enter Tryz.func43, Tryz.ntmps43
  go_wp2
  go_ret
  exact ⟨rfl, HF.out _⟩
set_option maxHeartbeats 2000000 in
theorem sums_13 (w : World) : Calls Tryz.prog 43 #[.int .i64 13] w fun e w' => e = .returned (.func (.func 70) #[] #[]) ∧ Fr [] w w' := by
  have HF := Lib.hid (fun o => (Fr.refl [] w).alloc o)
  go_enter Tryz.func43, Tryz.ntmps43
  go_wp2
  go_ret
  exact ⟨rfl, HF.out _⟩
set_option maxHeartbeats 2000000 in
theorem sums_14 (w : World) : Calls Tryz.prog 43 #[.int .i64 14] w fun e w' => e = .returned (.func (.func 71) #[] #[]) ∧ Fr [] w w' := by
  have HF := Lib.hid (fun o => (Fr.refl [] w).alloc o)
  go_enter Tryz.func43, Tryz.ntmps43
  go_wp2
  go_ret
  exact ⟨rfl, HF.out _⟩
set_option maxHeartbeats 2000000 in
theorem sums_15 (w : World) : Calls Tryz.prog 43 #[.int .i64 15] w fun e w' => e = .returned (.func (.func 72) #[] #[]) ∧ Fr [] w w' := by
  have HF := Lib.hid (fun o => (Fr.refl [] w).alloc o)
  go_enter Tryz.func43, Tryz.ntmps43
  go_wp2
  go_ret
  exact ⟨rfl, HF.out _⟩
set_option maxHeartbeats 2000000 in
theorem sums_16 (w : World) : Calls Tryz.prog 43 #[.int .i64 16] w fun e w' => e = .returned (.func (.func 73) #[] #[]) ∧ Fr [] w w' := by
  have HF := Lib.hid (fun o => (Fr.refl [] w).alloc o)
  go_enter Tryz.func43, Tryz.ntmps43
  go_wp2
  go_ret
  exact ⟨rfl, HF.out _⟩
set_option maxHeartbeats 2000000 in
theorem sums_17 (w : World) : Calls Tryz.prog 43 #[.int .i64 17] w fun e w' => e = .returned (.func (.func 75) #[] #[]) ∧ Fr [] w w' := by
  have HF := Lib.hid (fun o => (Fr.refl [] w).alloc o)
  go_enter Tryz.func43, Tryz.ntmps43
  go_wp2
  go_ret
  exact ⟨rfl, HF.out _⟩
set_option maxHeartbeats 2000000 in
theorem sums_18 (w : World) : Calls Tryz.prog 43 #[.int .i64 18] w fun e w' => e = .returned (.func (.func 76) #[] #[]) ∧ Fr [] w w' := by
  have HF := Lib.hid (fun o => (Fr.refl [] w).alloc o)
  go_enter Tryz.func43, Tryz.ntmps43
  go_wp2
  go_ret
  exact ⟨rfl, HF.out _⟩
theorem sums_any (k : Nat) (hk : isSum k) (w : World) : Calls Tryz.prog 43 #[.int .i64 (k : Int)] w fun e w' => e = .returned (.func (.func (sumF k)) #[] #[]) ∧ Fr [] w w' := by
  rcases hk with rfl | rfl | rfl | rfl | rfl | rfl | rfl | rfl | rfl | rfl | rfl | rfl | rfl
  · exact sums_4 w
  · exact sums_5 w
  · exact sums_6 w
  · exact sums_7 w
  · exact sums_10 w
  · exact sums_11 w
  · exact sums_12 w
  · exact sums_13 w
  · exact sums_14 w
  · exact sums_15 w
  · exact sums_16 w
  · exact sums_17 w
  · exact sums_18 w
theorem sum_any (k : Nat) (hk : isSum k) (a b : Int) (ha0 : 0 ≤ a) (ha : a < 4294967296) (hb0 : 0 ≤ b) (hb : b < 4294967296) (w : World) : Calls Tryz.prog (sumF k) #[.int .u32 a, .int .u32 b] w fun e w' => e = .returned (.int .u32 (sumV k a b)) ∧ w = w' := by
  rcases hk with rfl | rfl | rfl | rfl | rfl | rfl | rfl | rfl | rfl | rfl | rfl | rfl | rfl
  · exact sum_4 a b ha0 ha hb0 hb w
  · exact sum_5 a b ha0 ha hb0 hb w
  · exact sum_6 a b ha0 ha hb0 hb w
  · exact sum_7 a b ha0 ha hb0 hb w
  · exact sum_10 a b ha0 ha hb0 hb w
  · exact sum_11 a b ha0 ha hb0 hb w
  · exact sum_12 a b ha0 ha hb0 hb w
  · exact sum_13 a b ha0 ha hb0 hb w
  · exact sum_14 a b ha0 ha hb0 hb w
  · exact sum_15 a b ha0 ha hb0 hb w
  · exact sum_16 a b ha0 ha hb0 hb w
  · exact sum_17 a b ha0 ha hb0 hb w
  · exact sum_18 a b ha0 ha hb0 hb w
end Go.Proofs.YtbmaecdlkchkeaaGreatDoor
