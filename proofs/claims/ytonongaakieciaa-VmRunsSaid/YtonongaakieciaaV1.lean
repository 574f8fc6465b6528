/- The machine: reckonings of two registers. -/
import Derived.Test.YtonongaakieciaaW1
namespace Go.Proofs.Ytonongaakieciaa
open Go.RowKit
set_option linter.unusedVariables false
set_option linter.unusedSimpArgs false
set_option maxRecDepth 100000
def shlV (a b : Int) : Int := IntKind.u32.wrap (a * 2 ^ (b % 32).toNat)
def shrV (a b : Int) : Int := a / 2 ^ (b % 32).toNat
def flagV (b : Bool) : Int := if b then 1 else 0
theorem shl_run {P : Program} {w : World} (a b : Int) (hb : 0 ≤ b) : (Op.shift .shl .u32 a .u32 (b.tmod 32)).run P w = .ok (.int .u32 (shlV a b)) w := by
  have h1 : b.tmod 32 = b % 32 := Int.tmod_eq_emod_of_nonneg hb
  have h2 : 0 ≤ b % 32 ∧ b % 32 < 32 := by omega
  rw [h1]
  unfold shlV
  generalize b % 32 = c at *
  obtain ⟨n, rfl⟩ := Int.eq_ofNat_of_zero_le h2.1
  have h3 : ¬ (n : Int) < 0 := by omega
  have h4 : min n 32 = n := by omega
  simp [Op.shift, Sem.run, IntKind.bits, h3, h4]
theorem shr_run {P : Program} {w : World} (a b : Int) (hb : 0 ≤ b) (ha0 : 0 ≤ a) (ha : a < 4294967296) : (Op.shift .shr .u32 a .u32 (b.tmod 32)).run P w = .ok (.int .u32 (shrV a b)) w := by
  have h1 : b.tmod 32 = b % 32 := Int.tmod_eq_emod_of_nonneg hb
  have h2 : 0 ≤ b % 32 ∧ b % 32 < 32 := by omega
  rw [h1]
  unfold shrV
  generalize b % 32 = c at *
  obtain ⟨n, rfl⟩ := Int.eq_ofNat_of_zero_le h2.1
  have h3 : ¬ (n : Int) < 0 := by omega
  have h4 : min n 32 = n := by omega
  simp [Op.shift, Sem.run, IntKind.bits, h3, h4]
/-- A reckoning of two registers, by the operation's number. -/
def sumV (k : Nat) (a b : Int) : Int :=
  match k with
  | 4 => b
  | 5 => (a + b) % 4294967296
  | 6 => (a - b) % 4294967296
  | 7 => a * b % 4294967296
  | 10 => bits .and .u32 a b
  | 11 => bits .or .u32 a b
  | 12 => bits .xor .u32 a b
  | 13 => bits .xor .u32 IntKind.u32.max a
  | 14 => shlV a b
  | 15 => shrV a b
  | 16 => flagV (decide (wrap32 a < wrap32 b))
  | 17 => flagV (decide (a < b))
  | 18 => flagV (decide (a = b))
  | _ => 0
def sumF (k : Nat) : Nat :=
  match k with
  | 4 => 96
  | 5 => 97
  | 6 => 98
  | 7 => 99
  | 10 => 100
  | 11 => 101
  | 12 => 102
  | 13 => 103
  | 14 => 104
  | 15 => 105
  | 16 => 106
  | 17 => 108
  | 18 => 109
  | _ => 0
def isSum (k : Nat) : Prop := k = 4 ∨ k = 5 ∨ k = 6 ∨ k = 7 ∨ k = 10 ∨ k = 11 ∨ k = 12 ∨ k = 13 ∨ k = 14 ∨ k = 15 ∨ k = 16 ∨ k = 17 ∨ k = 18
theorem flag_any (b : Bool) (w : World) : Calls Try.prog 107 #[.bool b] w fun e w' => e = .returned (.int .u32 (flagV b)) ∧ w = w' := by
  cases b <;> (
    unfold flagV
    simp only [Bool.false_eq_true, if_true, if_false]
    go_enter Try.func107, Try.ntmps107
    go_wp2
    go_ret
    exact ⟨rfl, rfl⟩)
theorem sum_4 (a b : Int) (ha0 : 0 ≤ a) (ha : a < 4294967296) (hb0 : 0 ≤ b) (hb : b < 4294967296) (w : World) : Calls Try.prog 96 #[.int .u32 a, .int .u32 b] w fun e w' => e = .returned (.int .u32 (sumV 4 a b)) ∧ w = w' := by
  show Calls _ _ _ _ fun e w' => e = .returned (.int .u32 (b)) ∧ w = w'
  go_enter Try.func96, Try.ntmps96
  go_wp2
  go_ret
  exact ⟨rfl, rfl⟩
theorem sum_5 (a b : Int) (ha0 : 0 ≤ a) (ha : a < 4294967296) (hb0 : 0 ≤ b) (hb : b < 4294967296) (w : World) : Calls Try.prog 97 #[.int .u32 a, .int .u32 b] w fun e w' => e = .returned (.int .u32 (sumV 5 a b)) ∧ w = w' := by
  show Calls _ _ _ _ fun e w' => e = .returned (.int .u32 ((a + b) % 4294967296)) ∧ w = w'
  go_enter Try.func97, Try.ntmps97
  go_wp2
  go_ret
  exact ⟨rfl, rfl⟩
theorem sum_6 (a b : Int) (ha0 : 0 ≤ a) (ha : a < 4294967296) (hb0 : 0 ≤ b) (hb : b < 4294967296) (w : World) : Calls Try.prog 98 #[.int .u32 a, .int .u32 b] w fun e w' => e = .returned (.int .u32 (sumV 6 a b)) ∧ w = w' := by
  show Calls _ _ _ _ fun e w' => e = .returned (.int .u32 ((a - b) % 4294967296)) ∧ w = w'
  go_enter Try.func98, Try.ntmps98
  go_wp2
  go_ret
  exact ⟨rfl, rfl⟩
theorem sum_7 (a b : Int) (ha0 : 0 ≤ a) (ha : a < 4294967296) (hb0 : 0 ≤ b) (hb : b < 4294967296) (w : World) : Calls Try.prog 99 #[.int .u32 a, .int .u32 b] w fun e w' => e = .returned (.int .u32 (sumV 7 a b)) ∧ w = w' := by
  show Calls _ _ _ _ fun e w' => e = .returned (.int .u32 (a * b % 4294967296)) ∧ w = w'
  go_enter Try.func99, Try.ntmps99
  go_wp2
  go_ret
  exact ⟨rfl, rfl⟩
theorem sum_10 (a b : Int) (ha0 : 0 ≤ a) (ha : a < 4294967296) (hb0 : 0 ≤ b) (hb : b < 4294967296) (w : World) : Calls Try.prog 100 #[.int .u32 a, .int .u32 b] w fun e w' => e = .returned (.int .u32 (sumV 10 a b)) ∧ w = w' := by
  show Calls _ _ _ _ fun e w' => e = .returned (.int .u32 (bits .and .u32 a b)) ∧ w = w'
  go_enter Try.func100, Try.ntmps100
  go_wp2
  go_ret
  exact ⟨rfl, rfl⟩
theorem sum_11 (a b : Int) (ha0 : 0 ≤ a) (ha : a < 4294967296) (hb0 : 0 ≤ b) (hb : b < 4294967296) (w : World) : Calls Try.prog 101 #[.int .u32 a, .int .u32 b] w fun e w' => e = .returned (.int .u32 (sumV 11 a b)) ∧ w = w' := by
  show Calls _ _ _ _ fun e w' => e = .returned (.int .u32 (bits .or .u32 a b)) ∧ w = w'
  go_enter Try.func101, Try.ntmps101
  go_wp2
  go_ret
  exact ⟨rfl, rfl⟩
theorem sum_12 (a b : Int) (ha0 : 0 ≤ a) (ha : a < 4294967296) (hb0 : 0 ≤ b) (hb : b < 4294967296) (w : World) : Calls Try.prog 102 #[.int .u32 a, .int .u32 b] w fun e w' => e = .returned (.int .u32 (sumV 12 a b)) ∧ w = w' := by
  show Calls _ _ _ _ fun e w' => e = .returned (.int .u32 (bits .xor .u32 a b)) ∧ w = w'
  go_enter Try.func102, Try.ntmps102
  go_wp2
  go_ret
  exact ⟨rfl, rfl⟩
theorem sum_13 (a b : Int) (ha0 : 0 ≤ a) (ha : a < 4294967296) (hb0 : 0 ≤ b) (hb : b < 4294967296) (w : World) : Calls Try.prog 103 #[.int .u32 a, .int .u32 b] w fun e w' => e = .returned (.int .u32 (sumV 13 a b)) ∧ w = w' := by
  show Calls _ _ _ _ fun e w' => e = .returned (.int .u32 (bits .xor .u32 IntKind.u32.max a)) ∧ w = w'
  go_enter Try.func103, Try.ntmps103
  go_wp2
  go_ret
  exact ⟨rfl, rfl⟩
theorem sum_14 (a b : Int) (ha0 : 0 ≤ a) (ha : a < 4294967296) (hb0 : 0 ≤ b) (hb : b < 4294967296) (w : World) : Calls Try.prog 104 #[.int .u32 a, .int .u32 b] w fun e w' => e = .returned (.int .u32 (sumV 14 a b)) ∧ w = w' := by
  show Calls _ _ _ _ fun e w' => e = .returned (.int .u32 (shlV a b)) ∧ w = w'
  have hs := fun W => shl_run (P := Try.prog) (w := W) a b hb0
  go_enter Try.func104, Try.ntmps104
  go_wp2
  go_ret
  exact ⟨rfl, rfl⟩
theorem sum_15 (a b : Int) (ha0 : 0 ≤ a) (ha : a < 4294967296) (hb0 : 0 ≤ b) (hb : b < 4294967296) (w : World) : Calls Try.prog 105 #[.int .u32 a, .int .u32 b] w fun e w' => e = .returned (.int .u32 (sumV 15 a b)) ∧ w = w' := by
  show Calls _ _ _ _ fun e w' => e = .returned (.int .u32 (shrV a b)) ∧ w = w'
  have hs := fun W => shr_run (P := Try.prog) (w := W) a b hb0 ha0 ha
  go_enter Try.func105, Try.ntmps105
  go_wp2
  go_ret
  exact ⟨rfl, rfl⟩
theorem sum_16 (a b : Int) (ha0 : 0 ≤ a) (ha : a < 4294967296) (hb0 : 0 ≤ b) (hb : b < 4294967296) (w : World) : Calls Try.prog 106 #[.int .u32 a, .int .u32 b] w fun e w' => e = .returned (.int .u32 (sumV 16 a b)) ∧ w = w' := by
  show Calls _ _ _ _ fun e w' => e = .returned (.int .u32 (flagV (decide (wrap32 a < wrap32 b)))) ∧ w = w'
  have H := Lib.hid (fun W => flag_any (decide (wrap32 a < wrap32 b)) W)
  go_enter Try.func106, Try.ntmps106
  go_wp2_with (go_at_call 107; refine (H.out _).mono ?_; rintro e w1 ⟨rfl, rfl⟩)
  go_ret
  exact ⟨rfl, rfl⟩
theorem sum_17 (a b : Int) (ha0 : 0 ≤ a) (ha : a < 4294967296) (hb0 : 0 ≤ b) (hb : b < 4294967296) (w : World) : Calls Try.prog 108 #[.int .u32 a, .int .u32 b] w fun e w' => e = .returned (.int .u32 (sumV 17 a b)) ∧ w = w' := by
  show Calls _ _ _ _ fun e w' => e = .returned (.int .u32 (flagV (decide (a < b)))) ∧ w = w'
  have H := Lib.hid (fun W => flag_any (decide (a < b)) W)
  go_enter Try.func108, Try.ntmps108
  go_wp2_with (go_at_call 107; refine (H.out _).mono ?_; rintro e w1 ⟨rfl, rfl⟩)
  go_ret
  exact ⟨rfl, rfl⟩
theorem sum_18 (a b : Int) (ha0 : 0 ≤ a) (ha : a < 4294967296) (hb0 : 0 ≤ b) (hb : b < 4294967296) (w : World) : Calls Try.prog 109 #[.int .u32 a, .int .u32 b] w fun e w' => e = .returned (.int .u32 (sumV 18 a b)) ∧ w = w' := by
  show Calls _ _ _ _ fun e w' => e = .returned (.int .u32 (flagV (decide (a = b)))) ∧ w = w'
  have H := Lib.hid (fun W => flag_any (decide (a = b)) W)
  have hd : (a == b) = decide (a = b) := by by_cases h : a = b <;> simp [h]
  go_enter Try.func109, Try.ntmps109
  go_wp2_with (go_at_call 107; refine (H.out _).mono ?_; rintro e w1 ⟨rfl, rfl⟩)
  go_ret
  exact ⟨rfl, rfl⟩
set_option maxHeartbeats 2000000 in
theorem sums_4 (w : World) : Calls Try.prog 76 #[.int .i64 4] w fun e w' => e = .returned (.func (.func 96) #[] #[]) ∧ Fr [] w w' := by
  have HF := Lib.hid (fun o => (Fr.refl [] w).alloc o)
  go_enter Try.func76, Try.ntmps76
  go_wp2
  go_ret
  exact ⟨rfl, HF.out _⟩
set_option maxHeartbeats 2000000 in
theorem sums_5 (w : World) : Calls Try.prog 76 #[.int .i64 5] w fun e w' => e = .returned (.func (.func 97) #[] #[]) ∧ Fr [] w w' := by
  have HF := Lib.hid (fun o => (Fr.refl [] w).alloc o)
  go_enter Try.func76, Try.ntmps76
  go_wp2
  go_ret
  exact ⟨rfl, HF.out _⟩
set_option maxHeartbeats 2000000 in
theorem sums_6 (w : World) : Calls Try.prog 76 #[.int .i64 6] w fun e w' => e = .returned (.func (.func 98) #[] #[]) ∧ Fr [] w w' := by
  have HF := Lib.hid (fun o => (Fr.refl [] w).alloc o)
  go_enter Try.func76, Try.ntmps76
  go_wp2
  go_ret
  exact ⟨rfl, HF.out _⟩
set_option maxHeartbeats 2000000 in
theorem sums_7 (w : World) : Calls Try.prog 76 #[.int .i64 7] w fun e w' => e = .returned (.func (.func 99) #[] #[]) ∧ Fr [] w w' := by
  have HF := Lib.hid (fun o => (Fr.refl [] w).alloc o)
  go_enter Try.func76, Try.ntmps76
  go_wp2
  go_ret
  exact ⟨rfl, HF.out _⟩
set_option maxHeartbeats 2000000 in
theorem sums_10 (w : World) : Calls Try.prog 76 #[.int .i64 10] w fun e w' => e = .returned (.func (.func 100) #[] #[]) ∧ Fr [] w w' := by
  have HF := Lib.hid (fun o => (Fr.refl [] w).alloc o)
  go_enter Try.func76, Try.ntmps76
  go_wp2
  go_ret
  exact ⟨rfl, HF.out _⟩
set_option maxHeartbeats 2000000 in
theorem sums_11 (w : World) : Calls Try.prog 76 #[.int .i64 11] w fun e w' => e = .returned (.func (.func 101) #[] #[]) ∧ Fr [] w w' := by
  have HF := Lib.hid (fun o => (Fr.refl [] w).alloc o)
  go_enter Try.func76, Try.ntmps76
  go_wp2
  go_ret
  exact ⟨rfl, HF.out _⟩
set_option maxHeartbeats 2000000 in
theorem sums_12 (w : World) : Calls Try.prog 76 #[.int .i64 12] w fun e w' => e = .returned (.func (.func 102) #[] #[]) ∧ Fr [] w w' := by
  have HF := Lib.hid (fun o => (Fr.refl [] w).alloc o)
  go_enter Try.func76, Try.ntmps76
  go_wp2
  go_ret
  exact ⟨rfl, HF.out _⟩
set_option maxHeartbeats 2000000 in
theorem sums_13 (w : World) : Calls Try.prog 76 #[.int .i64 13] w fun e w' => e = .returned (.func (.func 103) #[] #[]) ∧ Fr [] w w' := by
  have HF := Lib.hid (fun o => (Fr.refl [] w).alloc o)
  go_enter Try.func76, Try.ntmps76
  go_wp2
  go_ret
  exact ⟨rfl, HF.out _⟩
set_option maxHeartbeats 2000000 in
theorem sums_14 (w : World) : Calls Try.prog 76 #[.int .i64 14] w fun e w' => e = .returned (.func (.func 104) #[] #[]) ∧ Fr [] w w' := by
  have HF := Lib.hid (fun o => (Fr.refl [] w).alloc o)
  go_enter Try.func76, Try.ntmps76
  go_wp2
  go_ret
  exact ⟨rfl, HF.out _⟩
set_option maxHeartbeats 2000000 in
theorem sums_15 (w : World) : Calls Try.prog 76 #[.int .i64 15] w fun e w' => e = .returned (.func (.func 105) #[] #[]) ∧ Fr [] w w' := by
  have HF := Lib.hid (fun o => (Fr.refl [] w).alloc o)
  go_enter Try.func76, Try.ntmps76
  go_wp2
  go_ret
  exact ⟨rfl, HF.out _⟩
set_option maxHeartbeats 2000000 in
theorem sums_16 (w : World) : Calls Try.prog 76 #[.int .i64 16] w fun e w' => e = .returned (.func (.func 106) #[] #[]) ∧ Fr [] w w' := by
  have HF := Lib.hid (fun o => (Fr.refl [] w).alloc o)
  go_enter Try.func76, Try.ntmps76
  go_wp2
  go_ret
  exact ⟨rfl, HF.out _⟩
set_option maxHeartbeats 2000000 in
theorem sums_17 (w : World) : Calls Try.prog 76 #[.int .i64 17] w fun e w' => e = .returned (.func (.func 108) #[] #[]) ∧ Fr [] w w' := by
  have HF := Lib.hid (fun o => (Fr.refl [] w).alloc o)
  go_enter Try.func76, Try.ntmps76
  go_wp2
  go_ret
  exact ⟨rfl, HF.out _⟩
set_option maxHeartbeats 2000000 in
theorem sums_18 (w : World) : Calls Try.prog 76 #[.int .i64 18] w fun e w' => e = .returned (.func (.func 109) #[] #[]) ∧ Fr [] w w' := by
  have HF := Lib.hid (fun o => (Fr.refl [] w).alloc o)
  go_enter Try.func76, Try.ntmps76
  go_wp2
  go_ret
  exact ⟨rfl, HF.out _⟩
theorem sums_any (k : Nat) (hk : isSum k) (w : World) : Calls Try.prog 76 #[.int .i64 (k : Int)] w fun e w' => e = .returned (.func (.func (sumF k)) #[] #[]) ∧ Fr [] w w' := by
  rcases hk with rfl | rfl | rfl | rfl | rfl | rfl | rfl | rfl | rfl | rfl | rfl | rfl | rfl
  · exact sums_4 w
  · exact sums_5 w
  · exact sums_6 w
  · exact sums_7 w
  · exact sums_10 w
  · exact sums_11 w
  · exact sums_12 w
  · exact sums_13 w
  · exact sums_14 w
  · exact sums_15 w
  · exact sums_16 w
  · exact sums_17 w
  · exact sums_18 w
theorem sum_any (k : Nat) (hk : isSum k) (a b : Int) (ha0 : 0 ≤ a) (ha : a < 4294967296) (hb0 : 0 ≤ b) (hb : b < 4294967296) (w : World) : Calls Try.prog (sumF k) #[.int .u32 a, .int .u32 b] w fun e w' => e = .returned (.int .u32 (sumV k a b)) ∧ w = w' := by
  rcases hk with rfl | rfl | rfl | rfl | rfl | rfl | rfl | rfl | rfl | rfl | rfl | rfl | rfl
  · exact sum_4 a b ha0 ha hb0 hb w
  · exact sum_5 a b ha0 ha hb0 hb w
  · exact sum_6 a b ha0 ha hb0 hb w
  · exact sum_7 a b ha0 ha hb0 hb w
  · exact sum_10 a b ha0 ha hb0 hb w
  · exact sum_11 a b ha0 ha hb0 hb w
  · exact sum_12 a b ha0 ha hb0 hb w
  · exact sum_13 a b ha0 ha hb0 hb w
  · exact sum_14 a b ha0 ha hb0 hb w
  · exact sum_15 a b ha0 ha hb0 hb w
  · exact sum_16 a b ha0 ha hb0 hb w
  · exact sum_17 a b ha0 ha hb0 hb w
  · exact sum_18 a b ha0 ha hb0 hb w
end Go.Proofs.Ytonongaakieciaa
