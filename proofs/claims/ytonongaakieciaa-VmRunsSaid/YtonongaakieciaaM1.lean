/- The document's machine: its reckonings. -/
import Derived.Test.YtonongaakieciaaD1
import Derived.Test.YtonongaakieciaaV5
import Derived.Deep.LoopGhost
namespace Go.Proofs.Ytonongaakieciaa
open Go.RowKit
set_option linter.unusedVariables false
set_option linter.unusedSimpArgs false
set_option maxRecDepth 100000
theorem rTrap_any (n : Int) (w : World) : Calls Try.prog 81 #[.int .i64 n] w fun e w' => e = .returned (.agg #[.int .i64 2, .int .i64 n]) ∧ Fr [] w w' := by
  have HF := Lib.hid (fun o => (Fr.refl [] w).alloc o)
  go_enter Try.func81, Try.ntmps81
  go_wp2
  exact bodyPost_ret (v := .agg #[.int .i64 2, .int .i64 n]) (results_cell_row Try.results81 _ _ w.heap.size 65 _ (0, 0) _ rfl (Blk.new w 65 _) Try.underlying65 rfl (by kernel_rfl)) rfl ⟨rfl, HF.out _⟩
theorem rOne_any (b : Bool) (w : World) : Calls Try.prog 116 #[.bool b] w fun e w' => e = .returned (.int .i64 (flagV b)) ∧ w = w' := by
  cases b <;> (
    unfold flagV
    simp only [Bool.false_eq_true, if_true, if_false]
    go_enter Try.func116, Try.ntmps116
    go_wp2
    go_ret
    exact ⟨rfl, rfl⟩)
theorem rSigned_any (a : Int) (h0 : 0 ≤ a) (h : a < 4294967296) (w : World) : Calls Try.prog 117 #[.int .i64 a] w fun e w' => e = .returned (.int .i64 (wrap32 a)) ∧ w = w' := by
  by_cases hb : 2147483648 ≤ a
  · have e : wrap32 a = a - 4294967296 := by unfold wrap32; omega
    rw [e]
    go_enter Try.func117, Try.ntmps117
    go_wp2
    go_ret
    exact ⟨rfl, rfl⟩
  · have e : wrap32 a = a := by unfold wrap32; omega
    rw [e]
    go_enter Try.func117, Try.ntmps117
    go_wp2
    go_ret
    exact ⟨rfl, rfl⟩
theorem pow_le32 {j : Nat} (h : j ≤ 32) : 1 ≤ 2 ^ j ∧ 2 ^ j ≤ 4294967296 := ⟨Nat.one_le_two_pow, Nat.pow_le_pow_right (by decide) h⟩
set_option maxHeartbeats 2000000 in
theorem rPower_any (n : Nat) (hn : n < 32) (w : World) : Calls Try.prog 115 #[.int .i64 (n : Int)] w fun e w' => e = .returned (.int .i64 ((2 ^ n : Nat) : Int)) ∧ w = w' := by
  obtain ⟨R, hR⟩ : ∃ R : Int, ((2 ^ n : Nat) : Int) = R := ⟨_, rfl⟩
  have HR := Lib.hid hR
  rw [hR]
  clear hR
  go_enter Try.func115, Try.ntmps115
  go_wp2_with fail
  go_loopg [3, 4] n (fun gg vp vi wr => ∃ (k : Nat), k + gg = n ∧ vi = .int .i64 (k : Int) ∧ vp = .int .i64 ((2 ^ k : Nat) : Int) ∧ w = wr)
  case atStart => exact ⟨0, by omega, rfl, rfl, rfl⟩
  case round =>
    obtain ⟨k, hk, rfl, rfl, rfl⟩ := hrel
    have Hk := Lib.hid hk
    have hp := pow_le32 (j := k) (by omega)
    have hs : Hid (2 * ((2 ^ k : Nat) : Int) = ((2 ^ (k + 1) : Nat) : Int)) := Lib.hid (by rw [Nat.pow_succ]; omega)
    generalize hP : (2 ^ k : Nat) = P at *
    have HP := Lib.hid hP
    clear hk hP
    by_cases hlt : k < n
    · have hlt' : (k : Int) < (n : Int) := by omega
      have hk0 : (0 : Int) ≤ (k : Int) := by omega
      have hwk : IntKind.i64.wrap ((k : Int) + 1) = (k : Int) + 1 := IntWalk.i64_in _ (by omega)
      go_wp2_with fail
      go_roundg (n - (k + 1))
      case measure => have := Hk.out; omega
      case rel => exact ⟨k + 1, by have := Hk.out; omega, by go_num, by rw [← hs.out], rfl⟩
    · have hlt' : ¬ (k : Int) < (n : Int) := by omega
      obtain rfl : k = n := by have := Hk.out; omega
      go_wp2_with fail
      go_ret
      exact ⟨ret_int (by rw [← HR.out, HP.out]), rfl⟩
set_option maxHeartbeats 2000000 in
theorem rTimes_any (a b : Int) (ha0 : 0 ≤ a) (ha : a < 4294967296) (hb0 : 0 ≤ b) (hb : b < 4294967296) (w : World) : Calls Try.prog 114 #[.int .i64 a, .int .i64 b] w fun e w' => e = .returned (.int .i64 (a * b % 4294967296)) ∧ w = w' := by
  have HL := Lib.hid rLow_any
  have hx : a * b = 65536 * (a / 65536 * b) + a % 65536 * b := by
    have h1 : a = 65536 * (a / 65536) + a % 65536 := by omega
    calc a * b = (65536 * (a / 65536) + a % 65536) * b := by rw [← h1]
      _ = _ := by rw [Int.add_mul, Int.mul_assoc]
  have hb1 : 0 ≤ a / 65536 * b := Int.mul_nonneg (by omega) hb0
  have hb2 : a / 65536 * b ≤ 65536 * 4294967296 := Int.mul_le_mul (by omega) (by omega) hb0 (by omega)
  have hc1 : 0 ≤ a % 65536 * b := Int.mul_nonneg (by omega) hb0
  have hc2 : a % 65536 * b ≤ 65536 * 4294967296 := Int.mul_le_mul (by omega) (by omega) hb0 (by omega)
  have HX := Lib.hid hx
  clear hx
  go_enter Try.func114, Try.ntmps114
  go_wp2_with (first
    | (go_at_call 28; refine (HL.out _ _).mono ?_; unfold low; rintro e w1 ⟨rfl, rfl⟩)
    | fail)
  go_ret
  refine ⟨ret_int ?_, rfl⟩
  rw [HX.out]
  generalize a / 65536 * b = x at *
  generalize a % 65536 * b = y at *
  omega
theorem bit_of (x i : Nat) : x / 2 ^ i % 2 = (x.testBit i).toNat := by rw [Nat.toNat_testBit]
theorem mod_succ (x i : Nat) : x % 2 ^ (i + 1) = x % 2 ^ i + (x.testBit i).toNat * 2 ^ i := by
  rw [Nat.pow_succ, Nat.mod_mul, ← bit_of, Nat.mul_comm]
/-- The reckonings bit by bit. -/
def bitN (k x y : Nat) : Nat := if k = 10 then x &&& y else if k = 11 then x ||| y else if k = 12 then x ^^^ y else x ^^^ 4294967295
theorem and32 (x y : Nat) (hx : x < 4294967296) (hy : y < 4294967296) : bits .and .u32 (x : Int) (y : Int) = ((x &&& y : Nat) : Int) := by
  show IntKind.u32.wrap (((BitVec.ofInt 32 (x : Int) &&& BitVec.ofInt 32 (y : Int)).toNat : Nat) : Int) = _
  rw [BitVec.toNat_and, BitVec.ofInt_natCast, BitVec.ofInt_natCast, BitVec.toNat_ofNat, BitVec.toNat_ofNat, Nat.mod_eq_of_lt (by omega), Nat.mod_eq_of_lt (by omega)]
  have := Nat.and_lt_two_pow (n := 32) x (y := y) (by omega)
  exact IntWalk.u32_in _ (by omega)
theorem or32 (x y : Nat) (hx : x < 4294967296) (hy : y < 4294967296) : bits .or .u32 (x : Int) (y : Int) = ((x ||| y : Nat) : Int) := by
  show IntKind.u32.wrap (((BitVec.ofInt 32 (x : Int) ||| BitVec.ofInt 32 (y : Int)).toNat : Nat) : Int) = _
  rw [BitVec.toNat_or, BitVec.ofInt_natCast, BitVec.ofInt_natCast, BitVec.toNat_ofNat, BitVec.toNat_ofNat, Nat.mod_eq_of_lt (by omega), Nat.mod_eq_of_lt (by omega)]
  have := Nat.or_lt_two_pow (n := 32) (x := x) (y := y) (by omega) (by omega)
  exact IntWalk.u32_in _ (by omega)
theorem xor32 (x y : Nat) (hx : x < 4294967296) (hy : y < 4294967296) : bits .xor .u32 (x : Int) (y : Int) = ((x ^^^ y : Nat) : Int) := by
  show IntKind.u32.wrap (((BitVec.ofInt 32 (x : Int) ^^^ BitVec.ofInt 32 (y : Int)).toNat : Nat) : Int) = _
  rw [BitVec.toNat_xor, BitVec.ofInt_natCast, BitVec.ofInt_natCast, BitVec.toNat_ofNat, BitVec.toNat_ofNat, Nat.mod_eq_of_lt (by omega), Nat.mod_eq_of_lt (by omega)]
  have := Nat.xor_lt_two_pow (n := 32) (x := x) (y := y) (by omega) (by omega)
  exact IntWalk.u32_in _ (by omega)
theorem sum_bits (k x y : Nat) (hk : k = 10 ∨ k = 11 ∨ k = 12 ∨ k = 13) (hx : x < 4294967296) (hy : y < 4294967296) : sumV k (x : Int) (y : Int) = ((bitN k x y : Nat) : Int) := by
  rcases hk with rfl | rfl | rfl | rfl
  · exact and32 x y hx hy
  · exact or32 x y hx hy
  · exact xor32 x y hx hy
  · show bits .xor .u32 4294967295 (x : Int) = ((x ^^^ 4294967295 : Nat) : Int)
    rw [Nat.xor_comm]
    exact xor32 4294967295 x (by decide) hx
theorem bitN_lt (k x y : Nat) (hx : x < 4294967296) (hy : y < 4294967296) : bitN k x y < 4294967296 := by
  unfold bitN
  split
  · exact Nat.and_lt_two_pow (n := 32) x (by omega)
  · split
    · exact Nat.or_lt_two_pow (n := 32) (by omega) (by omega)
    · split
      · exact Nat.xor_lt_two_pow (n := 32) (by omega) (by omega)
      · exact Nat.xor_lt_two_pow (n := 32) (by omega) (by decide)
/-- The bit that a round reckons. -/
def bitZ (k a b : Nat) : Nat := if k = 10 then a * b else if k = 11 then max a b else if k = 12 then (a + b) % 2 else 1 - a
theorem bitN_bit (k x y i : Nat) (hi : i < 32) : ((bitN k x y).testBit i).toNat = bitZ k (x / 2 ^ i % 2) (y / 2 ^ i % 2) := by
  rw [bit_of, bit_of]
  unfold bitN bitZ
  split
  · rw [Nat.testBit_and]; cases x.testBit i <;> cases y.testBit i <;> rfl
  · split
    · rw [Nat.testBit_or]; cases x.testBit i <;> cases y.testBit i <;> rfl
    · split
      · rw [Nat.testBit_xor]; cases x.testBit i <;> cases y.testBit i <;> rfl
      · have e : (4294967295 : Nat).testBit i = true := by
          have := Nat.testBit_two_pow_sub_one 32 i
          rw [show (4294967295 : Nat) = 2 ^ 32 - 1 from rfl, this]
          simpa using hi
        rw [Nat.testBit_xor, e]; cases x.testBit i <;> rfl
set_option maxHeartbeats 8000000 in
theorem rBits_any (k x y : Nat) (hk : k = 10 ∨ k = 11 ∨ k = 12 ∨ k = 13) (hx : x < 4294967296) (hy : y < 4294967296) (w : World) : Calls Try.prog 118 #[.int .i64 (x : Int), .int .i64 (y : Int), .int .i64 (k : Int)] w fun e w' => e = .returned (.int .i64 ((bitN k x y : Nat) : Int)) ∧ w = w' := by
  obtain ⟨R, hR⟩ : ∃ R : Nat, bitN k x y = R := ⟨_, rfl⟩
  have HR := Lib.hid hR
  have HRl : Hid (R < 4294967296) := Lib.hid (by rw [← hR]; exact bitN_lt k x y hx hy)
  have HB : Hid (∀ i, i < 32 → R % 2 ^ (i + 1) = R % 2 ^ i + bitZ k (x / 2 ^ i % 2) (y / 2 ^ i % 2) * 2 ^ i) := Lib.hid (fun i hi => by rw [mod_succ, ← bitN_bit k x y i hi, hR])
  have HD : Hid (∀ z i : Nat, z / 2 ^ (i + 1) = z / 2 ^ i / 2) := Lib.hid (fun z i => by rw [Nat.pow_succ, Nat.div_div_eq_div_mul])
  have HDl : Hid (∀ z i : Nat, z < 4294967296 → z / 2 ^ i < 4294967296) := Lib.hid (fun z i hz => Nat.lt_of_le_of_lt (Nat.div_le_self _ _) hz)
  have H0 : Hid (x / 2 ^ 0 = x ∧ y / 2 ^ 0 = y ∧ R % 2 ^ 0 = 0) := Lib.hid ⟨by simp, by simp, by simp [Nat.mod_one]⟩
  have HE : Hid (R % 2 ^ 32 = R) := Lib.hid (Nat.mod_eq_of_lt HRl.out)
  rw [hR]
  clear hR
  rcases hk with rfl | rfl | rfl | rfl <;> (
    go_enter Try.func118, Try.ntmps118
    go_wp2_with fail
    go_loopg [0, 1, 7, 8, 9] 32 (fun gg v0 v1 v7 v8 v9 wr => ∃ (i : Nat), i + gg = 32 ∧ v9 = .int .i64 (i : Int) ∧ v0 = .int .i64 ((x / 2 ^ i : Nat) : Int) ∧ v1 = .int .i64 ((y / 2 ^ i : Nat) : Int) ∧ v7 = .int .i64 ((R % 2 ^ i : Nat) : Int) ∧ v8 = .int .i64 ((2 ^ i : Nat) : Int) ∧ w = wr)
    case atStart => exact ⟨0, by omega, rfl, by rw [H0.out.1], by rw [H0.out.2.1], by rw [H0.out.2.2]; rfl, rfl, rfl⟩
    case round =>
      obtain ⟨i, hi, rfl, rfl, rfl, rfl, rfl, rfl⟩ := hrel
      have Hi := Lib.hid hi
      by_cases hlt : i < 32
      · have hlt1 : (i : Int) < 32 := by omega
        have hi0 : (0 : Int) ≤ (i : Int) := by omega
        have hwi : IntKind.i64.wrap ((i : Int) + 1) = (i : Int) + 1 := IntWalk.i64_in _ (by omega)
        have hp := pow_le32 (j := i) (by omega)
        have HS := Lib.hid (HB.out i hlt)
        have HX := Lib.hid (HD.out x i)
        have HY := Lib.hid (HD.out y i)
        have hX := HDl.out x i hx
        have hY := HDl.out y i hy
        have hQ : R % 2 ^ i < 4294967296 := Nat.lt_of_le_of_lt (Nat.mod_le _ _) HRl.out
        have HP : Hid (2 ^ (i + 1) = 2 * 2 ^ i) := Lib.hid (by rw [Nat.pow_succ]; omega)
        generalize x / 2 ^ i = X at *
        generalize y / 2 ^ i = Y at *
        generalize R % 2 ^ i = Q at *
        generalize (2 ^ i : Nat) = P at *
        have bx : X % 2 = 0 ∨ X % 2 = 1 := by omega
        have bY : Y % 2 = 0 ∨ Y % 2 = 1 := by omega
        clear hi
        rcases bx with bx | bx <;> rcases bY with bY | bY <;> (
          rw [bx, bY] at HS
          have ex : (X : Int) % 2 = ((X % 2 : Nat) : Int) := by omega
          have ey : (Y : Int) % 2 = ((Y % 2 : Nat) : Int) := by omega
          rw [bx] at ex
          rw [bY] at ey
          have HS := HS.out
          simp [bitZ] at HS
          have HS := Lib.hid HS
          clear bx bY
          have m01 : max (0 : Int) 1 = 1 := rfl
          have m10 : max (1 : Int) 0 = 1 := rfl
          go_wp2_with fail
          go_roundg (32 - (i + 1))
          case measure => have := Hi.out; omega
          case rel => exact ⟨i + 1, by have := Hi.out; omega, by go_num, by rw [HX.out]; go_num, by rw [HY.out]; go_num, by rw [HS.out]; first | done | rfl | go_num, by rw [HP.out]; go_num, rfl⟩)
      · have hlt1 : ¬ (i : Int) < 32 := by omega
        obtain rfl : i = 32 := by omega
        rw [HE.out]
        clear hi hlt
        go_wp2_with fail
        go_ret
        exact ⟨rfl, rfl⟩)
theorem two_pow_int (n : Nat) : (2 : Int) ^ ((n : Int).toNat) = ((2 ^ n : Nat) : Int) := by
  rw [Int.toNat_natCast]
  exact (Int.natCast_pow 2 n).symm
theorem shl_eq (a b : Int) (n : Nat) (h : b % 32 = (n : Int)) : sumV 14 a b = a * ((2 ^ n : Nat) : Int) % 4294967296 := by
  show IntKind.u32.wrap (a * 2 ^ (b % 32).toNat) = _
  rw [h, two_pow_int]
  rfl
theorem shr_eq (a b : Int) (n : Nat) (h : b % 32 = (n : Int)) : sumV 15 a b = a / ((2 ^ n : Nat) : Int) := by
  show a / 2 ^ (b % 32).toNat = _
  rw [h, two_pow_int]
set_option maxHeartbeats 2000000 in
theorem rSum_4 (x y : Nat) (hx : x < 4294967296) (hy : y < 4294967296) (w : World) : Calls Try.prog 85 #[.int .i64 4, .int .i64 (x : Int), .int .i64 (y : Int)] w fun e w' => e = .returned (.int .i64 (sumV 4 (x : Int) (y : Int))) ∧ w = w' := by
  show Calls _ _ _ _ fun e w' => e = .returned (.int .i64 ((y : Int))) ∧ w = w'
  go_enter Try.func85, Try.ntmps85
  go_wp2_with (first
    | fail)
  go_ret
  exact ⟨rfl, rfl⟩
set_option maxHeartbeats 2000000 in
theorem rSum_5 (x y : Nat) (hx : x < 4294967296) (hy : y < 4294967296) (w : World) : Calls Try.prog 85 #[.int .i64 5, .int .i64 (x : Int), .int .i64 (y : Int)] w fun e w' => e = .returned (.int .i64 (sumV 5 (x : Int) (y : Int))) ∧ w = w' := by
  have HL := Lib.hid rLow_any
  show Calls _ _ _ _ fun e w' => e = .returned (.int .i64 (((x : Int) + (y : Int)) % 4294967296)) ∧ w = w'
  go_enter Try.func85, Try.ntmps85
  go_wp2_with (first
    | (go_at_call 28; refine (HL.out _ _).mono ?_; unfold low; rintro e w1 ⟨rfl, rfl⟩)
    | fail)
  go_ret
  exact ⟨rfl, rfl⟩
set_option maxHeartbeats 2000000 in
theorem rSum_6 (x y : Nat) (hx : x < 4294967296) (hy : y < 4294967296) (w : World) : Calls Try.prog 85 #[.int .i64 6, .int .i64 (x : Int), .int .i64 (y : Int)] w fun e w' => e = .returned (.int .i64 (sumV 6 (x : Int) (y : Int))) ∧ w = w' := by
  have HL := Lib.hid rLow_any
  show Calls _ _ _ _ fun e w' => e = .returned (.int .i64 (((x : Int) - (y : Int)) % 4294967296)) ∧ w = w'
  go_enter Try.func85, Try.ntmps85
  go_wp2_with (first
    | (go_at_call 28; refine (HL.out _ _).mono ?_; unfold low; rintro e w1 ⟨rfl, rfl⟩)
    | fail)
  go_ret
  exact ⟨rfl, rfl⟩
set_option maxHeartbeats 2000000 in
theorem rSum_7 (x y : Nat) (hx : x < 4294967296) (hy : y < 4294967296) (w : World) : Calls Try.prog 85 #[.int .i64 7, .int .i64 (x : Int), .int .i64 (y : Int)] w fun e w' => e = .returned (.int .i64 (sumV 7 (x : Int) (y : Int))) ∧ w = w' := by
  have HT := Lib.hid (fun W => rTimes_any (x : Int) (y : Int) (by omega) (by omega) (by omega) (by omega) W)
  show Calls _ _ _ _ fun e w' => e = .returned (.int .i64 ((x : Int) * (y : Int) % 4294967296)) ∧ w = w'
  go_enter Try.func85, Try.ntmps85
  go_wp2_with (first
    | (go_at_call 114; refine (HT.out _).mono ?_; rintro e w1 ⟨rfl, rfl⟩)
    | fail)
  go_ret
  exact ⟨rfl, rfl⟩
set_option maxHeartbeats 2000000 in
theorem rSum_10 (x y : Nat) (hx : x < 4294967296) (hy : y < 4294967296) (w : World) : Calls Try.prog 85 #[.int .i64 10, .int .i64 (x : Int), .int .i64 (y : Int)] w fun e w' => e = .returned (.int .i64 (sumV 10 (x : Int) (y : Int))) ∧ w = w' := by
  have HBk := Lib.hid (fun W => (show Calls Try.prog 118 #[.int .i64 (x : Int), .int .i64 (y : Int), .int .i64 10] W fun e w' => e = .returned (.int .i64 ((bitN 10 x y : Nat) : Int)) ∧ W = w' from rBits_any 10 x y (by simp) hx hy W))
  rw [sum_bits 10 x y (by simp) hx hy]
  generalize bitN 10 x y = R at *
  go_enter Try.func85, Try.ntmps85
  go_wp2_with (first
    | (go_at_call 118; refine (HBk.out _).mono ?_; rintro e w1 ⟨rfl, rfl⟩)
    | fail)
  go_ret
  exact ⟨rfl, rfl⟩
set_option maxHeartbeats 2000000 in
theorem rSum_11 (x y : Nat) (hx : x < 4294967296) (hy : y < 4294967296) (w : World) : Calls Try.prog 85 #[.int .i64 11, .int .i64 (x : Int), .int .i64 (y : Int)] w fun e w' => e = .returned (.int .i64 (sumV 11 (x : Int) (y : Int))) ∧ w = w' := by
  have HBk := Lib.hid (fun W => (show Calls Try.prog 118 #[.int .i64 (x : Int), .int .i64 (y : Int), .int .i64 11] W fun e w' => e = .returned (.int .i64 ((bitN 11 x y : Nat) : Int)) ∧ W = w' from rBits_any 11 x y (by simp) hx hy W))
  rw [sum_bits 11 x y (by simp) hx hy]
  generalize bitN 11 x y = R at *
  go_enter Try.func85, Try.ntmps85
  go_wp2_with (first
    | (go_at_call 118; refine (HBk.out _).mono ?_; rintro e w1 ⟨rfl, rfl⟩)
    | fail)
  go_ret
  exact ⟨rfl, rfl⟩
set_option maxHeartbeats 2000000 in
theorem rSum_12 (x y : Nat) (hx : x < 4294967296) (hy : y < 4294967296) (w : World) : Calls Try.prog 85 #[.int .i64 12, .int .i64 (x : Int), .int .i64 (y : Int)] w fun e w' => e = .returned (.int .i64 (sumV 12 (x : Int) (y : Int))) ∧ w = w' := by
  have HBk := Lib.hid (fun W => (show Calls Try.prog 118 #[.int .i64 (x : Int), .int .i64 (y : Int), .int .i64 12] W fun e w' => e = .returned (.int .i64 ((bitN 12 x y : Nat) : Int)) ∧ W = w' from rBits_any 12 x y (by simp) hx hy W))
  rw [sum_bits 12 x y (by simp) hx hy]
  generalize bitN 12 x y = R at *
  go_enter Try.func85, Try.ntmps85
  go_wp2_with (first
    | (go_at_call 118; refine (HBk.out _).mono ?_; rintro e w1 ⟨rfl, rfl⟩)
    | fail)
  go_ret
  exact ⟨rfl, rfl⟩
set_option maxHeartbeats 2000000 in
theorem rSum_13 (x y : Nat) (hx : x < 4294967296) (hy : y < 4294967296) (w : World) : Calls Try.prog 85 #[.int .i64 13, .int .i64 (x : Int), .int .i64 (y : Int)] w fun e w' => e = .returned (.int .i64 (sumV 13 (x : Int) (y : Int))) ∧ w = w' := by
  have HBk := Lib.hid (fun W => (show Calls Try.prog 118 #[.int .i64 (x : Int), .int .i64 (y : Int), .int .i64 13] W fun e w' => e = .returned (.int .i64 ((bitN 13 x y : Nat) : Int)) ∧ W = w' from rBits_any 13 x y (by simp) hx hy W))
  rw [sum_bits 13 x y (by simp) hx hy]
  generalize bitN 13 x y = R at *
  go_enter Try.func85, Try.ntmps85
  go_wp2_with (first
    | (go_at_call 118; refine (HBk.out _).mono ?_; rintro e w1 ⟨rfl, rfl⟩)
    | fail)
  go_ret
  exact ⟨rfl, rfl⟩
set_option maxHeartbeats 2000000 in
theorem rSum_14 (x y : Nat) (hx : x < 4294967296) (hy : y < 4294967296) (w : World) : Calls Try.prog 85 #[.int .i64 14, .int .i64 (x : Int), .int .i64 (y : Int)] w fun e w' => e = .returned (.int .i64 (sumV 14 (x : Int) (y : Int))) ∧ w = w' := by
  obtain ⟨n, en, hn⟩ : ∃ n : Nat, (y : Int) % 32 = (n : Int) ∧ n < 32 := ⟨y % 32, by omega, by omega⟩
  have HP := Lib.hid (fun W => rPower_any n hn W)
  have hp := pow_le32 (j := n) (by omega)
  have hp31 : 2 ^ n < 4294967296 := Nat.lt_of_le_of_lt (Nat.pow_le_pow_right (by decide) (by omega : n ≤ 31)) (by decide)
  rw [shl_eq (x : Int) (y : Int) n en]
  generalize (2 ^ n : Nat) = P at *
  have HT := Lib.hid (fun W => rTimes_any (x : Int) (P : Int) (by omega) (by omega) (by omega) (by omega) W)
  go_enter Try.func85, Try.ntmps85
  go_wp2_with (first
    | (go_at_call 115; refine (HP.out _).mono ?_; rintro e w1 ⟨rfl, rfl⟩)
    | (go_at_call 114; refine (HT.out _).mono ?_; rintro e w1 ⟨rfl, rfl⟩)
    | fail)
  go_ret
  exact ⟨rfl, rfl⟩
set_option maxHeartbeats 2000000 in
theorem rSum_15 (x y : Nat) (hx : x < 4294967296) (hy : y < 4294967296) (w : World) : Calls Try.prog 85 #[.int .i64 15, .int .i64 (x : Int), .int .i64 (y : Int)] w fun e w' => e = .returned (.int .i64 (sumV 15 (x : Int) (y : Int))) ∧ w = w' := by
  obtain ⟨n, en, hn⟩ : ∃ n : Nat, (y : Int) % 32 = (n : Int) ∧ n < 32 := ⟨y % 32, by omega, by omega⟩
  have HP := Lib.hid (fun W => rPower_any n hn W)
  have hp := pow_le32 (j := n) (by omega)
  have hp31 : 2 ^ n < 4294967296 := Nat.lt_of_le_of_lt (Nat.pow_le_pow_right (by decide) (by omega : n ≤ 31)) (by decide)
  rw [shr_eq (x : Int) (y : Int) n en]
  generalize (2 ^ n : Nat) = P at *
  have hd0 : (0 : Int) ≤ (x : Int) / (P : Int) := Int.ediv_nonneg (by omega) (by omega)
  have hd1 : (x : Int) / (P : Int) ≤ (x : Int) := Int.ediv_le_self _ (by omega)
  have hd2 : (x : Int) / (P : Int) < 4294967296 := by omega
  go_enter Try.func85, Try.ntmps85
  go_wp2_with (first
    | (go_at_call 115; refine (HP.out _).mono ?_; rintro e w1 ⟨rfl, rfl⟩)
    | fail)
  go_ret
  exact ⟨rfl, rfl⟩
theorem sumV16 (a b : Int) : sumV 16 a b = flagV (decide (wrap32 a < wrap32 b)) := rfl
set_option maxHeartbeats 2000000 in
theorem rSum_16 (x y : Nat) (hx : x < 4294967296) (hy : y < 4294967296) (w : World) : Calls Try.prog 85 #[.int .i64 16, .int .i64 (x : Int), .int .i64 (y : Int)] w fun e w' => e = .returned (.int .i64 (sumV 16 (x : Int) (y : Int))) ∧ w = w' := by
  obtain ⟨X, hX⟩ : ∃ X, (x : Int) = X := ⟨_, rfl⟩
  obtain ⟨Y, hY⟩ : ∃ Y, (y : Int) = Y := ⟨_, rfl⟩
  have HSa := Lib.hid (fun W => rSigned_any (x : Int) (by omega) (by omega) W)
  have HSb := Lib.hid (fun W => rSigned_any (y : Int) (by omega) (by omega) W)
  have HO := Lib.hid rOne_any
  rw [sumV16]
  rw [hX] at HSa ⊢
  rw [hY] at HSb ⊢
  clear hX hY hx hy
  generalize wrap32 X = SA at *
  generalize wrap32 Y = SB at *
  have HOk := Lib.hid (fun W => HO.out (decide (SA < SB)) W)
  clear HO
  go_enter Try.func85, Try.ntmps85
  go_wp2_with (first
    | (go_at_call 117; (with_reducible refine (HSa.out _).mono ?_); rintro e w1 ⟨rfl, rfl⟩)
    | (go_at_call 117; (with_reducible refine (HSb.out _).mono ?_); rintro e w1 ⟨rfl, rfl⟩)
    | (go_at_call 116; refine (HOk.out _).mono ?_; rintro e w1 ⟨rfl, rfl⟩)
    | fail)
  go_ret
  exact ⟨rfl, rfl⟩
set_option maxHeartbeats 2000000 in
theorem rSum_17 (x y : Nat) (hx : x < 4294967296) (hy : y < 4294967296) (w : World) : Calls Try.prog 85 #[.int .i64 17, .int .i64 (x : Int), .int .i64 (y : Int)] w fun e w' => e = .returned (.int .i64 (sumV 17 (x : Int) (y : Int))) ∧ w = w' := by
  have HO := Lib.hid rOne_any
  have e0 : sumV 17 (x : Int) (y : Int) = flagV (decide (x < y)) := by
    show flagV (decide ((x : Int) < (y : Int))) = _
    congr 1
    exact decide_eq_decide.2 (by omega)
  rw [e0]
  go_enter Try.func85, Try.ntmps85
  go_wp2_with (first
    | (go_at_call 116; refine (HO.out _ _).mono ?_; rintro e w1 ⟨rfl, rfl⟩)
    | fail)
  go_ret
  exact ⟨rfl, rfl⟩
set_option maxHeartbeats 2000000 in
theorem rSum_18 (x y : Nat) (hx : x < 4294967296) (hy : y < 4294967296) (w : World) : Calls Try.prog 85 #[.int .i64 18, .int .i64 (x : Int), .int .i64 (y : Int)] w fun e w' => e = .returned (.int .i64 (sumV 18 (x : Int) (y : Int))) ∧ w = w' := by
  have HO := Lib.hid rOne_any
  show Calls _ _ _ _ fun e w' => e = .returned (.int .i64 (flagV (decide ((x : Int) = (y : Int))))) ∧ w = w'
  have hd : ((x : Int) == (y : Int)) = decide ((x : Int) = (y : Int)) := by by_cases h : (x : Int) = (y : Int) <;> simp [h]
  go_enter Try.func85, Try.ntmps85
  go_wp2_with (first
    | (go_at_call 116; refine (HO.out _ _).mono ?_; rintro e w1 ⟨rfl, rfl⟩)
    | fail)
  go_ret
  exact ⟨rfl, rfl⟩
/-- The reckonings of the document. -/
theorem rSum_any (k : Nat) (hk : isSum k) (a b : Int) (ha0 : 0 ≤ a) (ha : a < 4294967296) (hb0 : 0 ≤ b) (hb : b < 4294967296) (w : World) : Calls Try.prog 85 #[.int .i64 (k : Int), .int .i64 a, .int .i64 b] w fun e w' => e = .returned (.int .i64 (sumV k a b)) ∧ w = w' := by
  obtain ⟨x, rfl⟩ := Int.eq_ofNat_of_zero_le ha0
  obtain ⟨y, rfl⟩ := Int.eq_ofNat_of_zero_le hb0
  have hx : x < 4294967296 := by omega
  have hy : y < 4294967296 := by omega
  rcases hk with rfl | rfl | rfl | rfl | rfl | rfl | rfl | rfl | rfl | rfl | rfl | rfl | rfl
  · exact rSum_4 x y hx hy w
  · exact rSum_5 x y hx hy w
  · exact rSum_6 x y hx hy w
  · exact rSum_7 x y hx hy w
  · exact rSum_10 x y hx hy w
  · exact rSum_11 x y hx hy w
  · exact rSum_12 x y hx hy w
  · exact rSum_13 x y hx hy w
  · exact rSum_14 x y hx hy w
  · exact rSum_15 x y hx hy w
  · exact rSum_16 x y hx hy w
  · exact rSum_17 x y hx hy w
  · exact rSum_18 x y hx hy w
end Go.Proofs.Ytonongaakieciaa
