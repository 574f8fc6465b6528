/- strings.Repeat of a blank, 24 and 15 times; strconv.Itoa of a digit. -/
import Derived.Test.YtkjahokffpihmaaDoorC11
namespace Go.Proofs.YtkjahokffpihmaaDoor
open Go.RowKit
set_option linter.unusedVariables false
set_option linter.unusedSimpArgs false
set_option maxRecDepth 100000
theorem mul64_one (n : Int) (hn : n = 24 ∨ n = 15) (w : World) : Calls Tryd.prog 64 #[.int .u64 1, .int .u64 n] w fun e w' => e = .returned (.tuple #[.int .u64 0, .int .u64 n]) ∧ w = w' := by
  rcases hn with rfl | rfl
  all_goals
    go_enter Tryd.func64, Tryd.ntmps64
    go_wp2
    go_ret2
    exact ⟨rfl, rfl⟩
theorem mul_one (n : Int) (hn : n = 24 ∨ n = 15) (w : World) : Calls Tryd.prog 52 #[.int .u64 1, .int .u64 n] w fun e w' => e = .returned (.tuple #[.int .u64 0, .int .u64 n]) ∧ w = w' := by
  have H := Lib.hid (mul64_one n hn w)
  clear hn
  go_enter Tryd.func52, Tryd.ntmps52
  go_wp2_with (go_at_call 64; refine H.out.mono ?_; rintro e w1 ⟨rfl, rfl⟩)
  go_ret2
  exact ⟨rfl, rfl⟩
theorem pre65 (R : ByteArray) (h1 : 1 ≤ R.size) (h0 : R.extract 0 1 = ⟨#[32]⟩) (w : World) : Calls Tryd.prog 65 #[.string R, .string ⟨#[32]⟩] w fun e w' => e = .returned (.bool true) ∧ w = w' := by
  have i1 : (1 : Int) ≤ (R.size : Int) := by omega
  go_enter Tryd.func65, Tryd.ntmps65
  go_wp2
  go_ret
  exact ⟨rfl, rfl⟩
theorem pre53 (R : ByteArray) (h1 : 1 ≤ R.size) (h0 : R.extract 0 1 = ⟨#[32]⟩) (w : World) : Calls Tryd.prog 53 #[.string R, .string ⟨#[32]⟩] w fun e w' => e = .returned (.bool true) ∧ w = w' := by
  have H := Lib.hid (pre65 R h1 h0 w)
  clear h1 h0
  go_enter Tryd.func53, Tryd.ntmps53
  go_wp2_with (go_at_call 65; refine H.out.mono ?_; rintro e w1 ⟨rfl, rfl⟩)
  go_ret
  exact ⟨rfl, rfl⟩
def sp24 : ByteArray := ⟨#[32, 32, 32, 32, 32, 32, 32, 32, 32, 32, 32, 32, 32, 32, 32, 32, 32, 32, 32, 32, 32, 32, 32, 32]⟩
def sp15 : ByteArray := ⟨#[32, 32, 32, 32, 32, 32, 32, 32, 32, 32, 32, 32, 32, 32, 32]⟩
theorem rep24 (w : World) : Calls Tryd.prog 37 #[.string ⟨#[32]⟩, .int .i64 24] w fun e w' => e = .returned (.string sp24) ∧ w = w' := by
  have HM := Lib.hid (mul_one 24 (.inl rfl) w)
  have HP := Lib.hid (fun R h1 h0 => pre53 R h1 h0 w)
  go_enter Tryd.func37, Tryd.ntmps37
  go_wp2_with (first
    | (go_at_call 52; refine HM.out.mono ?_; rintro e w1 ⟨rfl, rfl⟩)
    | (go_at_call 53; refine (HP.out _ (by decide) (by decide +kernel)).mono ?_; rintro e w1 ⟨rfl, rfl⟩))
  go_ret
  exact ⟨congrArg (fun s => Ending.returned (Value.string s)) (by decide +kernel), rfl⟩
theorem rep15 (w : World) : Calls Tryd.prog 37 #[.string ⟨#[32]⟩, .int .i64 15] w fun e w' => e = .returned (.string sp15) ∧ w = w' := by
  have HM := Lib.hid (mul_one 15 (.inr rfl) w)
  have HP := Lib.hid (fun R h1 h0 => pre53 R h1 h0 w)
  go_enter Tryd.func37, Tryd.ntmps37
  go_wp2_with (first
    | (go_at_call 52; refine HM.out.mono ?_; rintro e w1 ⟨rfl, rfl⟩)
    | (go_at_call 53; refine (HP.out _ (by decide) (by decide +kernel)).mono ?_; rintro e w1 ⟨rfl, rfl⟩))
  go_ret
  exact ⟨congrArg (fun s => Ending.returned (Value.string s)) (by decide +kernel), rfl⟩
def dig (k : Nat) : UInt8 := UInt8.ofNat (48 + k)
theorem dig_toNat {k : Nat} (h : k < 10) : (dig k).toNat = 48 + k := by
  unfold dig
  rw [UInt8.toNat_ofNat']
  omega
theorem small_any (k : Nat) (h : k < 10) (w : World) : Calls Tryd.prog 73 #[.int .i64 (k : Int)] w fun e w' => e = .returned (.string ⟨#[dig k]⟩) ∧ w = w' := by
  rcases (by omega : k = 0 ∨ k = 1 ∨ k = 2 ∨ k = 3 ∨ k = 4 ∨ k = 5 ∨ k = 6 ∨ k = 7 ∨ k = 8 ∨ k = 9) with rfl | rfl | rfl | rfl | rfl | rfl | rfl | rfl | rfl | rfl
  all_goals
    go_enter Tryd.func73, Tryd.ntmps73
    go_wp2
    go_ret
    exact ⟨congrArg (fun s => Ending.returned (Value.string s)) (by decide +kernel), rfl⟩
theorem itoa_any (k : Nat) (h : k < 10) (w : World) : Calls Tryd.prog 39 #[.int .i64 (k : Int)] w fun e w' => e = .returned (.string ⟨#[dig k]⟩) ∧ w = w' := by
  have H1 : Calls Tryd.prog 69 #[.int .i64 (k : Int), .int .i64 10] w fun e w' => e = .returned (.string ⟨#[dig k]⟩) ∧ w = w' := by
    have H := Lib.hid (small_any k h w)
    have i1 : (k : Int) < 100 := by omega
    have i0 : (0 : Int) ≤ (k : Int) := by omega
    clear h
    go_enter Tryd.func69, Tryd.ntmps69
    go_wp2_with (go_at_call 73; refine H.out.mono ?_; rintro e w1 ⟨rfl, rfl⟩)
    go_ret
    exact ⟨rfl, rfl⟩
  have H2 : Calls Tryd.prog 59 #[.int .i64 (k : Int)] w fun e w' => e = .returned (.string ⟨#[dig k]⟩) ∧ w = w' := by
    have H := Lib.hid H1
    clear H1 h
    go_enter Tryd.func59, Tryd.ntmps59
    go_wp2_with (go_at_call 69; refine H.out.mono ?_; rintro e w1 ⟨rfl, rfl⟩)
    go_ret
    exact ⟨rfl, rfl⟩
  have H := Lib.hid H2
  clear H1 H2 h
  go_enter Tryd.func39, Tryd.ntmps39
  go_wp2_with (go_at_call 59; refine H.out.mono ?_; rintro e w1 ⟨rfl, rfl⟩)
  go_ret
  exact ⟨rfl, rfl⟩
/-- The banner. -/
def banner (x : Con) : ByteArray := if x.fo = -1 then ⟨#[91, 84, 82, 85, 83, 84, 69, 68, 93, 32, 32, 32, 32, 32, 32, 32, 32, 32, 32, 32, 32, 32, 32, 32]⟩ else ⟨#[91, 76, 69, 86, 69, 76, 32, dig x.fo.toNat, 93, 32, 32, 32, 32, 32, 32, 32, 32, 32, 32, 32, 32, 32, 32, 32]⟩
theorem banner_any (w : World) (c k : Nat) (x : Con) (h : ConAt w c k x) : Calls Tryd.prog 20 #[ptr c] w fun e w' => e = .returned (.string (banner x)) ∧ w = w' := by
  have ok := h.ok
  obtain ⟨⟨cap, hb, -⟩, -, -⟩ := h
  have c2 := (conC hb).c2
  have HR := Lib.hid (rep15 w)
  unfold banner
  by_cases hf : x.fo = -1
  · rw [if_pos hf]
    rw [hf] at c2
    clear hb hf ok
    go_enter Tryd.func20, Tryd.ntmps20
    go_wp2_with (go_at_call 37; refine HR.out.mono ?_; rintro e w1 ⟨rfl, rfl⟩)
    go_ret
    exact ⟨congrArg (fun s => Ending.returned (Value.string s)) (by decide +kernel), rfl⟩
  · rw [if_neg hf]
    have e1 : (x.fo != -1) = true := by rw [bne_iff_ne]; exact hf
    obtain ⟨f, hfo⟩ : ∃ f : Nat, x.fo = (f : Int) := Int.eq_ofNat_of_zero_le (by have := ok.f0; omega)
    have hf9 : f < 10 := by have := ok.f1; have := ok.l8; omega
    rw [hfo] at c2 e1 ⊢
    have HI := Lib.hid (itoa_any f hf9 w)
    simp only [Int.toNat_natCast]
    clear hb hf ok hfo
    generalize dig f = D at *
    go_enter Tryd.func20, Tryd.ntmps20
    go_wp2_with (first
      | (go_at_call 37; refine HR.out.mono ?_; rintro e w1 ⟨rfl, rfl⟩)
      | (go_at_call 39; refine HI.out.mono ?_; rintro e w1 ⟨rfl, rfl⟩))
    go_ret
    exact ⟨congrArg (fun s => Ending.returned (Value.string s)) rfl, rfl⟩
end Go.Proofs.YtkjahokffpihmaaDoor
