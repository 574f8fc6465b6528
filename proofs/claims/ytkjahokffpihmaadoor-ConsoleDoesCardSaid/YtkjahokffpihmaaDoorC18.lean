/- The calls whose answers the document fixes. -/
import Derived.Test.YtkjahokffpihmaaDoorC17
namespace Go.Proofs.YtkjahokffpihmaaDoor
open Go.RowKit
set_option linter.unusedVariables false
set_option linter.unusedSimpArgs false
set_option maxRecDepth 100000
def pwL : ByteArray := ⟨#[112, 119]⟩
def fx0 : Con := newCon 2 pwL
def fx1 : Con := keysX fx0 [112, 119, 13]
def fx2 : Con := keysX fx1 [55, 49]
def fx3 : Con := write fx2 1 [104, 105]
def fx4 : Con := key fx3 97
def fx5 : Con := takeX fx4 1
def fx6 : Con := key fx5 1
def fx7 : Con := key fx6 120
def fx8 : Con := takeX fx7 1
abbrev r1 : ByteArray := ⟨#[112, 97, 115, 115, 119, 111, 114, 100, 58, 32, 32, 32, 32, 32, 32, 32, 32, 32, 32, 32, 32, 32, 32, 32]⟩
abbrev r2 : ByteArray := ⟨#[108, 101, 118, 101, 108, 58, 32, 32, 32, 32, 32, 32, 32, 32, 32, 32, 32, 32, 32, 32, 32, 32, 32, 32]⟩
abbrev r3 : ByteArray := ⟨#[104, 105, 32, 32, 32, 32, 32, 32, 32, 32, 32, 32, 32, 32, 32, 32, 32, 32, 32, 32, 32, 32, 32, 32]⟩
theorem fx0_new : okNew 2 pwL = true := by decide +kernel
theorem fx0_fo : fx0.fo = -1 := by kernel_rfl
theorem fx0_ban : banner fx0 = ⟨#[91, 84, 82, 85, 83, 84, 69, 68, 93, 32, 32, 32, 32, 32, 32, 32, 32, 32, 32, 32, 32, 32, 32, 32]⟩ := by kernel_rfl
theorem fx1_r1 : (screenL fx1.sc)[0]? = some r1 := by kernel_rfl
theorem fx1_r2 : (screenL fx1.sc)[1]? = some r2 := by kernel_rfl
theorem fx2_fo : fx2.fo = 1 := by kernel_rfl
theorem fx2_lv : fx2.lv = 2 := by kernel_rfl
theorem fx3_fo : fx3.fo = 1 := by kernel_rfl
theorem fx3_lv : fx3.lv = 2 := by kernel_rfl
theorem fx3_r3 : (screenL fx3.sc)[0]? = some r3 := by kernel_rfl
theorem fx4_t : takeS fx4 1 = ⟨#[97]⟩ := by kernel_rfl
theorem fx7_t : takeS fx7 1 = ⟨#[]⟩ := by kernel_rfl
theorem fx8_fo : fx8.fo = -1 := by kernel_rfl
theorem fx0_lv : fx0.lv = 2 := by kernel_rfl
theorem fx4_lv : fx4.lv = 2 := by kernel_rfl
theorem fx7_lv : fx7.lv = 2 := by kernel_rfl
theorem screen_len (s : Sc) : (screenL s).length = 6 := by simp [screenL]
theorem fx0_w : write fx0 1 [120] = fx0 := by unfold write; rw [if_pos (by kernel_rfl), if_neg (by rw [fx0_fo]; decide)]
theorem fx3_w0 : write fx3 0 [110, 111] = fx3 := by unfold write; rw [if_pos (by kernel_rfl), if_neg (by rw [fx3_fo]; decide)]
theorem fx3_w2 : write fx3 2 [] = fx3 := by unfold write; rw [if_neg (by rw [show isL fx3 2 = false by kernel_rfl]; decide)]
/-- The fixed calls, as contracts between named states. -/
structure Fxs (w0 : World) (c k : Nat) (X : Nat → Con) : Prop where
  fo0 : ∀ W, Cn w0 W c k (X 0) → Calls Tryd.prog 17 #[ptr c] W fun e w' => e = .returned (.int .i64 (-1)) ∧ W = w'
  ba0 : ∀ W, Cn w0 W c k (X 0) → Calls Tryd.prog 20 #[ptr c] W fun e w' => e = .returned (.string ⟨#[91, 84, 82, 85, 83, 84, 69, 68, 93, 32, 32, 32, 32, 32, 32, 32, 32, 32, 32, 32, 32, 32, 32, 32]⟩) ∧ W = w'
  wr0 : ∀ W, Cn w0 W c k (X 0) → Calls Tryd.prog 19 #[ptr c, .int .i64 1, .string ⟨#[120]⟩] W (CnE w0 W c k (X 0) (.int .i64 0))
  ke0 : ∀ W, Cn w0 W c k (X 0) → Calls Tryd.prog 23 #[ptr c, .string ⟨#[112, 119, 13]⟩] W (CnE w0 W c k (X 1) (.tuple #[]))
  sc1 : ∀ W, Cn w0 W c k (X 1) → Calls Tryd.prog 15 #[ptr c] W fun e w' => ∃ g cap, e = .returned (.slice (some ⟨g, 0, none⟩) 6 cap) ∧ w'.cell? ⟨g, 0, none⟩ = some (.string r1) ∧ w'.cell? ⟨g, 1, none⟩ = some (.string r2) ∧ Fr [] W w' ∧ W.heap.size ≤ g
  ke1 : ∀ W, Cn w0 W c k (X 1) → Calls Tryd.prog 23 #[ptr c, .string ⟨#[55, 49]⟩] W (CnE w0 W c k (X 2) (.tuple #[]))
  fo2 : ∀ W, Cn w0 W c k (X 2) → Calls Tryd.prog 17 #[ptr c] W fun e w' => e = .returned (.int .i64 1) ∧ W = w'
  wr2 : ∀ W, Cn w0 W c k (X 2) → Calls Tryd.prog 19 #[ptr c, .int .i64 1, .string ⟨#[104, 105]⟩] W (CnE w0 W c k (X 3) (.int .i64 0))
  wr3 : ∀ W, Cn w0 W c k (X 3) → Calls Tryd.prog 19 #[ptr c, .int .i64 0, .string ⟨#[110, 111]⟩] W (CnE w0 W c k (X 3) (.int .i64 0))
  wr4 : ∀ W, Cn w0 W c k (X 3) → Calls Tryd.prog 19 #[ptr c, .int .i64 2, .string ⟨#[]⟩] W (CnE w0 W c k (X 3) (.int .i64 221))
  sc3 : ∀ W, Cn w0 W c k (X 3) → Calls Tryd.prog 15 #[ptr c] W fun e w' => ∃ g cap, e = .returned (.slice (some ⟨g, 0, none⟩) 6 cap) ∧ w'.cell? ⟨g, 0, none⟩ = some (.string r3) ∧ Fr [] W w' ∧ W.heap.size ≤ g
  ke3 : ∀ W, Cn w0 W c k (X 3) → Calls Tryd.prog 13 #[ptr c, .int .u8 97] W (CnE w0 W c k (X 4) (.tuple #[]))
  ta4 : ∀ W, Cn w0 W c k (X 4) → Calls Tryd.prog 12 #[ptr c, .int .i64 1] W (CnE w0 W c k (X 5) (.tuple #[.string ⟨#[97]⟩, .int .i64 0]))
  ke5 : ∀ W, Cn w0 W c k (X 5) → Calls Tryd.prog 13 #[ptr c, .int .u8 1] W (CnE w0 W c k (X 6) (.tuple #[]))
  ke6 : ∀ W, Cn w0 W c k (X 6) → Calls Tryd.prog 13 #[ptr c, .int .u8 120] W (CnE w0 W c k (X 7) (.tuple #[]))
  ta7 : ∀ W, Cn w0 W c k (X 7) → Calls Tryd.prog 12 #[ptr c, .int .i64 1] W (CnE w0 W c k (X 8) (.tuple #[.string ⟨#[]⟩, .int .i64 0]))
  fo8 : ∀ W, Cn w0 W c k (X 8) → Calls Tryd.prog 17 #[ptr c] W fun e w' => e = .returned (.int .i64 (-1)) ∧ W = w'
def fxX : Nat → Con
  | 0 => fx0 | 1 => fx1 | 2 => fx2 | 3 => fx3 | 4 => fx4 | 5 => fx5 | 6 => fx6 | 7 => fx7 | _ => fx8
theorem mx_le {n : Nat} (h : n ≤ 100) : n ≤ maxLen := by simp only [maxLen]; omega
theorem fxs (w0 : World) (c k : Nat) : Fxs w0 c k fxX where
  fo0 := fun W h => by have := h.focus; rw [show (fxX 0).fo = -1 from fx0_fo] at this; exact this
  ba0 := fun W h => by have := h.banner; rw [show banner (fxX 0) = _ from fx0_ban] at this; exact this
  wr0 := fun W h => by have := h.write 1 ⟨#[120]⟩ (mx_le (by decide)); rw [show write (fxX 0) 1 _ = fxX 0 from fx0_w, show wrE (fxX 0) 1 = 0 from by kernel_rfl] at this; exact this
  ke0 := fun W h => cn_keys h ⟨#[112, 119, 13]⟩ (mx_le (by decide))
  sc1 := fun W h => h.screen.mono fun e w' ⟨g, cap, he, _, _, hk, hf, hg⟩ => ⟨g, cap, by rw [screen_len] at he; exact he, (hk.at_ fx1_r1).1, (hk.at_ fx1_r2).1, hf, hg⟩
  ke1 := fun W h => cn_keys h ⟨#[55, 49]⟩ (mx_le (by decide))
  fo2 := fun W h => by have := h.focus; rw [show (fxX 2).fo = 1 from fx2_fo] at this; exact this
  wr2 := fun W h => by have := h.write 1 ⟨#[104, 105]⟩ (mx_le (by decide)); rw [show wrE (fxX 2) 1 = 0 from by kernel_rfl] at this; exact this
  wr3 := fun W h => by have := h.write 0 ⟨#[110, 111]⟩ (mx_le (by decide)); rw [show write (fxX 3) 0 _ = fxX 3 from fx3_w0, show wrE (fxX 3) 0 = 0 from by kernel_rfl] at this; exact this
  wr4 := fun W h => by have := h.write 2 ⟨#[]⟩ (mx_le (by decide)); rw [show write (fxX 3) 2 _ = fxX 3 from fx3_w2, show wrE (fxX 3) 2 = 221 from by kernel_rfl] at this; exact this
  sc3 := fun W h => h.screen.mono fun e w' ⟨g, cap, he, _, _, hk, hf, hg⟩ => ⟨g, cap, by rw [screen_len] at he; exact he, (hk.at_ fx3_r3).1, hf, hg⟩
  ke3 := fun W h => h.key 97
  ta4 := fun W h => by have := h.take 1; rw [show takeS (fxX 4) 1 = _ from fx4_t, show wrE (fxX 4) 1 = 0 from by kernel_rfl] at this; exact this
  ke5 := fun W h => h.key 1
  ke6 := fun W h => h.key 120
  ta7 := fun W h => by have := h.take 1; rw [show takeS (fxX 7) 1 = _ from fx7_t, show wrE (fxX 7) 1 = 0 from by kernel_rfl] at this; exact this
  fo8 := fun W h => by have := h.focus; rw [show (fxX 8).fo = -1 from fx8_fo] at this; exact this
theorem fx_new (w : World) : Calls Tryd.prog 21 #[.int .i64 2, .string ⟨#[112, 119]⟩] w fun e w' => ∃ c k, e = .returned (.tuple #[ptr c, .int .i64 0]) ∧ Cn w w' c k (fxX 0) :=
  (cn_new w w (Fr.refl _ _) 2 pwL).mono fun e w' h => by
    rcases h with ⟨h1, -⟩ | ⟨-, c, k, he, h⟩
    · rw [fx0_new] at h1; cases h1
    · exact ⟨c, k, he, h⟩
def FixP (w : World) (e : Ending) (w' : World) : Prop := e = .returned (.bool true) ∧ Fr [] w w'
set_option maxHeartbeats 4000000 in
theorem fixed_any (w : World) : Calls Tryd.prog 11 #[] w (FixP w) := by
  have HN := Lib.hid (fx_new w)
  have HX := Lib.hid (fun c k => fxs w c k)
  generalize fxX = X at *
  go_enter Tryd.func11, Tryd.ntmps11
  go_wp2_with fail
  refine HN.out.mono ?_
  rintro e w1 ⟨c, k, rfl, h1⟩
  have HF := Lib.hid (HX.out c k)
  go_wp2_with fail
  refine (HF.out.fo0 _ h1).mono ?_
  rintro e wa ⟨rfl, rfl⟩
  go_wp2_with fail
  refine (HF.out.ba0 _ h1).mono ?_
  rintro e wa ⟨rfl, rfl⟩
  go_wp2_with fail
  refine (HF.out.wr0 _ h1).mono ?_
  rintro e w2 hP
  obtain ⟨rfl, h2, -⟩ := hP
  clear h1
  go_wp2_with fail
  refine (HF.out.ke0 _ h2).mono ?_
  rintro e w3 hP
  obtain ⟨rfl, h3, -⟩ := hP
  clear h2
  go_wp2_with fail
  refine (HF.out.sc1 _ h3).mono ?_
  rintro e w4 ⟨g, cap, rfl, q1, q2, f4, hg⟩
  have h4 := h3.to f4
  have hlt := h3.lt
  clear h3 f4
  go_wp2_with fail
  refine (HF.out.ke1 _ h4).mono ?_
  rintro e w5 hP
  obtain ⟨rfl, h5, f5⟩ := hP
  have p1 := f5.cell_some q1 (by simp; omega)
  have p2 := f5.cell_some q2 (by simp; omega)
  clear h4 f5 q1 q2 hg hlt
  go_wp2_with fail
  refine (HF.out.fo2 _ h5).mono ?_
  rintro e wa ⟨rfl, rfl⟩
  clear p1 p2
  go_wp2_with fail
  refine (HF.out.wr2 _ h5).mono ?_
  rintro e w6 hP
  obtain ⟨rfl, h6, -⟩ := hP
  clear h5
  go_wp2_with fail
  refine (HF.out.wr3 _ h6).mono ?_
  rintro e w7 hP
  obtain ⟨rfl, h7, -⟩ := hP
  clear h6
  go_wp2_with fail
  refine (HF.out.wr4 _ h7).mono ?_
  rintro e w8 hP
  obtain ⟨rfl, h8, -⟩ := hP
  clear h7
  go_wp2_with fail
  refine (HF.out.sc3 _ h8).mono ?_
  rintro e w9 ⟨g2, cap2, rfl, q3, f9, hg⟩
  have h9 := h8.to f9
  have hlt := h8.lt
  clear h8 f9
  go_wp2_with fail
  refine (HF.out.ke3 _ h9).mono ?_
  rintro e w10 hP
  obtain ⟨rfl, h10, f10⟩ := hP
  have q4 := f10.cell_some q3 (by simp; omega)
  clear h9 f10 q3
  go_wp2_with fail
  refine (HF.out.ta4 _ h10).mono ?_
  rintro e w11 hP
  obtain ⟨rfl, h11, f11⟩ := hP
  have q5 := f11.cell_some q4 (by simp; omega)
  clear h10 f11 q4
  go_wp2_with fail
  refine (HF.out.ke5 _ h11).mono ?_
  rintro e w12 hP
  obtain ⟨rfl, h12, f12⟩ := hP
  have q6 := f12.cell_some q5 (by simp; omega)
  clear h11 f12 q5
  go_wp2_with fail
  refine (HF.out.ke6 _ h12).mono ?_
  rintro e w13 hP
  obtain ⟨rfl, h13, f13⟩ := hP
  have q7 := f13.cell_some q6 (by simp; omega)
  clear h12 f13 q6
  go_wp2_with fail
  refine (HF.out.ta7 _ h13).mono ?_
  rintro e w14 hP
  obtain ⟨rfl, h14, f14⟩ := hP
  have q8 := f14.cell_some q7 (by simp; omega)
  clear h13 f14 q7
  go_wp2_with fail
  refine (HF.out.fo8 _ h14).mono ?_
  rintro e wa ⟨rfl, rfl⟩
  have HE := Lib.hid h14.f
  clear h14
  go_wp2_with fail
  go_ret
  exact ⟨rfl, HE.out⟩
end Go.Proofs.YtkjahokffpihmaaDoor
