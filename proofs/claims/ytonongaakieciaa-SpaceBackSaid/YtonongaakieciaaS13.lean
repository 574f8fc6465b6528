/- The document's calls: fixed. -/
import Derived.Test.YtonongaakieciaaS12
namespace Go.Proofs.Ytonongaakieciaa
open Go.RowKit
set_option linter.unusedVariables false
set_option linter.unusedSimpArgs false
set_option maxRecDepth 100000
def ptF : List Pg := [⟨0, 2⟩, ⟨0, 1⟩]
def s4F : ByteArray := ⟨#[97, 98, 99, 100]⟩
def s2F : ByteArray := ⟨#[97, 98]⟩
def s1F : ByteArray := ⟨#[120]⟩
def xA : Sp := spNew ptF
def xB : Sp := ldS xA 0 s4F
def xC : Sp := ldS xB 1 (zeros 257)
def xD : Sp := outS xC 0 256 s2F
def xE : Sp := outS xD 0 255 s1F
theorem g0 : ptsE ptF = 0 := by kernel_rfl
theorem g1 : ldE xA 0 s4F = 0 := by kernel_rfl
theorem g2 : ldE xB 1 (zeros 257) = 122 := by kernel_rfl
theorem g3 : outE xC 0 256 s2F = 0 := by kernel_rfl
theorem g4 : outE xD 0 255 s1F = 121 := by kernel_rfl
theorem g5 : inE xE 0 255 3 = 0 := by kernel_rfl
theorem g5' : inV xE 0 255 3 = ⟨#[0, 97, 98]⟩ := by kernel_rfl
theorem g6 : inE xE 0 511 2 = 121 := by kernel_rfl
theorem g7 : inE xE 2 0 0 = 120 := by kernel_rfl
theorem g8 : hasP xE 0 = true := by kernel_rfl
theorem g9 : hasP xE 1 = true := by kernel_rfl
theorem g10 : tbOf xE 0 = [⟨0, 5⟩, ⟨1, 3⟩] := by kernel_rfl
theorem g11 : tbOf xE 1 = [⟨2, 3⟩] := by kernel_rfl
/-- Which of the steps has been made. -/
structure Sf (w0 w : World) (s p F g : Nat) (x : Sp) (k : Nat) : Prop where
  d : Sd w0 w s p F g x
theorem Sf.to {w0 w w' : World} {s p F g : Nat} {x : Sp} {k : Nat} (h : Sf w0 w s p F g x k) (hf : Fr [] w w') : Sf w0 w' s p F g x k := ⟨h.d.to hf⟩
theorem parts_at (w : World) : Tb (w.alloc (.cells #[.int .i64 0, .int .i64 2, .int .i64 0, .int .i64 1] 100)) w.heap.size (.slice (some ⟨w.heap.size, 0, none⟩) 2 2) ptF := by
  have hb := Blk.new w 100 #[.int .i64 0, .int .i64 2, .int .i64 0, .int .i64 1]
  refine ⟨by simp only [maxLen]; decide, _, 2, rfl, fun i p hi => ?_⟩
  refine ⟨0, rfl, by simp, ?_⟩
  rw [hb.cell, hb.cell]
  match i, hi with
  | 0, hi => cases hi; exact ⟨rfl, rfl⟩
  | 1, hi => cases hi; exact ⟨rfl, rfl⟩
  | i + 2, hi => cases hi
set_option maxHeartbeats 4000000 in
theorem fixed_any (w : World) : Calls Try.prog 15 #[] w fun e w' => e = .returned (.bool true) ∧ Fr [] w w' := by
  have H13 : Hid (Calls Try.prog 13 #[.slice (some ⟨w.heap.size, 0, none⟩) 2 2] (w.alloc (.cells #[.int .i64 0, .int .i64 2, .int .i64 0, .int .i64 1] 100)) fun e w' => ∃ s p F g, e = .returned (.tuple #[ptr s, .int .i64 0]) ∧ Sf w w' s p F g xA 0) := Lib.hid ((Sd.new w.heap.size 2 2 _ ptF w _ (parts_at w) g0 ((Fr.refl [] w).alloc _)).mono fun e w' ⟨s, p, F, g, he, hS, _⟩ => ⟨s, p, F, g, he, ⟨hS⟩⟩)
  have H17a : Hid (∀ s p F g W, Sf w W s p F g xA 0 → Calls Try.prog 17 #[ptr s, .int .i64 0, .string s4F] W fun e w' => e = .returned (.int .i64 0) ∧ Sf w w' s p F g xB 1) := Lib.hid fun s p F g W h => (h.d.load 0 s4F).mono fun e w' ⟨he, hd⟩ => ⟨by rw [he, g1], ⟨hd⟩⟩
  have H53 : Hid (∀ W, Calls Try.prog 53 #[.int .i64 257] W fun e w' => e = .returned (.string (zeros 257)) ∧ Fr [] W w') := Lib.hid fun W => noughts_any 257 (by omega) W
  have H17b : Hid (∀ s p F g W, Sf w W s p F g xB 1 → Calls Try.prog 17 #[ptr s, .int .i64 1, .string (zeros 257)] W fun e w' => e = .returned (.int .i64 122) ∧ Sf w w' s p F g xC 2) := Lib.hid fun s p F g W h => (h.d.load 1 (zeros 257)).mono fun e w' ⟨he, hd⟩ => ⟨by rw [he, g2], ⟨hd⟩⟩
  have H19a : Hid (∀ s p F g W, Sf w W s p F g xC 2 → Calls Try.prog 19 #[ptr s, .int .i64 0, .int .i64 256, .string s2F] W fun e w' => e = .returned (.int .i64 0) ∧ Sf w w' s p F g xD 3) := Lib.hid fun s p F g W h => (h.d.out 0 256 s2F (by omega)).mono fun e w' ⟨he, hd⟩ => ⟨by rw [he, g3], ⟨hd⟩⟩
  have H19b : Hid (∀ s p F g W, Sf w W s p F g xD 3 → Calls Try.prog 19 #[ptr s, .int .i64 0, .int .i64 255, .string s1F] W fun e w' => e = .returned (.int .i64 121) ∧ Sf w w' s p F g xE 4) := Lib.hid fun s p F g W h => (h.d.out 0 255 s1F (by omega)).mono fun e w' ⟨he, hd⟩ => ⟨by rw [he, g4], ⟨hd⟩⟩
  have H20a : Hid (∀ s p F g W, Sf w W s p F g xE 4 → Calls Try.prog 20 #[ptr s, .int .i64 0, .int .i64 255, .int .i64 3] W fun e w' => e = .returned (.tuple #[.string ⟨#[0, 97, 98]⟩, .int .i64 0]) ∧ Sf w w' s p F g xE 5) := Lib.hid fun s p F g W h => (h.d.in_ 0 255 3 (by omega)).mono fun e w' ⟨he, hd⟩ => ⟨by rw [he, g5, g5'], ⟨hd⟩⟩
  have H20b : Hid (∀ s p F g W, Sf w W s p F g xE 5 → Calls Try.prog 20 #[ptr s, .int .i64 0, .int .i64 511, .int .i64 2] W fun e w' => (∃ S, e = .returned (.tuple #[.string S, .int .i64 121])) ∧ Sf w w' s p F g xE 6) := Lib.hid fun s p F g W h => (h.d.in_ 0 511 2 (by omega)).mono fun e w' ⟨he, hd⟩ => ⟨⟨inV xE 0 511 2, by rw [he, g6]⟩, ⟨hd⟩⟩
  have H20c : Hid (∀ s p F g W, Sf w W s p F g xE 6 → Calls Try.prog 20 #[ptr s, .int .i64 2, .int .i64 0, .int .i64 0] W fun e w' => (∃ S, e = .returned (.tuple #[.string S, .int .i64 120])) ∧ Sf w w' s p F g xE 7) := Lib.hid fun s p F g W h => (h.d.in_ 2 0 0 (by omega)).mono fun e w' ⟨he, hd⟩ => ⟨⟨inV xE 2 0 0, by rw [he, g7]⟩, ⟨hd⟩⟩
  have H51a : Hid (∀ s p F g W, Sf w W s p F g xE 7 → Calls Try.prog 51 #[ptr s, .int .i64 0] W fun e w' => (∃ b, e = .returned (.slice (some ⟨b, 0, none⟩) 2 2) ∧ PB w' b [⟨0, 5⟩, ⟨1, 3⟩]) ∧ Sf w w' s p F g xE 8) := Lib.hid fun s p F g W h => (h.d.table g8).mono fun e w' ⟨b, he, hB, _, _, hd⟩ => by rw [g10] at he hB; exact ⟨⟨b, he, hB⟩, ⟨hd⟩⟩
  have H51b : Hid (∀ s p F g W, Sf w W s p F g xE 8 → Calls Try.prog 51 #[ptr s, .int .i64 1] W fun e w' => (∃ b, e = .returned (.slice (some ⟨b, 0, none⟩) 1 1) ∧ PB w' b [⟨2, 3⟩]) ∧ Fr [] W w' ∧ Sf w w' s p F g xE 9) := Lib.hid fun s p F g W h => (h.d.table g9).mono fun e w' ⟨b, he, hB, _, hf, hd⟩ => by rw [g11] at he hB; exact ⟨⟨b, he, hB⟩, hf, ⟨hd⟩⟩
  have H52 : Hid (∀ s p F g W, Sf w W s p F g xE 9 → Calls Try.prog 52 #[ptr s] W fun e w' => e = .returned (ptr p) ∧ W = w') := Lib.hid fun s p F g W h => h.d.mem
  unfold s4F s2F s1F at *
  generalize zeros 257 = Z at *
  generalize xA = A at *
  generalize xB = B at *
  generalize xC = C at *
  generalize xD = D at *
  generalize xE = E at *
  go_enter Try.func15, Try.ntmps15
  go_wp2_with (first
    | (go_at_call 13; refine H13.out.mono ?_; clear H13; rintro e w1 ⟨s, p, F, g, rfl, hd⟩)
    | (go_at_call 17; refine (H17a.out _ _ _ _ _ hd).mono ?_; clear hd H17a; rintro e w1 ⟨rfl, hd⟩)
    | (go_at_call 17; refine (H17b.out _ _ _ _ _ hd).mono ?_; clear hd H17b; rintro e w1 ⟨rfl, hd⟩)
    | (go_at_call 53; refine (H53.out _).mono ?_; clear H53; rintro e w1 ⟨rfl, hf⟩; have hd := hd.to hf; clear hf)
    | (go_at_call 19; refine (H19a.out _ _ _ _ _ hd).mono ?_; clear hd H19a; rintro e w1 ⟨rfl, hd⟩)
    | (go_at_call 19; refine (H19b.out _ _ _ _ _ hd).mono ?_; clear hd H19b; rintro e w1 ⟨rfl, hd⟩)
    | (go_at_call 20; refine (H20a.out _ _ _ _ _ hd).mono ?_; clear hd H20a; rintro e w1 ⟨rfl, hd⟩)
    | (go_at_call 20; refine (H20b.out _ _ _ _ _ hd).mono ?_; clear hd H20b; rintro e w1 ⟨⟨S1, rfl⟩, hd⟩)
    | (go_at_call 20; refine (H20c.out _ _ _ _ _ hd).mono ?_; clear hd H20c; rintro e w1 ⟨⟨S2, rfl⟩, hd⟩)
    | (go_at_call 51; refine (H51a.out _ _ _ _ _ hd).mono ?_; clear hd H51a; rintro e w1 ⟨⟨b1, rfl, hB1⟩, hd⟩)
    | (go_at_call 51; refine (H51b.out _ _ _ _ _ hd).mono ?_; clear hd H51b; rintro e w2 ⟨⟨b2, rfl, hB2⟩, hf, hd⟩; have x0 := ((hB1.fr hf (by simp)).cells (j := 0) rfl).1; have x1 := ((hB1.fr hf (by simp)).cells (j := 0) rfl).2; have x2 := ((hB1.fr hf (by simp)).cells (j := 1) rfl).1; have x3 := ((hB1.fr hf (by simp)).cells (j := 1) rfl).2; have x4 := (hB2.cells (j := 0) rfl).1; have x5 := (hB2.cells (j := 0) rfl).2; simp only [Nat.zero_mul, Nat.one_mul, Nat.zero_add, Nat.reduceAdd] at x0 x1 x2 x3 x4 x5; clear hB1 hB2 hf)
    | (go_at_call 52; refine (H52.out _ _ _ _ _ hd).mono ?_; clear H52; rintro e w3 ⟨rfl, rfl⟩)
    | fail)
  go_ret
  exact ⟨rfl, hd.d.fr⟩
end Go.Proofs.Ytonongaakieciaa
