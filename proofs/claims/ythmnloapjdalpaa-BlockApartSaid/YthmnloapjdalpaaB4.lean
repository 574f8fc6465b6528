/- block.Parse; the document's Parse. -/
import Derived.Test.YthmnloapjdalpaaB3
namespace Go.Proofs.Ythmnloapjdalpaa
open Go.RowKit
set_option linter.unusedVariables false
set_option linter.unusedSimpArgs false
structure ParP (s X Y : ByteArray) (T S C : Nat) : Prop where
  sz : s.size = 128
  x : s.extract 0 116 = X
  xs : X.size = 116
  y : (s.extract 116 120) = Y
  st : stampOf s = T
  su : sumOf s = S
  c : (crc X.data.toList).toNat = C
  cl : C < 4294967296
  tl : T < 18446744073709551616
theorem parP (s : ByteArray) (h : s.size = 128) : ∃ X Y T S C, ParP s X Y T S C :=
  ⟨_, _, _, _, _, h, rfl, by rw [ByteArray.size_extract]; omega, rfl, rfl, rfl, rfl, (crc _).isLt, by
    have := big_lt (s.extract 120 s.size).data.toList
    have h2 : (s.extract 120 s.size).data.toList.length = 8 := by
      have : (s.extract 120 s.size).data.toList.length = (s.extract 120 s.size).size := rfl
      rw [this, ByteArray.size_extract]
      omega
    rw [h2] at this
    exact Nat.lt_of_lt_of_le this (by decide)⟩
theorem ParP.e {s X Y : ByteArray} {T S C : Nat} (h : ParP s X Y T S C) : parseE s = if 4611686018427387904 < T ∨ S ≠ C then 153 else 0 := by
  unfold parseE
  rw [if_neg (by have := h.sz; omega), h.st, h.su, h.x, h.c]
def ParseR (s : ByteArray) : Value := .tuple #[.string (parseD s), .int .i64 (parseN s : Int), .int .i64 (parseE s)]
theorem parseR_bad {s : ByteArray} {e : Int} (h : parseE s = e) (he : e ≠ 0) : ParseR s = .tuple #[.string ⟨#[]⟩, .int .i64 0, .int .i64 e] := by
  unfold ParseR parseD parseN
  rw [h, if_neg he, if_neg he]
  rfl
theorem parseR_ok {s X Y : ByteArray} {T S C : Nat} (h : ParP s X Y T S C) (he : parseE s = 0) : ParseR s = .tuple #[.string X, .int .i64 (T : Int), .int .i64 0] := by
  unfold ParseR parseD parseN
  rw [he, if_pos rfl, if_pos rfl, h.x, h.st]
set_option maxRecDepth 100000 in
theorem Parse_any (s : ByteArray) (w : World) (hs : s.size ≤ maxLen) : Calls Try.prog 17 #[.string s] w fun e w' => e = .returned (ParseR s) ∧ Fr [] w w' := by
  simp only [maxLen] at hs
  by_cases h : s.size = 128
  · obtain ⟨X, Y, T, S, C, hP⟩ := parP s h
    have HP := Lib.hid hP
    have m1 := fun wx => (sl_h s 116 (116 : Int) rfl wx (by omega)).trans (by rw [hP.x])
    have m2 := fun wx => (sl_lh s 116 120 (116 : Int) (120 : Int) rfl rfl wx (by omega) (by omega)).trans (by rw [hP.y])
    have h58 := Lib.hid (stamped_any s h)
    have hYs : Y.size = 4 := by rw [← hP.y, ByteArray.size_extract]; omega
    have h59 := Lib.hid (fun W => (show Calls Try.prog 59 #[.string Y] W fun e w' => e = .returned (.int .u64 (S : Int)) ∧ W = w' by
      have := of_any Y (by omega) W
      rw [← hP.y] at this ⊢
      rw [← hP.su]
      exact this))
    have h54 := Lib.hid (fun W => (show Calls Try.prog 54 #[.string X] W fun e w' => e = .returned (.int .u32 (C : Int)) ∧ Fr [] W w' by
      have := sum_any X W (by rw [hP.xs]; simp [maxLen])
      rw [hP.c] at this
      exact this))
    have hE := hP.e
    have hcl := hP.cl
    have hcu : IntKind.u64.wrap (C : Int) = (C : Int) := u64_in _ (by omega) (by omega)
    have h128 : (s.size : Int) = 128 := by omega
    by_cases hT : T ≤ 4611686018427387904
    · have e1 : stampedE s = true := by unfold stampedE; rw [hP.st]; simpa using hT
      have e2 : stampedN s = T := by unfold stampedN; rw [e1, if_pos rfl, hP.st]
      rw [e1, e2] at h58
      by_cases hSC : S = C
      · have HR := Lib.hid (parseR_ok hP (by rw [hE, if_neg (by omega)]))
        subst hSC
        clear hE hP e1 e2 hYs
        generalize ParseR s = R at *
        go_enter Try.func17, Try.ntmps17
        go_wp2_with (first
          | (go_at_call 58; refine (h58.out _).mono ?_; rintro e w1 ⟨rfl, rfl⟩)
          | (go_at_call 59; refine (h59.out _).mono ?_; rintro e w2 ⟨rfl, rfl⟩)
          | (go_at_call 54; refine (h54.out _).mono ?_; rintro e w3 ⟨rfl, hf⟩))
        go_ret3
        exact ⟨by rw [HR.out]; rfl, hf⟩
      · have HR := Lib.hid (parseR_bad (e := 153) (by rw [hE, if_pos (.inr hSC)]) (by decide))
        have hSC' : ¬ (S : Int) = (C : Int) := by omega
        clear hE hP e1 e2 hYs hSC
        generalize ParseR s = R at *
        go_enter Try.func17, Try.ntmps17
        go_wp2_with (first
          | (go_at_call 58; refine (h58.out _).mono ?_; rintro e w1 ⟨rfl, rfl⟩)
          | (go_at_call 59; refine (h59.out _).mono ?_; rintro e w2 ⟨rfl, rfl⟩)
          | (go_at_call 54; refine (h54.out _).mono ?_; rintro e w3 ⟨rfl, hf⟩))
        go_ret3
        exact ⟨by rw [HR.out]; rfl, hf⟩
    · have e1 : stampedE s = false := by unfold stampedE; rw [hP.st]; simpa using hT
      have e2 : stampedN s = 0 := by unfold stampedN; rw [e1]; rfl
      rw [e1, e2] at h58
      have HR := Lib.hid (parseR_bad (e := 153) (by rw [hE, if_pos (.inl (by omega))]) (by decide))
      clear hE hP e1 e2 hYs hT
      generalize ParseR s = R at *
      go_enter Try.func17, Try.ntmps17
      go_wp2_with (first
        | (go_at_call 58; refine (h58.out _).mono ?_; rintro e w1 ⟨rfl, rfl⟩)
        | (go_at_call 59; refine (h59.out _).mono ?_; rintro e w2 ⟨rfl, rfl⟩)
        | (go_at_call 54; refine (h54.out _).mono ?_; rintro e w3 ⟨rfl, hf⟩))
      go_ret3
      exact ⟨by rw [HR.out]; rfl, Fr.refl _ _⟩
  · have HR := Lib.hid (parseR_bad (e := 152) (by unfold parseE; rw [if_pos h]) (by decide))
    have h' : ¬ (s.size : Int) = 128 := by omega
    generalize ParseR s = R at *
    go_enter Try.func17, Try.ntmps17
    go_wp2_with fail
    go_ret3
    exact ⟨by rw [HR.out]; rfl, Fr.refl _ _⟩
end Go.Proofs.Ythmnloapjdalpaa
