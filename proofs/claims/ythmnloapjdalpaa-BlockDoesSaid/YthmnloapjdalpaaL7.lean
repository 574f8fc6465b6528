/- DiskFlushes: the plain part; the document's New where it refuses. -/
import Derived.Test.YthmnloapjdalpaaL6
namespace Go.Proofs.Ythmnloapjdalpaa
open Go.RowKit
set_option linter.unusedVariables false
set_option linter.unusedSimpArgs false
set_option maxRecDepth 100000 in
theorem rNew_bad (t : ByteArray) (w : World) (hs : t.size ≤ maxLen) (h : newE t ≠ 0) : Calls Try.prog 35 #[.string t] w fun e w' => e = .returned (.tuple #[.pointer none, .int .i64 70]) ∧ w = w' := by
  obtain ⟨-, h1⟩ := newE_bad h
  clear h
  simp only [maxLen] at hs
  have hdv : ((t.size : Nat) : Int).tdiv 128 = ((t.size / 128 : Nat) : Int) := by rw [Int.tdiv_eq_ediv_of_nonneg (by omega)]; omega
  obtain ⟨q, hq⟩ : ∃ q, t.size / 128 = q := ⟨_, rfl⟩
  rw [hq] at hdv
  have hm : IntKind.i64.wrap ((q : Int) * 128) = (q : Int) * 128 := IntWalk.i64_in _ (by omega)
  by_cases h2 : q = 0
  · have h3 : (q : Int) < 1 := by omega
    clear h1 h2
    go_enter Try.func35, Try.ntmps35
    go_wp2
    go_ret2
    exact ⟨rfl, rfl⟩
  · have h3 : ¬ (q : Int) < 1 := by omega
    by_cases h4 : q * 128 = t.size
    · have h5 : (q : Int) * 128 = (t.size : Int) := by omega
      have h6 : (4096 : Int) < (q : Int) := by omega
      clear h1 h2 h4
      go_enter Try.func35, Try.ntmps35
      go_wp2
      go_ret2
      exact ⟨rfl, rfl⟩
    · have h5 : ¬ (q : Int) * 128 = (t.size : Int) := by omega
      clear h1 h2 h4
      go_enter Try.func35, Try.ntmps35
      go_wp2
      go_ret2
      exact ⟨rfl, rfl⟩
theorem bs_extract (l : Nat → UInt8) (o n a b : Nat) (h1 : a ≤ b) (h2 : b ≤ n) : (bs l o n).extract a b = bs l (o + a) (b - a) := by
  refine ba_ext' (by rw [ByteArray.size_extract, bs_size, bs_size]; omega) fun i hi => ?_
  rw [ByteArray.size_extract, bs_size] at hi
  rw [bs_get _ _ _ _ (by omega), ByteArray.data_extract, Array.getElem?_extract, if_pos (by show i < min b (bs l o n).size - a; rw [bs_size]; omega), bs_get _ _ _ _ (by omega)]
  rw [Nat.add_assoc]
section
variable (s : ByteArray) (a b : Nat) (ia ib : Int) (ha : ia = a) (hb : ib = b) (wx : World)
include ha
theorem sl_l (h : a ≤ s.size) : (Instr.slice 9 (.string s) (some (.int .i64 ia)) none none).run Try.prog wx = .ok (.string (s.extract a s.size)) wx := by
  subst ha
  rw [run_slice_string_from_if (P := Try.prog) wx 9 s .i64 _ Try.underlying9, if_pos (by omega)]
  simp
theorem sl_h (h : a ≤ s.size) : (Instr.slice 9 (.string s) none (some (.int .i64 ia)) none).run Try.prog wx = .ok (.string (s.extract 0 a)) wx := by
  subst ha
  rw [run_slice_string_to_if (P := Try.prog) wx 9 s .i64 _ Try.underlying9, if_pos (by omega)]
  simp
include hb
theorem sl_lh (h : a ≤ b) (h2 : b ≤ s.size) : (Instr.slice 9 (.string s) (some (.int .i64 ia)) (some (.int .i64 ib)) none).run Try.prog wx = .ok (.string (s.extract a b)) wx := by
  subst ha; subst hb
  rw [run_slice_string (P := Try.prog) wx 9 s .i64 .i64 _ _ Try.underlying9 (by omega) (by omega) (by omega)]
  simp
end
theorem settle_rd (d : Dk) (a b : Nat) : rdB (d.settle a b) = rdB d := by
  funext i
  unfold rdB Dk.settle
  by_cases h : a ≤ i / 128 ∧ i / 128 < b
  · simp only [if_pos h]
    rfl
  · simp only [if_neg h]
theorem settle_image (d : Dk) (a b : Nat) : (d.settle a b).image = d.image := by
  unfold Dk.image
  rw [settle_rd]
  rfl
/-- What a flush of f and c further ones tells. -/
structure FlP (d d' : Dk) (f c : Nat) (l : List Int) (P1 P2 P3 : ByteArray) : Prop where
  im : d'.image = d.image
  a1 : d'.safe.extract 0 (128 * f) = P1
  b1 : d.safe.extract 0 (128 * f) = P1
  a2 : d'.safe.extract (128 * (f + c)) d'.safe.size = P2
  b2 : d.safe.extract (128 * (f + c)) d.safe.size = P2
  a3 : d'.safe.extract (128 * f) (128 * (f + c)) = P3
  b3 : d.image.extract (128 * f) (128 * (f + c)) = P3
  c3 : (d'.after l).extract (128 * f) (128 * (f + c)) = P3
theorem flP (d : Dk) (f c : Nat) (l : List Int) (h : f + c ≤ d.n) : ∃ P1 P2 P3, FlP d (d.settle f (f + c)) f c l P1 P2 P3 := by
  have es : (d.settle f (f + c)).safe.size = 128 * d.n := bs_size _ _ _
  have es' : d.safe.size = 128 * d.n := bs_size _ _ _
  refine ⟨_, _, _, settle_image d _ _, rfl, ?_, rfl, ?_, rfl, ?_, ?_⟩
  · unfold Dk.safe
    rw [bs_extract _ _ _ _ _ (by omega) (by omega), bs_extract _ _ _ _ _ (by omega) (by show _ ≤ 128 * d.n; omega)]
    refine bs_congr fun i hi => ?_
    show d.s _ = if _ then _ else d.s _
    rw [if_neg (by omega)]
  · rw [es, es']
    unfold Dk.safe
    rw [bs_extract _ _ _ _ _ (by omega) (by omega), bs_extract _ _ _ _ _ (by omega) (by show _ ≤ 128 * d.n; omega)]
    refine bs_congr fun i hi => ?_
    show d.s _ = if _ then _ else d.s _
    rw [if_neg (by omega)]
  · unfold Dk.safe Dk.image
    rw [bs_extract _ _ _ _ _ (by omega) (by omega), bs_extract _ _ _ _ _ (by omega) (by show _ ≤ 128 * d.n; omega)]
    refine bs_congr fun i hi => ?_
    show _ = if _ then _ else d.s _
    rw [if_pos (by omega)]
  · unfold Dk.safe Dk.after
    rw [bs_extract _ _ _ _ _ (by omega) (by show _ ≤ 128 * d.n; omega), bs_extract _ _ _ _ _ (by omega) (by show _ ≤ 128 * d.n; omega)]
    refine bs_congr fun i hi => ?_
    have hu : (d.settle f (f + c)).u ((0 + 128 * f + i) / 128) = none := by
      show (if _ then none else _) = none
      rw [if_pos (by omega)]
    unfold leftB
    rw [hu]
theorem image_size (d : Dk) : d.image.size = 128 * d.n := bs_size _ _ _
theorem safe_size (d : Dk) : d.safe.size = 128 * d.n := bs_size _ _ _
theorem after_sz (d : Dk) (l : List Int) : (d.after l).size = 128 * d.n := bs_size _ _ _
theorem flush_ok {d : Dk} (h : d.Calm) (f c : Nat) (hf : f + c ≤ d.n) : d.flushE f c = 0 ∧ d.flushS f c = d.settle f (f + c) := by
  have h0 : d.flushE0 f c = 0 := by
    unfold Dk.flushE0
    rw [h.d, if_neg (by simp), if_neg (by omega)]
  refine ⟨by rw [h.flushE, h0], ?_⟩
  rw [h.flushS, if_pos h0, show ((f : Int) + (c : Int)).toNat = f + c by omega, show ((f : Nat) : Int).toNat = f by omega]
end Go.Proofs.Ythmnloapjdalpaa
