/- BlockApart: the plain part; block.New where it refuses. -/
import Derived.Test.YthmnloapjdalpaaL16
import Derived.Test.YthmnloapjdalpaaL8
namespace Go.Proofs.Ythmnloapjdalpaa
open Go.RowKit
set_option linter.unusedVariables false
set_option linter.unusedSimpArgs false
set_option maxRecDepth 100000 in
theorem NewB_bad {w0 w : World} {p : Nat} {d : Dk} (h : Dd w0 w p d) (f c k : Int) (hf : f ≤ 9223372036854775807) (hE : newBE d f c k ≠ 0) : Calls Try.prog 23 #[ptr p, .int .i64 f, .int .i64 c, .int .i64 k] w fun e w' => e = .returned (.tuple #[.pointer none, .int .i64 150]) ∧ w = w' := by
  have hh : f < 0 ∨ c < 1 ∨ (d.n : Int) < f ∨ (d.n : Int) - f < c ∨ k < 0 ∨ 16 < k := by
    unfold newBE at hE
    split at hE
    · assumption
    · exact absurd rfl hE
  have hn := h.ok.n2
  have hC := Lib.hid h.count
  obtain ⟨N, hN⟩ : ∃ N, d.n = N := ⟨_, rfl⟩
  rw [hN] at hh hC hn
  clear h hE hN
  by_cases h1 : f < 0
  · clear hh
    go_enter Try.func23, Try.ntmps23
    go_wp2_with (go_at_call 29; refine hC.out.mono ?_; rintro e w1 ⟨rfl, rfl⟩)
    go_ret2
    exact ⟨rfl, rfl⟩
  by_cases h2 : c < 1
  · clear hh
    go_enter Try.func23, Try.ntmps23
    go_wp2_with (go_at_call 29; refine hC.out.mono ?_; rintro e w1 ⟨rfl, rfl⟩)
    go_ret2
    exact ⟨rfl, rfl⟩
  by_cases h3 : (N : Int) < f
  · clear hh
    go_enter Try.func23, Try.ntmps23
    go_wp2_with (go_at_call 29; refine hC.out.mono ?_; rintro e w1 ⟨rfl, rfl⟩)
    go_ret2
    exact ⟨rfl, rfl⟩
  have hw : IntKind.i64.wrap ((N : Int) - f) = (N : Int) - f := IntWalk.i64_in _ (by omega)
  by_cases h4 : (N : Int) - f < c
  · clear hh
    go_enter Try.func23, Try.ntmps23
    go_wp2_with (go_at_call 29; refine hC.out.mono ?_; rintro e w1 ⟨rfl, rfl⟩)
    go_ret2
    exact ⟨rfl, rfl⟩
  by_cases h5 : k < 0
  · clear hh
    go_enter Try.func23, Try.ntmps23
    go_wp2_with (go_at_call 29; refine hC.out.mono ?_; rintro e w1 ⟨rfl, rfl⟩)
    go_ret2
    exact ⟨rfl, rfl⟩
  · have h6 : 16 < k := by omega
    clear hh
    go_enter Try.func23, Try.ntmps23
    go_wp2_with (go_at_call 29; refine hC.out.mono ?_; rintro e w1 ⟨rfl, rfl⟩)
    go_ret2
    exact ⟨rfl, rfl⟩
/-- Outside some sectors all is as it was. -/
structure Outside (f c : Nat) (d d' : Dk) : Prop where
  n : d'.n = d.n
  u : ∀ k, ¬ (f ≤ k ∧ k < f + c) → d'.u k = d.u k
  s : ∀ i, ¬ (f ≤ i / 128 ∧ i / 128 < f + c) → d'.s i = d.s i
theorem Outside.refl (f c : Nat) (d : Dk) : Outside f c d d := ⟨rfl, fun _ _ => rfl, fun _ _ => rfl⟩
theorem Outside.trans {f c : Nat} {d d' d'' : Dk} (h : Outside f c d d') (k : Outside f c d' d'') : Outside f c d d'' := ⟨k.n.trans h.n, fun x hx => (k.u x hx).trans (h.u x hx), fun x hx => (k.s x hx).trans (h.s x hx)⟩
theorem Outside.put {f c : Nat} (d : Dk) (i : Nat) (t : ByteArray) (hi : f ≤ i ∧ i < f + c) : Outside f c d (d.put i t) := ⟨rfl, fun k hk => by
  show (if k = i then some t else d.u k) = _
  rw [if_neg (by omega)], fun _ _ => rfl⟩
theorem Outside.settle {f c : Nat} (d : Dk) : Outside f c d (d.settle f (f + c)) := ⟨rfl, fun k hk => by
  show (if _ then none else d.u k) = _
  rw [if_neg hk], fun i hi => by
  show (if _ then _ else d.s i) = _
  rw [if_neg hi]⟩
theorem Outside.image {f c : Nat} {d d' : Dk} (h : Outside f c d d') (a b : Nat) (hab : a ≤ b) (hb : b ≤ 128 * d.n) (ho : b ≤ 128 * f ∨ 128 * (f + c) ≤ a) : d'.image.extract a b = d.image.extract a b := by
  unfold Dk.image
  rw [h.n, bs_extract _ _ _ _ _ hab hb, bs_extract _ _ _ _ _ hab hb]
  refine bs_congr fun i hi => ?_
  have hne : ¬ (f ≤ (0 + a + i) / 128 ∧ (0 + a + i) / 128 < f + c) := by omega
  unfold rdB
  rw [h.u _ hne, h.s _ hne]
theorem Outside.safe {f c : Nat} {d d' : Dk} (h : Outside f c d d') (a b : Nat) (hab : a ≤ b) (hb : b ≤ 128 * d.n) (ho : b ≤ 128 * f ∨ 128 * (f + c) ≤ a) : d'.safe.extract a b = d.safe.extract a b := by
  unfold Dk.safe
  rw [h.n, bs_extract _ _ _ _ _ hab hb, bs_extract _ _ _ _ _ hab hb]
  refine bs_congr fun i hi => ?_
  have hne : ¬ (f ≤ (0 + a + i) / 128 ∧ (0 + a + i) / 128 < f + c) := by omega
  rw [h.s _ hne]
theorem writeD_out {b : Bv} {d : Dk} (h : d.Calm) (i : Int) (t : ByteArray) (n : Int) : Outside b.first b.count d (b.writeD d i t n) ∧ (b.writeD d i t n).Calm := by
  unfold Bv.writeD
  split
  · exact ⟨Outside.refl _ _ _, h⟩
  · rename_i ha
    split
    · exact ⟨Outside.refl _ _ _, h⟩
    · obtain ⟨-, h1, h2⟩ := askedE_ok (b := b) (d := d) (i := i) (by omega)
      refine ⟨?_, (h.write _ _).1⟩
      rw [h.writeS]
      split
      · exact Outside.put d _ _ (by omega)
      · exact Outside.refl _ _ _
theorem barrierD_out {b : Bv} {d : Dk} (h : d.Calm) : Outside b.first b.count d (b.barrierD d) ∧ (b.barrierD d).Calm := by
  unfold Bv.barrierD
  rw [h.d]
  simp only [Bool.false_eq_true, if_false]
  refine ⟨?_, (h.flush _ _).1⟩
  rw [h.flushS]
  split
  · rw [show ((b.first : Int) + (b.count : Int)).toNat = b.first + b.count by omega, show ((b.first : Nat) : Int).toNat = b.first by omega]
    exact Outside.settle d
  · exact Outside.refl _ _ _
theorem readB_same (b : Bv) (d : Dk) (i : Int) : (b.readB d i).first = b.first ∧ (b.readB d i).count = b.count ∧ (b.readB d i).misses ≤ b.misses + 1 := by
  unfold Bv.readB
  split
  · exact ⟨rfl, rfl, by omega⟩
  · split
    · exact ⟨rfl, rfl, Nat.le_succ _⟩
    · split
      · exact ⟨rfl, rfl, Nat.le_refl _⟩
      · exact ⟨rfl, rfl, Nat.le_refl _⟩
theorem writeB_same (b : Bv) (d : Dk) (i : Int) (t : ByteArray) (n : Int) : (b.writeB d i t n).first = b.first ∧ (b.writeB d i t n).count = b.count ∧ (b.writeB d i t n).misses = b.misses := by
  unfold Bv.writeB
  split
  · exact ⟨rfl, rfl, rfl⟩
  · exact ⟨rfl, rfl, rfl⟩
end Go.Proofs.Ythmnloapjdalpaa
