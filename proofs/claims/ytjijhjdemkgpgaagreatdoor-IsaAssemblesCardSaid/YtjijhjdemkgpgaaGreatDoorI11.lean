/- label, of the program: the plain laws. -/
import Derived.Test.YtjijhjdemkgpgaaGreatDoorI6
import Derived.Test.YtjijhjdemkgpgaaGreatDoorShT
namespace Go.Proofs.YtjijhjdemkgpgaaGreatDoor
open Go.RowKit
set_option linter.unusedVariables false
set_option linter.unusedSimpArgs false
set_option maxRecDepth 100000
def lcL : List UInt8 := [97, 98, 99, 100, 101, 102, 103, 104, 105, 106, 107, 108, 109, 110, 111, 112, 113, 114, 115, 116, 117, 118, 119, 120, 121, 122]
def ldL : List UInt8 := lcL ++ [48, 49, 50, 51, 52, 53, 54, 55, 56, 57]
theorem lc_at : ∀ n, n < 256 → isLc (UInt8.ofNat n) = decide (0 ≤ Lib.indexByte lcL (UInt8.ofNat n)) := by decide
theorem ld_at : ∀ n, n < 256 → isLd (UInt8.ofNat n) = ldL.contains (UInt8.ofNat n) := by decide
theorem lc_of (b : UInt8) : isLc b = decide (0 ≤ Lib.indexByte lcL b) := by
  have := lc_at b.toNat (UInt8.toNat_lt b)
  rwa [UInt8.ofNat_toNat] at this
theorem ld_of (b : UInt8) : isLd b = ldL.contains b := by
  have := ld_at b.toNat (UInt8.toNat_lt b)
  rwa [UInt8.ofNat_toNat] at this
theorem dropWhile_nil {p : UInt8 → Bool} : ∀ l : List UInt8, l.dropWhile p = [] ↔ l.all p = true
  | [] => by simp
  | b :: r => by
    cases hb : p b with
    | true => rw [List.dropWhile_cons_of_pos hb, dropWhile_nil r, List.all_cons, hb, Bool.true_and]
    | false =>
      rw [List.dropWhile_cons_of_neg (by rw [hb]; simp), List.all_cons, hb]
      simp
theorem dropWhile_all {p : UInt8 → Bool} : ∀ l : List UInt8, (l.dropWhile p).all p = true → l.all p = true
  | [], _ => rfl
  | b :: r, h => by
    cases hb : p b with
    | true =>
      rw [List.dropWhile_cons_of_pos hb] at h
      rw [List.all_cons, hb, Bool.true_and]
      exact dropWhile_all r h
    | false =>
      rw [List.dropWhile_cons_of_neg (by rw [hb]; simp), List.all_cons, hb] at h
      cases h
theorem trim_nil (l : List UInt8) : Lib.trimS l ldL = [] ↔ l.all isLd = true := by
  have hp : l.all isLd = l.all (ldL.contains ·) := by
    congr 1
    funext b
    exact ld_of b
  rw [hp]
  unfold Lib.trimS Lib.trimLeftS Lib.trimRightS
  rw [dropWhile_nil, List.all_reverse]
  constructor
  · intro h
    have := dropWhile_all _ h
    rwa [List.all_reverse] at this
  · intro h
    have : l.reverse.all (ldL.contains ·) = true := by rw [List.all_reverse]; exact h
    rw [(dropWhile_nil _).2 this]
    rfl
theorem isLab_is (b : UInt8) (r : List UInt8) : isLab (b :: r) = (decide ((b :: r).length ≤ 12) && decide (0 ≤ Lib.indexByte lcL b) && decide (Lib.trimS (b :: r) ldL = [])) := by
  have h1 : isLab (b :: r) = (isLc b && r.all isLd && decide (r.length ≤ 11)) := rfl
  have h2 : decide ((b :: r).length ≤ 12) = decide (r.length ≤ 11) := by
    rw [decide_eq_decide, List.length_cons]
    omega
  have h3 : decide (Lib.trimS (b :: r) ldL = []) = (isLd b && r.all isLd) := by
    rw [Bool.eq_iff_iff, decide_eq_true_iff, trim_nil, List.all_cons]
  have h4 : isLc b = true → isLd b = true := fun h => by unfold isLd; rw [h]; rfl
  rw [h1, h2, h3, ← lc_of]
  cases hc : isLc b with
  | false => simp
  | true => rw [h4 hc]; cases r.all isLd <;> cases decide (r.length ≤ 11) <;> rfl
theorem Trim_ld (s : ByteArray) (hs : s.size ≤ 281474976710656) (w : World) : Calls Tryz.prog 55 #[.string s, .string ⟨ldL.toArray⟩] w fun e w' => e = .returned (.string ⟨(Lib.trimS s.data.toList ldL).toArray⟩) ∧ Fr [] w w' := by
  refine (Any.strings_Trim_laid Tryz.lays160 (by kernel_rfl) s ⟨ldL.toArray⟩ w (by omega) (by decide) ?_).mono ?_
  · intro j b h
    have h1 : ∀ x ∈ ldL, x.toNat < 128 := by decide
    exact h1 b (List.mem_of_getElem? h)
  · rintro e w' ⟨rfl, hb⟩
    exact ⟨rfl, Fr.of_below hb (Nat.le_refl _)⟩
end Go.Proofs.YtjijhjdemkgpgaaGreatDoor
