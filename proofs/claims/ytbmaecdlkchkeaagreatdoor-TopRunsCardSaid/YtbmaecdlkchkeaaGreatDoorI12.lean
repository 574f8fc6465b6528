/- label, of the program: the plain laws. label, of the program: the walk. -/
import Derived.Test.YtbmaecdlkchkeaaGreatDoorI6
import Derived.Test.YtbmaecdlkchkeaaGreatDoorShT
namespace Go.Proofs.YtbmaecdlkchkeaaGreatDoor
open Go.RowKit
set_option linter.unusedVariables false
set_option linter.unusedSimpArgs false
set_option maxRecDepth 100000
def lcL : List UInt8 := [97, 98, 99, 100, 101, 102, 103, 104, 105, 106, 107, 108, 109, 110, 111, 112, 113, 114, 115, 116, 117, 118, 119, 120, 121, 122]
def ldL : List UInt8 := lcL ++ [48, 49, 50, 51, 52, 53, 54, 55, 56, 57]
theorem lc_at : ∀ n, n < 256 → isLc (UInt8.ofNat n) = decide (0 ≤ Lib.indexByte lcL (UInt8.ofNat n)) := by decide
theorem ld_at : ∀ n, n < 256 → isLd (UInt8.ofNat n) = ldL.contains (UInt8.ofNat n) := by decide
theorem lc_of (b : UInt8) : isLc b = decide (0 ≤ Lib.indexByte lcL b) := by
  have := lc_at b.toNat (UInt8.toNat_lt b)
  rwa [UInt8.ofNat_toNat] at this
theorem ld_of (b : UInt8) : isLd b = ldL.contains b := by
  have := ld_at b.toNat (UInt8.toNat_lt b)
  rwa [UInt8.ofNat_toNat] at this
theorem dropWhile_nil {p : UInt8 → Bool} : ∀ l : List UInt8, l.dropWhile p = [] ↔ l.all p = true
  | [] => by simp
  | b :: r => by
    cases hb : p b with
    | true => rw [List.dropWhile_cons_of_pos hb, dropWhile_nil r, List.all_cons, hb, Bool.true_and]
    | false =>
      rw [List.dropWhile_cons_of_neg (by rw [hb]; simp), List.all_cons, hb]
      simp
theorem dropWhile_all {p : UInt8 → Bool} : ∀ l : List UInt8, (l.dropWhile p).all p = true → l.all p = true
  | [], _ => rfl
  | b :: r, h => by
    cases hb : p b with
    | true =>
      rw [List.dropWhile_cons_of_pos hb] at h
      rw [List.all_cons, hb, Bool.true_and]
      exact dropWhile_all r h
    | false =>
      rw [List.dropWhile_cons_of_neg (by rw [hb]; simp), List.all_cons, hb] at h
      cases h
theorem trim_nil (l : List UInt8) : Lib.trimS l ldL = [] ↔ l.all isLd = true := by
  have hp : l.all isLd = l.all (ldL.contains ·) := by
    congr 1
    funext b
    exact ld_of b
  rw [hp]
  unfold Lib.trimS Lib.trimLeftS Lib.trimRightS
  rw [dropWhile_nil, List.all_reverse]
  constructor
  · intro h
    have := dropWhile_all _ h
    rwa [List.all_reverse] at this
  · intro h
    have : l.reverse.all (ldL.contains ·) = true := by rw [List.all_reverse]; exact h
    rw [(dropWhile_nil _).2 this]
    rfl
theorem isLab_is (b : UInt8) (r : List UInt8) : isLab (b :: r) = (decide ((b :: r).length ≤ 12) && decide (0 ≤ Lib.indexByte lcL b) && decide (Lib.trimS (b :: r) ldL = [])) := by
  have h1 : isLab (b :: r) = (isLc b && r.all isLd && decide (r.length ≤ 11)) := rfl
  have h2 : decide ((b :: r).length ≤ 12) = decide (r.length ≤ 11) := by
    rw [decide_eq_decide, List.length_cons]
    omega
  have h3 : decide (Lib.trimS (b :: r) ldL = []) = (isLd b && r.all isLd) := by
    rw [Bool.eq_iff_iff, decide_eq_true_iff, trim_nil, List.all_cons]
  have h4 : isLc b = true → isLd b = true := fun h => by unfold isLd; rw [h]; rfl
  rw [h1, h2, h3, ← lc_of]
  cases hc : isLc b with
  | false => simp
  | true => rw [h4 hc]; cases r.all isLd <;> cases decide (r.length ≤ 11) <;> rfl
theorem Trim_ld (s : ByteArray) (hs : s.size ≤ 281474976710656) (w : World) : Calls Tryz.prog 54 #[.string s, .string ⟨ldL.toArray⟩] w fun e w' => e = .returned (.string ⟨(Lib.trimS s.data.toList ldL).toArray⟩) ∧ Fr [] w w' := by
  refine (Any.strings_Trim_laid Tryz.lays160 (by kernel_rfl) s ⟨ldL.toArray⟩ w (by omega) (by decide) ?_).mono ?_
  · intro j b h
    have h1 : ∀ x ∈ ldL, x.toNat < 128 := by decide
    exact h1 b (List.mem_of_getElem? h)
  · rintro e w' ⟨rfl, hb⟩
    exact ⟨rfl, Fr.of_below hb (Nat.le_refl _)⟩
end Go.Proofs.YtbmaecdlkchkeaaGreatDoor
namespace Go.Proofs.YtbmaecdlkchkeaaGreatDoor
open Go.RowKit
set_option linter.unusedVariables false
set_option linter.unusedSimpArgs false
set_option maxRecDepth 100000
theorem Idx_lc (b : UInt8) (w : World) : Calls Tryz.prog 53 #[.string ⟨#[97, 98, 99, 100, 101, 102, 103, 104, 105, 106, 107, 108, 109, 110, 111, 112, 113, 114, 115, 116, 117, 118, 119, 120, 121, 122]⟩, .int .u8 (b.toNat : Int)] w fun e w' => e = .returned (.int .i64 (Lib.indexByte lcL b)) ∧ w' = w := by
  refine (Tryz.strings_IndexByte ⟨#[97, 98, 99, 100, 101, 102, 103, 104, 105, 106, 107, 108, 109, 110, 111, 112, 113, 114, 115, 116, 117, 118, 119, 120, 121, 122]⟩ (b.toNat : Int) w).mono ?_
  rintro e w' ⟨rfl, rfl⟩
  have h : ((b.toNat : Int)).toNat.toUInt8 = b := by simp
  rw [h]
  exact ⟨rfl, rfl⟩
set_option maxHeartbeats 4000000 in
theorem label_any (s : ByteArray) (hs : s.size ≤ 281474976710656) (w : World) : Calls Tryz.prog 22 #[.string s] w fun e w' => e = .returned (.bool (isLab s.data.toList)) ∧ Fr [] w w' := by
  cases hl : s.data.toList with
  | nil =>
    obtain rfl : s = ⟨#[]⟩ := by
      cases s with
      | mk x => congr 1; exact Array.toList_inj.1 hl
    go_enter Tryz.func22, Tryz.ntmps22
    go_wp2
    go_ret
    exact ⟨rfl, Fr.refl _ _⟩
  | cons b r =>
    have hsz : s.data.toList.length = s.size := rfl
    have h0 : 0 < s.size := by rw [← hsz, hl]; simp
    have h0i : (0 : Int) < (s.size : Int) := by omega
    have hz : ¬ s.toList = [] := by rw [ByteArray.toList_eq, hl]; simp
    have hb0 : ∀ h, (s[0]'h) = b := fun h => by
      have e : s.data.toList[0]? = some (s[0]'h) := List.getElem?_eq_getElem (by exact h)
      rw [hl] at e
      injection e with e
      exact e.symm
    have E := Lib.hid (isLab_is b r)
    rw [← hl, hsz] at E
    have e12 : decide (s.size ≤ 12) = decide ((s.size : Int) ≤ 12) := by
      rw [decide_eq_decide]
      omega
    rw [e12] at E
    have HI := Lib.hid (fun W => Idx_lc b W)
    have HT := Lib.hid (fun W => Trim_ld s hs W)
    have hR : isLab (b :: r) = isLab s.data.toList := by rw [hl]
    rw [hR]
    clear hR
    have HZ : Hid (s.toList.isEmpty = false) := Lib.hid (by simpa using hz)
    generalize isLab s.data.toList = R at *
    generalize Lib.indexByte lcL b = I at *
    generalize Lib.trimS s.data.toList ldL = T at *
    clear hl
    go_enter Tryz.func22, Tryz.ntmps22
    go_wp2_with (first
      | (go_at_call 53; refine (HI.out _).mono ?_; rintro e w1 ⟨rfl, rfl⟩)
      | (go_at_call 54; refine (HT.out _).mono ?_; rintro e w2 ⟨rfl, hf⟩; have HF := Lib.hid hf; clear hf)
      | fail)
    all_goals
      go_ret
      refine ⟨?_, by first | exact HF.out | exact Fr.refl _ _⟩
      have hz9 := HZ.out
      rw [E.out]
      cases T <;> simp_all <;> (try (intros; omega))
end Go.Proofs.YtbmaecdlkchkeaaGreatDoor
