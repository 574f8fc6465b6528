/- What a line's last letter, its word and its reading come to, plain. -/
import Derived.Test.YtjijhjdemkgpgaaGreatDoorZ17
namespace Go.Proofs.YtjijhjdemkgpgaaGreatDoor
open Go.RowKit
set_option linter.unusedVariables false
set_option linter.unusedSimpArgs false
set_option maxRecDepth 100000
/-- What the code asks of a line's last letter, and of what stands ahead of it. -/
theorem last_facts {T : ByteArray} {l : List UInt8} (hT : T.data.toList = l) (h0 : l ≠ []) (h8 : l.length ≤ 32768) : ∃ (m : Nat) (b : UInt8) (X : ByteArray), l.getLast? = some b ∧ X = ⟨l.dropLast.toArray⟩ ∧ T.extract 0 m = X ∧ X.size ≤ 281474976710656 ∧ (T.size : Int) - 1 = (m : Int) ∧ IntKind.i64.wrap (m : Int) = (m : Int) ∧ m < T.size ∧ (m : Int) < (T.size : Int) ∧ (0 : Int) ≤ (m : Int) ∧ (m : Int) ≤ (T.size : Int) ∧ (∀ h, (T[m]'h).toNat = b.toNat) ∧ (T.toList == []) = false := by
  have hs : T.size = l.length := by rw [← hT]; rfl
  have hpos : 0 < l.length := List.length_pos_iff.2 h0
  obtain ⟨m, hm⟩ : ∃ m, l.length = m + 1 := ⟨l.length - 1, by omega⟩
  have hml : m < l.length := by omega
  obtain ⟨b, hb⟩ : ∃ b, l[m]? = some b := ⟨_, List.getElem?_eq_getElem hml⟩
  refine ⟨m, b, _, ?_, rfl, ?_, ?_, by omega, IntWalk.i64_in _ (by omega), by omega, by omega, by omega, by omega, bget hT hb, ?_⟩
  · rw [List.getLast?_eq_getElem?, hm]
    exact hb
  · exact bext (by rw [Lib.extract_from_zero, hT, List.dropLast_eq_take, hm]; rfl)
  · show l.dropLast.length ≤ _
    rw [List.length_dropLast]
    omega
  · rw [Lib.toList_data, hT]
    cases l with
    | nil => exact absurd rfl h0
    | cons a r => rfl
/-- A label's line? -/
def labB (l : List UInt8) (b : UInt8) : Bool := decide (b = 58) && isLab l.dropLast
theorem labB_line {l : List UInt8} {b : UInt8} (h0 : l ≠ []) (hb : l.getLast? = some b) (h : labB l b = true) : lineK l = .lab l.dropLast ∧ isLab l.dropLast = true ∧ b = 58 := by
  unfold labB at h
  rw [Bool.and_eq_true, decide_eq_true_iff] at h
  obtain ⟨rfl, h2⟩ := h
  exact ⟨lineK_lab h0 hb h2, h2, rfl⟩
theorem labB_code {l : List UInt8} {b : UInt8} (h0 : l ≠ []) (hb : l.getLast? = some b) (h : labB l b = false) {is : Bool} (his : is = (readV true l).2.2) (ks : List LK) (n size : Nat) (pl : Pl) :
    pass1 (lineK l :: ks) n size pl = if (is || (wordK l).isSome) = true then (if 4096 < size + 4 then .bad (n + 1) 94 else pass1 ks (n + 1) (size + 4) pl) else .bad (n + 1) 92 := by
  rw [pass1_code h0 ?_, his]
  · simp only [Bool.or_eq_true]
  · rintro ⟨h1, h2⟩
    rw [trim_suffix h1] at h2
    have h3 := (suffix_iff l).1 h1
    rw [hb] at h3
    injection h3 with h3
    unfold labB at h
    rw [h2, h3] at h
    cases h
/-- What the code makes of a word. -/
theorem word_no {l : List UInt8} (h : ¬ (5 < l.length ∧ l.take 5 = [119, 111, 114, 100, 32])) : wordK l = none := by rw [wordK_R, if_neg h]
theorem word_yes {l : List UInt8} (h : 5 < l.length ∧ l.take 5 = [119, 111, 114, 100, 32]) : (wordK l).isSome = ((numR (l.drop 5)).isSome && decide ((numR (l.drop 5)).getD 0 < 4294967296)) := by
  rw [wordK_R, if_pos h]
  cases numR (l.drop 5) with
  | none => rfl
  | some n =>
    simp only [Option.isSome_some, Option.getD_some, Bool.true_and]
    by_cases h2 : n < 4294967296
    · rw [if_pos h2, decide_eq_true h2]
      rfl
    · rw [if_neg h2, decide_eq_false h2]
      rfl
theorem readR_some {l : List UInt8} {i : In} {lb : List UInt8} (h : readG numP (fun _ => numP) true l = some (i, lb)) : readR true l = (i, lb, true) := by
  have hg := readR_G true l
  rw [← read_same, h] at hg
  by_cases hc : (readR true l).2.2 = true
  · rw [if_pos hc] at hg
    injection hg with hg
    injection hg with h1 h2
    have : readR true l = ((readR true l).1, (readR true l).2.1, (readR true l).2.2) := rfl
    rw [this, hc, ← h1, ← h2]
  · rw [if_neg hc] at hg
    cases hg
theorem readR_none {l : List UInt8} (h : readG numP (fun _ => numP) true l = none) : (readR true l).2.2 = false := by
  have hg := readR_G true l
  rw [← read_same, h] at hg
  by_cases hc : (readR true l).2.2 = true
  · rw [if_pos hc] at hg
    cases hg
  · simpa using hc
/-- A line that isn't refused, no instruction, and begins as a word does, is a word. -/
theorem word_at {l : List UInt8} (hP : 5 < l.length ∧ l.take 5 = [119, 111, 114, 100, 32]) (hr : readG numP (fun _ => numP) true l = none) (hnb : lineK l ≠ .bad) : ∃ v, numR (l.drop 5) = some v ∧ lineK l = .wrd v ∧ v < 4294967296 := by
  cases hw : wordK l with
  | none =>
    exfalso
    apply hnb
    unfold lineK
    rw [if_neg (by rintro rfl; exact absurd hP.1 (by decide)), if_neg (fun h => lab_noword h.2 hP), hr, hw]
  | some v =>
    obtain ⟨h1, h2⟩ := lineK_wrd hw
    refine ⟨v, ?_, h1, h2⟩
    rw [wordK_R, if_pos hP] at hw
    cases hn : numR (l.drop 5) with
    | none => rw [hn] at hw; cases hw
    | some n =>
      rw [hn] at hw
      simp only at hw
      split at hw
      · exact hw
      · cases hw
theorem findI_same {pr pl : Pl} (h : ∀ x, findP pr x = findP pl x) (x : List UInt8) : findI pr x = match findP pl x with | some a => (a : Int) | none => -1 := by
  unfold findI
  rw [h x]
  rfl
theorem label_len {l : List UInt8} {i : In} {lb : List UInt8} (h : readG numP (fun _ => numP) true l = some (i, lb)) : lb.length ≤ 12 := by
  obtain ⟨k', -, -, -, -, ht⟩ := (readG_iff numP_ok).1 h
  rcases ht with ht | ht
  · rw [ht]
    exact Nat.zero_le _
  · exact (lab_len ht.2.1).1
theorem drop_facts {T D : ByteArray} {l : List UInt8} (hT : T.data.toList = l) (h8 : l.length ≤ 32768) (hD : T.extract 5 T.size = D) : D.data.toList = l.drop 5 ∧ D.size ≤ 281474976710656 := by
  have e : D.data.toList = l.drop 5 := by
    rw [← hD, Lib.extract_data, hT]
    refine List.take_of_length_le ?_
    rw [List.length_drop, ← hT]
    exact Nat.le_refl _
  refine ⟨e, ?_⟩
  have : D.size = (l.drop 5).length := by rw [← e]; rfl
  rw [this, List.length_drop]
  omega
theorem pass2_wrd (w : Nat) (ks : List LK) (n : Nat) (out : List UInt8) (pl : Pl) : pass2 (.wrd w :: ks) n out pl = pass2 ks (n + 1) (out ++ fourB w) pl := rfl
theorem u8_ne {b : UInt8} (h : b ≠ 58) : ((b.toNat : Int) == 58) = false := by
  rw [beq_eq_false_iff_ne]
  intro e
  apply h
  apply UInt8.toNat_inj.1
  show b.toNat = 58
  omega
end Go.Proofs.YtjijhjdemkgpgaaGreatDoor
