/- Lines' kinds as the program tells them apart; the passes' steps. No program in sight. -/
import Derived.Test.YtjijhjdemkgpgaaGreatDoorLi
import Derived.Test.YtjijhjdemkgpgaaGreatDoorI16
import Derived.Lib.Strings
namespace Go.Proofs.YtjijhjdemkgpgaaGreatDoor
set_option linter.unusedVariables false
set_option linter.unusedSimpArgs false
theorem numP_some {l : List UInt8} {n : Int} (h : numP l = some n) : l = Lib.itoa n := by
  unfold numP at h
  split at h
  · split at h
    · next hi => injection h with h; rw [← h, hi]
    · cases h
  · cases h
theorem lineK_wrd {s : List UInt8} {n : Nat} (h : wordK s = some n) : lineK s = .wrd n ∧ n < 4294967296 := by
  unfold wordK at h
  split at h
  · next h5 =>
    split at h
    · next m hm =>
      split at h
      · next hb =>
        injection h with h
        subst h
        have hd := numP_some hm
        obtain ⟨u, hu⟩ := Int.eq_ofNat_of_zero_le hb.1
        subst hu
        rw [itoa_nat] at hd
        have hs : s = [119, 111, 114, 100, 32] ++ Lib.decDigits u := by rw [← h5, ← hd, List.take_append_drop]
        have hlt : u < 4294967296 := by omega
        rw [Int.toNat_natCast, hs]
        exact ⟨lineK_word hlt, hlt⟩
      · cases h
    · cases h
  · cases h
theorem lineK_ins {s : List UInt8} {i : In} {lb : List UInt8} (h : readG numP (fun _ => numP) true s = some (i, lb)) : lineK s = .ins i lb := by
  obtain ⟨k, hk, hop, ho, hs, ht⟩ := (readG_iff numP_ok).1 h
  subst hs
  exact lineK_text hk hop ho (ht.imp_right fun h => h.2)
theorem ins_is {s : List UInt8} {i : In} {lb : List UInt8} (h : readG numP (fun _ => numP) true s = some (i, lb)) : ∃ k : Nat, k < 30 ∧ i.op = (k : Int) ∧ okL i k = true := by
  obtain ⟨k, hk, hop, ho, hs, ht⟩ := (readG_iff numP_ok).1 h
  exact ⟨k, hk, hop, ho⟩
theorem word_ins {s : List UInt8} {p : In × List UInt8} (h : readG numP (fun _ => numP) true s = some p) : wordK s = none := by
  cases hw : wordK s with
  | none => rfl
  | some n =>
    have h1 := (lineK_wrd hw).1
    obtain ⟨i, lb⟩ := p
    rw [lineK_ins h] at h1
    cases h1
theorem ins_word {s : List UInt8} {n : Nat} (h : wordK s = some n) : readG numP (fun _ => numP) true s = none := by
  cases hr : readG numP (fun _ => numP) true s with
  | none => rfl
  | some p =>
    rw [word_ins hr] at h
    cases h
theorem suffix_iff (s : List UInt8) : Lib.hasSuffix s [58] = true ↔ s.getLast? = some 58 := by
  unfold Lib.hasSuffix
  rw [List.isSuffixOf_iff_suffix]
  constructor
  · rintro ⟨t, rfl⟩
    simp
  · intro h
    obtain ⟨t, ht⟩ : ∃ t, s = t ++ [58] := by
      cases s with
      | nil => cases h
      | cons b r =>
        have hne : b :: r ≠ [] := by simp
        refine ⟨(b :: r).dropLast, ?_⟩
        have := List.getLast?_eq_some_getLast hne
        rw [this] at h
        injection h with h
        rw [← h]
        exact (List.dropLast_concat_getLast hne).symm
    exact ⟨t, ht.symm⟩
theorem trim_suffix {s : List UInt8} (h : Lib.hasSuffix s [58] = true) : Lib.trimSuffix s [58] = s.dropLast := by
  unfold Lib.trimSuffix
  rw [if_pos h, List.dropLast_eq_take]
  rfl
/-- The program's ways at a line. -/
theorem lineK_ways (s : List UInt8) : lineK s = if s = [] then .blank else if Lib.hasSuffix s [58] = true ∧ isLab (Lib.trimSuffix s [58]) = true then .lab (Lib.trimSuffix s [58]) else match readG numP (fun _ => numP) true s with | some (i, lb) => .ins i lb | none => match wordK s with | some n => .wrd n | none => .bad := by
  unfold lineK
  by_cases h0 : s = []
  · rw [if_pos h0, if_pos h0]
  · rw [if_neg h0, if_neg h0]
    by_cases hs : Lib.hasSuffix s [58] = true
    · rw [trim_suffix hs]
      have hg := (suffix_iff s).1 hs
      by_cases hl : isLab s.dropLast = true
      · rw [if_pos ⟨hg, hl⟩, if_pos ⟨hs, hl⟩]
      · rw [if_neg (fun h => hl h.2), if_neg (fun h => hl h.2)]
        rfl
    · rw [if_neg (fun h => hs ((suffix_iff s).2 h.1)), if_neg (fun h => hs h.1)]
      rfl
/-- In the second pass. -/
theorem lineK_rest {s : List UInt8} (h1 : readG numP (fun _ => numP) true s = none) (h2 : wordK s = none) (ks : List LK) (n : Nat) (out : List UInt8) (pl : Pl) : pass2 (lineK s :: ks) n out pl = pass2 ks (n + 1) out pl := by
  rw [lineK_ways, h1, h2]
  split
  · rfl
  · split
    · rfl
    · rfl
theorem pass1_blank (ks : List LK) (n size : Nat) (pl : Pl) : pass1 (.blank :: ks) n size pl = pass1 ks (n + 1) size pl := rfl
theorem pass1_lab (l : List UInt8) (ks : List LK) (n size : Nat) (pl : Pl) : pass1 (.lab l :: ks) n size pl = if (findP pl l).isSome then .bad (n + 1) 93 else pass1 ks (n + 1) size ((l, size) :: pl) := rfl
theorem pass1_bad1 (ks : List LK) (n size : Nat) (pl : Pl) : pass1 (.bad :: ks) n size pl = .bad (n + 1) 92 := rfl
theorem pass1_code {s : List UInt8} (h0 : s ≠ []) (h1 : ¬ (Lib.hasSuffix s [58] = true ∧ isLab (Lib.trimSuffix s [58]) = true)) (ks : List LK) (n size : Nat) (pl : Pl) :
    pass1 (lineK s :: ks) n size pl = if (readV true s).2.2 = true ∨ (wordK s).isSome = true then (if 4096 < size + 4 then .bad (n + 1) 94 else pass1 ks (n + 1) (size + 4) pl) else .bad (n + 1) 92 := by
  rw [lineK_ways, if_neg h0, if_neg h1]
  have hg := readV_G true s
  cases hr : readG numP (fun _ => numP) true s with
  | some p =>
    obtain ⟨i, lb⟩ := p
    rw [hr] at hg
    have : (readV true s).2.2 = true := by
      by_cases h : (readV true s).2.2 = true
      · exact h
      · rw [if_neg h] at hg
        cases hg
    rw [if_pos (.inl this)]
    rfl
  | none =>
    rw [hr] at hg
    have hn : ¬ (readV true s).2.2 = true := by
      intro h
      rw [if_pos h] at hg
      cases hg
    cases hw : wordK s with
    | some n => rw [if_pos (.inr rfl)]; rfl
    | none =>
      rw [if_neg (by rintro (h | h); exact hn h; cases h)]
      rfl
theorem readV_some {lab : Bool} {s : List UInt8} {i : In} {lb : List UInt8} (h : readG numP (fun _ => numP) lab s = some (i, lb)) : readV lab s = (i, lb, true) := by
  have hg := readV_G lab s
  rw [h] at hg
  by_cases hc : (readV lab s).2.2 = true
  · rw [if_pos hc] at hg
    injection hg with hg
    injection hg with h1 h2
    have : readV lab s = ((readV lab s).1, (readV lab s).2.1, (readV lab s).2.2) := rfl
    rw [this, hc, ← h1, ← h2]
  · rw [if_neg hc] at hg
    cases hg
theorem readV_none {lab : Bool} {s : List UInt8} (h : readG numP (fun _ => numP) lab s = none) : (readV lab s).2.2 = false := by
  have hg := readV_G lab s
  rw [h] at hg
  by_cases hc : (readV lab s).2.2 = true
  · rw [if_pos hc] at hg
    cases hg
  · simpa using hc
/-- Every place is a whole number of fours, none beyond the size. -/
def Fours (size : Nat) (pl : Pl) : Prop := size % 4 = 0 ∧ ∀ l a, findP pl l = some a → a % 4 = 0 ∧ a ≤ size
theorem Fours.put {size : Nat} {pl : Pl} (h : Fours size pl) (l : List UInt8) : Fours size ((l, size) :: pl) := by
  refine ⟨h.1, fun l' a ha => ?_⟩
  rw [findP_cons] at ha
  split at ha
  · injection ha with ha
    subst ha
    exact ⟨h.1, Nat.le_refl _⟩
  · exact h.2 l' a ha
theorem Fours.more {size : Nat} {pl : Pl} (h : Fours size pl) : Fours (size + 4) pl := ⟨by have := h.1; omega, fun l a ha => by have := h.2 l a ha; omega⟩
theorem way_t {a o : Nat} (ha : a % 4 = 0) (ho : o % 4 = 0) : Int.tdiv ((a : Int) - (o : Int) - 4) 4 = way a o := by
  unfold way
  obtain ⟨q, hq⟩ : ∃ q : Int, (a : Int) - (o : Int) - 4 = 4 * q := ⟨((a : Int) - (o : Int) - 4) / 4, by omega⟩
  rw [hq, Int.mul_tdiv_cancel_left _ (by decide), Int.mul_ediv_cancel_left _ (by decide)]
end Go.Proofs.YtjijhjdemkgpgaaGreatDoor
