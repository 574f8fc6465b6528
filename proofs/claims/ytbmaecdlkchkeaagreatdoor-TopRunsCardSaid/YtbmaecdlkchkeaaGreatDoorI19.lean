/- What read comes to, plain; strings.Split at one byte, plain. Lines' kinds as the program tells them apart; the passes' steps. No program in sight. -/
import Derived.Test.YtbmaecdlkchkeaaGreatDoorLb
import Derived.Lib.SplitLaws
import Derived.Lib.Strings
namespace Go.Proofs.YtbmaecdlkchkeaaGreatDoor
set_option linter.unusedVariables false
set_option linter.unusedSimpArgs false
/-- The operation of a name, as a loop finds it. -/
def opU (w : List UInt8) : Nat → Option Nat
  | 0 => none
  | n + 1 => if nmL n = w then some n else opU w n
theorem opU_some {w : List UInt8} {k : Nat} : ∀ {n : Nat}, opU w n = some k → k < n ∧ nmL k = w
  | 0, h => by cases h
  | n + 1, h => by
    unfold opU at h
    split at h
    · next e =>
      injection h with h
      subst h
      exact ⟨by omega, e⟩
    · have := opU_some h
      exact ⟨by omega, this.2⟩
theorem opU_none {w : List UInt8} : ∀ {n : Nat}, opU w n = none → ∀ k, k < n → nmL k ≠ w
  | 0, h, k, hk => by omega
  | n + 1, h, k, hk => by
    unfold opU at h
    split at h
    · cases h
    · next e =>
      by_cases hkn : k = n
      · subst hkn
        exact e
      · exact opU_none h k (by omega)
theorem opU_is (w : List UInt8) : opU w 30 = opOf w := by
  cases h : opU w 30 with
  | some k =>
    obtain ⟨h1, h2⟩ := opU_some h
    rw [← h2, opOf_nm h1]
  | none =>
    cases h2 : opOf w with
    | none => rfl
    | some k =>
      obtain ⟨h3, h4⟩ := opOf_some h2
      exact absurd h4 (opU_none h k h3)
def I00 : In := ⟨0, 0, 0, 0⟩
/-- What the fields come to. -/
def finV (k : Nat) : Option (In × List UInt8) → In × List UInt8 × Bool
  | none => (I00, [], false)
  | some (i, to) => (i, to, okL i k)
/-- What read tells. -/
def readV (lab : Bool) (s : List UInt8) : In × List UInt8 × Bool :=
  match splitC 32 s with
  | [] => (I00, [], false)
  | w :: vs => match opU w 30 with
    | none => (I00, [], false)
    | some k => if vs.length = (fmL k).length then finV k (fieldsG numP (fun _ => numP) lab k (fmL k) vs ⟨k, 0, 0, 0⟩ []) else (I00, [], false)
theorem readV_G (lab : Bool) (s : List UInt8) : readG numP (fun _ => numP) lab s = if (readV lab s).2.2 = true then some ((readV lab s).1, (readV lab s).2.1) else none := by
  unfold readG readV
  cases splitC 32 s with
  | nil => rfl
  | cons w vs =>
    simp only
    rw [opU_is]
    cases opOf w with
    | none => rfl
    | some k =>
      simp only
      by_cases hl : vs.length = (fmL k).length
      · rw [if_pos hl, if_pos hl]
        cases fieldsG numP (fun _ => numP) lab k (fmL k) vs ⟨k, 0, 0, 0⟩ [] with
        | none => rfl
        | some p => rfl
      · rw [if_neg hl, if_neg hl]
        rfl
theorem splitK_C (c : UInt8) : ∀ s : List UInt8, Lib.splitK [c] 0 (Lib.count s [c]) s = splitC c s
  | [] => by
    rw [Lib.count_miss (by simp [Lib.index])]
    rfl
  | b :: l => by
    have ih := splitK_C c l
    by_cases h : b = c
    · subst h
      rw [Lib.count_cons_eq, Nat.add_comm 1]
      have hix : Lib.index (b :: l) [b] = ((0 : Nat) : Int) := by rw [Lib.index]; simp [List.isPrefixOf]
      unfold Lib.splitK
      rw [hix, if_neg (by decide)]
      show [] :: Lib.splitK [b] 0 (Lib.count l [b]) l = _
      rw [ih, splitC, if_pos rfl]
    · rw [Lib.count_cons_ne b c l h]
      have hp : ([c] : List UInt8).isPrefixOf (b :: l) = false := by simp [List.isPrefixOf, Ne.symm h]
      have hix : Lib.index (b :: l) [c] = if Lib.index l [c] == -1 then -1 else Lib.index l [c] + 1 := by rw [Lib.index, hp]; simp
      rw [splitC, if_neg h]
      cases hk : Lib.count l [c] with
      | zero =>
        rw [hk] at ih
        have e : splitC c l = [l] := ih.symm
        rw [e]
        rfl
      | succ k =>
        have hne : Lib.index l [c] ≠ -1 := fun e => by
          rw [Lib.count_miss e] at hk
          cases hk
        have hge := Lib.index_ge l [c]
        obtain ⟨j, hj⟩ : ∃ j : Nat, Lib.index l [c] = j := ⟨(Lib.index l [c]).toNat, by omega⟩
        rw [hk] at ih
        unfold Lib.splitK at ih ⊢
        rw [hix, if_neg (fun e => hne (beq_iff_eq.1 e)), hj, if_neg (by rw [beq_iff_eq]; omega)]
        rw [hj, if_neg (by rw [beq_iff_eq]; omega)] at ih
        rw [← ih, show ((j : Int) + 1).toNat = j + 1 by omega, show ((j : Int)).toNat = j by omega]
        rfl
theorem splitB_C (s : ByteArray) (c : UInt8) : (Lib.splitB ⟨#[c]⟩ 0 (Lib.countB s ⟨#[c]⟩) s).map Value.string = (splitC c s.data.toList).map fun l => Value.string ⟨l.toArray⟩ := by
  have h := Lib.splitB_data ⟨#[c]⟩ 0 (Lib.countB s ⟨#[c]⟩) s
  have h2 := splitK_C c s.data.toList
  have h3 : (Lib.splitB ⟨#[c]⟩ 0 (Lib.countB s ⟨#[c]⟩) s).map (·.data.toList) = splitC c s.data.toList := h.trans h2
  rw [← h3, List.map_map]
  rfl
theorem countB_C (s : ByteArray) (c : UInt8) : Lib.countB s ⟨#[c]⟩ + 1 = (splitC c s.data.toList).length := by
  have h := congrArg List.length (splitB_C s c)
  rw [List.length_map, List.length_map, Lib.splitB_all ⟨#[c]⟩ (Nat.le_refl 1) 0 _ s rfl] at h
  exact h
end Go.Proofs.YtbmaecdlkchkeaaGreatDoor
namespace Go.Proofs.YtbmaecdlkchkeaaGreatDoor
set_option linter.unusedVariables false
set_option linter.unusedSimpArgs false
theorem numP_some {l : List UInt8} {n : Int} (h : numP l = some n) : l = Lib.itoa n := by
  unfold numP at h
  split at h
  · split at h
    · next hi => injection h with h; rw [← h, hi]
    · cases h
  · cases h
theorem lineK_wrd {s : List UInt8} {n : Nat} (h : wordK s = some n) : lineK s = .wrd n ∧ n < 4294967296 := by
  unfold wordK at h
  split at h
  · next h5 =>
    split at h
    · next m hm =>
      split at h
      · next hb =>
        injection h with h
        subst h
        have hd := numP_some hm
        obtain ⟨u, hu⟩ := Int.eq_ofNat_of_zero_le hb.1
        subst hu
        rw [itoa_nat] at hd
        have hs : s = [119, 111, 114, 100, 32] ++ Lib.decDigits u := by rw [← h5, ← hd, List.take_append_drop]
        have hlt : u < 4294967296 := by omega
        rw [Int.toNat_natCast, hs]
        exact ⟨lineK_word hlt, hlt⟩
      · cases h
    · cases h
  · cases h
theorem lineK_ins {s : List UInt8} {i : In} {lb : List UInt8} (h : readG numP (fun _ => numP) true s = some (i, lb)) : lineK s = .ins i lb := by
  obtain ⟨k, hk, hop, ho, hs, ht⟩ := (readG_iff numP_ok).1 h
  subst hs
  exact lineK_text hk hop ho (ht.imp_right fun h => h.2)
theorem ins_is {s : List UInt8} {i : In} {lb : List UInt8} (h : readG numP (fun _ => numP) true s = some (i, lb)) : ∃ k : Nat, k < 30 ∧ i.op = (k : Int) ∧ okL i k = true := by
  obtain ⟨k, hk, hop, ho, hs, ht⟩ := (readG_iff numP_ok).1 h
  exact ⟨k, hk, hop, ho⟩
theorem word_ins {s : List UInt8} {p : In × List UInt8} (h : readG numP (fun _ => numP) true s = some p) : wordK s = none := by
  cases hw : wordK s with
  | none => rfl
  | some n =>
    have h1 := (lineK_wrd hw).1
    obtain ⟨i, lb⟩ := p
    rw [lineK_ins h] at h1
    cases h1
theorem ins_word {s : List UInt8} {n : Nat} (h : wordK s = some n) : readG numP (fun _ => numP) true s = none := by
  cases hr : readG numP (fun _ => numP) true s with
  | none => rfl
  | some p =>
    rw [word_ins hr] at h
    cases h
theorem suffix_iff (s : List UInt8) : Lib.hasSuffix s [58] = true ↔ s.getLast? = some 58 := by
  unfold Lib.hasSuffix
  rw [List.isSuffixOf_iff_suffix]
  constructor
  · rintro ⟨t, rfl⟩
    simp
  · intro h
    obtain ⟨t, ht⟩ : ∃ t, s = t ++ [58] := by
      cases s with
      | nil => cases h
      | cons b r =>
        have hne : b :: r ≠ [] := by simp
        refine ⟨(b :: r).dropLast, ?_⟩
        have := List.getLast?_eq_some_getLast hne
        rw [this] at h
        injection h with h
        rw [← h]
        exact (List.dropLast_concat_getLast hne).symm
    exact ⟨t, ht.symm⟩
theorem trim_suffix {s : List UInt8} (h : Lib.hasSuffix s [58] = true) : Lib.trimSuffix s [58] = s.dropLast := by
  unfold Lib.trimSuffix
  rw [if_pos h, List.dropLast_eq_take]
  rfl
/-- The program's ways at a line. -/
theorem lineK_ways (s : List UInt8) : lineK s = if s = [] then .blank else if Lib.hasSuffix s [58] = true ∧ isLab (Lib.trimSuffix s [58]) = true then .lab (Lib.trimSuffix s [58]) else match readG numP (fun _ => numP) true s with | some (i, lb) => .ins i lb | none => match wordK s with | some n => .wrd n | none => .bad := by
  unfold lineK
  by_cases h0 : s = []
  · rw [if_pos h0, if_pos h0]
  · rw [if_neg h0, if_neg h0]
    by_cases hs : Lib.hasSuffix s [58] = true
    · rw [trim_suffix hs]
      have hg := (suffix_iff s).1 hs
      by_cases hl : isLab s.dropLast = true
      · rw [if_pos ⟨hg, hl⟩, if_pos ⟨hs, hl⟩]
      · rw [if_neg (fun h => hl h.2), if_neg (fun h => hl h.2)]
        rfl
    · rw [if_neg (fun h => hs ((suffix_iff s).2 h.1)), if_neg (fun h => hs h.1)]
      rfl
/-- In the second pass. -/
theorem lineK_rest {s : List UInt8} (h1 : readG numP (fun _ => numP) true s = none) (h2 : wordK s = none) (ks : List LK) (n : Nat) (out : List UInt8) (pl : Pl) : pass2 (lineK s :: ks) n out pl = pass2 ks (n + 1) out pl := by
  rw [lineK_ways, h1, h2]
  split
  · rfl
  · split
    · rfl
    · rfl
theorem pass1_blank (ks : List LK) (n size : Nat) (pl : Pl) : pass1 (.blank :: ks) n size pl = pass1 ks (n + 1) size pl := rfl
theorem pass1_lab (l : List UInt8) (ks : List LK) (n size : Nat) (pl : Pl) : pass1 (.lab l :: ks) n size pl = if (findP pl l).isSome then .bad (n + 1) 93 else pass1 ks (n + 1) size ((l, size) :: pl) := rfl
theorem pass1_bad1 (ks : List LK) (n size : Nat) (pl : Pl) : pass1 (.bad :: ks) n size pl = .bad (n + 1) 92 := rfl
theorem pass1_code {s : List UInt8} (h0 : s ≠ []) (h1 : ¬ (Lib.hasSuffix s [58] = true ∧ isLab (Lib.trimSuffix s [58]) = true)) (ks : List LK) (n size : Nat) (pl : Pl) :
    pass1 (lineK s :: ks) n size pl = if (readV true s).2.2 = true ∨ (wordK s).isSome = true then (if 4096 < size + 4 then .bad (n + 1) 94 else pass1 ks (n + 1) (size + 4) pl) else .bad (n + 1) 92 := by
  rw [lineK_ways, if_neg h0, if_neg h1]
  have hg := readV_G true s
  cases hr : readG numP (fun _ => numP) true s with
  | some p =>
    obtain ⟨i, lb⟩ := p
    rw [hr] at hg
    have : (readV true s).2.2 = true := by
      by_cases h : (readV true s).2.2 = true
      · exact h
      · rw [if_neg h] at hg
        cases hg
    rw [if_pos (.inl this)]
    rfl
  | none =>
    rw [hr] at hg
    have hn : ¬ (readV true s).2.2 = true := by
      intro h
      rw [if_pos h] at hg
      cases hg
    cases hw : wordK s with
    | some n => rw [if_pos (.inr rfl)]; rfl
    | none =>
      rw [if_neg (by rintro (h | h); exact hn h; cases h)]
      rfl
theorem readV_some {lab : Bool} {s : List UInt8} {i : In} {lb : List UInt8} (h : readG numP (fun _ => numP) lab s = some (i, lb)) : readV lab s = (i, lb, true) := by
  have hg := readV_G lab s
  rw [h] at hg
  by_cases hc : (readV lab s).2.2 = true
  · rw [if_pos hc] at hg
    injection hg with hg
    injection hg with h1 h2
    have : readV lab s = ((readV lab s).1, (readV lab s).2.1, (readV lab s).2.2) := rfl
    rw [this, hc, ← h1, ← h2]
  · rw [if_neg hc] at hg
    cases hg
theorem readV_none {lab : Bool} {s : List UInt8} (h : readG numP (fun _ => numP) lab s = none) : (readV lab s).2.2 = false := by
  have hg := readV_G lab s
  rw [h] at hg
  by_cases hc : (readV lab s).2.2 = true
  · rw [if_pos hc] at hg
    cases hg
  · simpa using hc
/-- Every place is a whole number of fours, none beyond the size. -/
def Fours (size : Nat) (pl : Pl) : Prop := size % 4 = 0 ∧ ∀ l a, findP pl l = some a → a % 4 = 0 ∧ a ≤ size
theorem Fours.put {size : Nat} {pl : Pl} (h : Fours size pl) (l : List UInt8) : Fours size ((l, size) :: pl) := by
  refine ⟨h.1, fun l' a ha => ?_⟩
  rw [findP_cons] at ha
  split at ha
  · injection ha with ha
    subst ha
    exact ⟨h.1, Nat.le_refl _⟩
  · exact h.2 l' a ha
theorem Fours.more {size : Nat} {pl : Pl} (h : Fours size pl) : Fours (size + 4) pl := ⟨by have := h.1; omega, fun l a ha => by have := h.2 l a ha; omega⟩
theorem way_t {a o : Nat} (ha : a % 4 = 0) (ho : o % 4 = 0) : Int.tdiv ((a : Int) - (o : Int) - 4) 4 = way a o := by
  unfold way
  obtain ⟨q, hq⟩ : ∃ q : Int, (a : Int) - (o : Int) - 4 = 4 * q := ⟨((a : Int) - (o : Int) - 4) / 4, by omega⟩
  rw [hq, Int.mul_tdiv_cancel_left _ (by decide), Int.mul_ediv_cancel_left _ (by decide)]
end Go.Proofs.YtbmaecdlkchkeaaGreatDoor
