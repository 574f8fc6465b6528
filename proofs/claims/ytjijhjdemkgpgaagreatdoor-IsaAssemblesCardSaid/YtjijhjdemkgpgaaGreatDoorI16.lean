/- What read comes to, plain; strings.Split at one byte, plain. -/
import Derived.Test.YtjijhjdemkgpgaaGreatDoorL2
import Derived.Lib.SplitLaws
namespace Go.Proofs.YtjijhjdemkgpgaaGreatDoor
set_option linter.unusedVariables false
set_option linter.unusedSimpArgs false
/-- The operation of a name, as a loop finds it. -/
def opU (w : List UInt8) : Nat → Option Nat
  | 0 => none
  | n + 1 => if nmL n = w then some n else opU w n
theorem opU_some {w : List UInt8} {k : Nat} : ∀ {n : Nat}, opU w n = some k → k < n ∧ nmL k = w
  | 0, h => by cases h
  | n + 1, h => by
    unfold opU at h
    split at h
    · next e =>
      injection h with h
      subst h
      exact ⟨by omega, e⟩
    · have := opU_some h
      exact ⟨by omega, this.2⟩
theorem opU_none {w : List UInt8} : ∀ {n : Nat}, opU w n = none → ∀ k, k < n → nmL k ≠ w
  | 0, h, k, hk => by omega
  | n + 1, h, k, hk => by
    unfold opU at h
    split at h
    · cases h
    · next e =>
      by_cases hkn : k = n
      · subst hkn
        exact e
      · exact opU_none h k (by omega)
theorem opU_is (w : List UInt8) : opU w 30 = opOf w := by
  cases h : opU w 30 with
  | some k =>
    obtain ⟨h1, h2⟩ := opU_some h
    rw [← h2, opOf_nm h1]
  | none =>
    cases h2 : opOf w with
    | none => rfl
    | some k =>
      obtain ⟨h3, h4⟩ := opOf_some h2
      exact absurd h4 (opU_none h k h3)
def I00 : In := ⟨0, 0, 0, 0⟩
/-- What the fields come to. -/
def finV (k : Nat) : Option (In × List UInt8) → In × List UInt8 × Bool
  | none => (I00, [], false)
  | some (i, to) => (i, to, okL i k)
/-- What read tells. -/
def readV (lab : Bool) (s : List UInt8) : In × List UInt8 × Bool :=
  match splitC 32 s with
  | [] => (I00, [], false)
  | w :: vs => match opU w 30 with
    | none => (I00, [], false)
    | some k => if vs.length = (fmL k).length then finV k (fieldsG numP (fun _ => numP) lab k (fmL k) vs ⟨k, 0, 0, 0⟩ []) else (I00, [], false)
theorem readV_G (lab : Bool) (s : List UInt8) : readG numP (fun _ => numP) lab s = if (readV lab s).2.2 = true then some ((readV lab s).1, (readV lab s).2.1) else none := by
  unfold readG readV
  cases splitC 32 s with
  | nil => rfl
  | cons w vs =>
    simp only
    rw [opU_is]
    cases opOf w with
    | none => rfl
    | some k =>
      simp only
      by_cases hl : vs.length = (fmL k).length
      · rw [if_pos hl, if_pos hl]
        cases fieldsG numP (fun _ => numP) lab k (fmL k) vs ⟨k, 0, 0, 0⟩ [] with
        | none => rfl
        | some p => rfl
      · rw [if_neg hl, if_neg hl]
        rfl
theorem splitK_C (c : UInt8) : ∀ s : List UInt8, Lib.splitK [c] 0 (Lib.count s [c]) s = splitC c s
  | [] => by
    rw [Lib.count_miss (by simp [Lib.index])]
    rfl
  | b :: l => by
    have ih := splitK_C c l
    by_cases h : b = c
    · subst h
      rw [Lib.count_cons_eq, Nat.add_comm 1]
      have hix : Lib.index (b :: l) [b] = ((0 : Nat) : Int) := by rw [Lib.index]; simp [List.isPrefixOf]
      unfold Lib.splitK
      rw [hix, if_neg (by decide)]
      show [] :: Lib.splitK [b] 0 (Lib.count l [b]) l = _
      rw [ih, splitC, if_pos rfl]
    · rw [Lib.count_cons_ne b c l h]
      have hp : ([c] : List UInt8).isPrefixOf (b :: l) = false := by simp [List.isPrefixOf, Ne.symm h]
      have hix : Lib.index (b :: l) [c] = if Lib.index l [c] == -1 then -1 else Lib.index l [c] + 1 := by rw [Lib.index, hp]; simp
      rw [splitC, if_neg h]
      cases hk : Lib.count l [c] with
      | zero =>
        rw [hk] at ih
        have e : splitC c l = [l] := ih.symm
        rw [e]
        rfl
      | succ k =>
        have hne : Lib.index l [c] ≠ -1 := fun e => by
          rw [Lib.count_miss e] at hk
          cases hk
        have hge := Lib.index_ge l [c]
        obtain ⟨j, hj⟩ : ∃ j : Nat, Lib.index l [c] = j := ⟨(Lib.index l [c]).toNat, by omega⟩
        rw [hk] at ih
        unfold Lib.splitK at ih ⊢
        rw [hix, if_neg (fun e => hne (beq_iff_eq.1 e)), hj, if_neg (by rw [beq_iff_eq]; omega)]
        rw [hj, if_neg (by rw [beq_iff_eq]; omega)] at ih
        rw [← ih, show ((j : Int) + 1).toNat = j + 1 by omega, show ((j : Int)).toNat = j by omega]
        rfl
theorem splitB_C (s : ByteArray) (c : UInt8) : (Lib.splitB ⟨#[c]⟩ 0 (Lib.countB s ⟨#[c]⟩) s).map Value.string = (splitC c s.data.toList).map fun l => Value.string ⟨l.toArray⟩ := by
  have h := Lib.splitB_data ⟨#[c]⟩ 0 (Lib.countB s ⟨#[c]⟩) s
  have h2 := splitK_C c s.data.toList
  have h3 : (Lib.splitB ⟨#[c]⟩ 0 (Lib.countB s ⟨#[c]⟩) s).map (·.data.toList) = splitC c s.data.toList := h.trans h2
  rw [← h3, List.map_map]
  rfl
theorem countB_C (s : ByteArray) (c : UInt8) : Lib.countB s ⟨#[c]⟩ + 1 = (splitC c s.data.toList).length := by
  have h := congrArg List.length (splitB_C s c)
  rw [List.length_map, List.length_map, Lib.splitB_all ⟨#[c]⟩ (Nat.le_refl 1) 0 _ s rfl] at h
  exact h
end Go.Proofs.YtjijhjdemkgpgaaGreatDoor
