/- The document's Assemble, plain: lines, words, places. -/
import Derived.Test.YtjijhjdemkgpgaaGreatDoorZ14
import Derived.Test.YtjijhjdemkgpgaaGreatDoorI21
namespace Go.Proofs.YtjijhjdemkgpgaaGreatDoor
open Go.RowKit
set_option linter.unusedVariables false
set_option linter.unusedSimpArgs false
set_option maxRecDepth 100000
/-- The lines cut so far: from f, at i. -/
def LInv (L : List UInt8) (i f : Nat) (ws : List (List UInt8)) : Prop := i ≤ L.length ∧ f ≤ i ∧ splitC 10 L = ws ++ splitC 10 (L.drop f) ∧ (10 : UInt8) ∉ (L.drop f).take (i - f)
theorem linv_end {L : List UInt8} {f : Nat} {ws : List (List UInt8)} (h : LInv L L.length f ws) : splitC 10 L = ws ++ [L.drop f] := by
  obtain ⟨-, h1, h2, h3⟩ := h
  rw [List.take_of_length_le (by rw [List.length_drop]; omega)] at h3
  rw [h2, splitC_none h3]
theorem linv_cut {L : List UInt8} {i f : Nat} {ws : List (List UInt8)} (h : LInv L i f ws) (hi : L[i]? = some 10) : LInv L (i + 1) (i + 1) (ws ++ [(L.drop f).take (i - f)]) := by
  obtain ⟨-, h1, h2, h3⟩ := h
  have hl : i < L.length := (List.getElem?_eq_some_iff.1 hi).1
  have e : L.drop f = (L.drop f).take (i - f) ++ (10 :: L.drop (i + 1)) := by
    have e1 : (L.drop f).drop (i - f) = L.drop i := by rw [List.drop_drop]; congr 1; omega
    have e2 : L.drop i = 10 :: L.drop (i + 1) := by
      rw [List.drop_eq_getElem_cons hl]
      have := (List.getElem?_eq_some_iff.1 hi).2
      rw [this]
    conv => lhs; rw [← List.take_append_drop (i - f) (L.drop f), e1, e2]
  refine ⟨hl, Nat.le_refl _, ?_, by simp⟩
  have e3 : splitC 10 (L.drop f) = (L.drop f).take (i - f) :: splitC 10 (L.drop (i + 1)) := by
    conv => lhs; rw [e]
    exact splitC_app h3
  rw [h2, e3, List.append_assoc]
  rfl
theorem linv_go {L : List UInt8} {i f : Nat} {ws : List (List UInt8)} {d : UInt8} (h : LInv L i f ws) (hi : L[i]? = some d) (hd : d ≠ 10) : LInv L (i + 1) f ws := by
  obtain ⟨-, h1, h2, h3⟩ := h
  have hl : i < L.length := (List.getElem?_eq_some_iff.1 hi).1
  refine ⟨hl, by omega, h2, ?_⟩
  rw [show i + 1 - f = (i - f) + 1 by omega, List.take_add_one, List.getElem?_drop, show f + (i - f) = i by omega, hi]
  intro hm
  rcases List.mem_append.1 hm with hm | hm
  · exact h3 hm
  · simp at hm
    exact hd hm.symm
/-- A last empty line changes nothing. -/
theorem pass1_last : ∀ (ks : List LK) (n size : Nat) (pl : Pl), pass1 (ks ++ [.blank]) n size pl = pass1 ks n size pl
  | [], n, size, pl => rfl
  | .blank :: ks, n, size, pl => pass1_last ks (n + 1) size pl
  | .lab l :: ks, n, size, pl => by
    show (if (findP pl l).isSome then _ else pass1 (ks ++ [.blank]) (n + 1) size ((l, size) :: pl)) = _
    rw [pass1_last ks]
    rfl
  | .ins i lb :: ks, n, size, pl => by
    show (if 4096 < size + 4 then _ else pass1 (ks ++ [.blank]) (n + 1) (size + 4) pl) = _
    rw [pass1_last ks]
    rfl
  | .wrd w :: ks, n, size, pl => by
    show (if 4096 < size + 4 then _ else pass1 (ks ++ [.blank]) (n + 1) (size + 4) pl) = _
    rw [pass1_last ks]
    rfl
  | .bad :: ks, n, size, pl => rfl
theorem pass2_last : ∀ (ks : List LK) (n : Nat) (out : List UInt8) (pl : Pl), pass2 (ks ++ [.blank]) n out pl = pass2 ks n out pl
  | [], n, out, pl => rfl
  | .blank :: ks, n, out, pl => pass2_last ks (n + 1) out pl
  | .lab l :: ks, n, out, pl => pass2_last ks (n + 1) out pl
  | .bad :: ks, n, out, pl => pass2_last ks (n + 1) out pl
  | .wrd w :: ks, n, out, pl => pass2_last ks (n + 1) (out ++ fourB w) pl
  | .ins i lb :: ks, n, out, pl => by
    rw [List.cons_append]
    unfold pass2
    by_cases h : lb = []
    · rw [if_pos h, if_pos h]
      exact pass2_last ks _ _ _
    · rw [if_neg h, if_neg h]
      cases findP pl lb with
      | none => rfl
      | some a =>
        simp only
        rw [pass2_last ks]
theorem asmK_last (ks : List LK) : asmK (ks ++ [.blank]) = asmK ks := by
  unfold asmK
  rw [pass1_last]
  cases pass1 ks 0 0 [] with
  | bad n e => rfl
  | fine p => exact pass2_last ks 0 [] p.2
theorem lineK_nil : lineK [] = .blank := rfl
theorem asm_lines {L : List UInt8} {ws : List (List UInt8)} (h32 : L.length ≤ 32768) (h : splitC 10 L = ws ∨ splitC 10 L = ws ++ [[]]) : asm L = told (asmK (ws.map lineK)) := by
  unfold asm
  rw [if_neg (by omega)]
  rcases h with h | h
  · rw [h]
  · rw [h, List.map_append, List.map_cons, List.map_nil, lineK_nil, asmK_last]
/-- The document's word. -/
theorem wordK_R (s : List UInt8) : wordK s = if 5 < s.length ∧ s.take 5 = [119, 111, 114, 100, 32] then (match numR (s.drop 5) with | some n => if n < 4294967296 then some n else none | none => none) else none := by
  have h10 : (10 : Nat) ^ 10 = 10000000000 := by decide
  unfold wordK
  by_cases ht : s.take 5 = [119, 111, 114, 100, 32]
  · rw [if_pos ht]
    by_cases hl : 5 < s.length
    · rw [if_pos ⟨hl, ht⟩]
      cases hr : numR (s.drop 5) with
      | some n =>
        have hn : n < 10 ^ 10 := (numR_iff.1 hr).2
        rw [(numP_numR hn).2 hr]
        simp only
        by_cases h2 : n < 4294967296
        · rw [if_pos h2, if_pos ⟨by omega, by omega⟩]
          simp
        · rw [if_neg h2, if_neg (by omega)]
      | none =>
        cases hp : numP (s.drop 5) with
        | none => rfl
        | some z =>
          simp only
          by_cases h2 : 0 ≤ z ∧ z < 4294967296
          · exfalso
            obtain ⟨u, hu⟩ := Int.eq_ofNat_of_zero_le h2.1
            have := (numP_numR (l := s.drop 5) (u := u) (by omega)).1 (by rw [hp, hu])
            rw [hr] at this
            cases this
          · rw [if_neg h2]
    · rw [if_neg (fun h => hl h.1)]
      have hd : s.drop 5 = [] := List.drop_eq_nil_of_le (by omega)
      rw [hd]
      rfl
  · rw [if_neg ht, if_neg (fun h => ht h.2)]
/-- Places told in the order they came. -/
theorem findP_snoc {pr pl : Pl} {l : List UInt8} {a : Nat} (h : ∀ x, findP pr x = findP pl x) (hl : findP pl l = none) : ∀ x, findP (pr ++ [(l, a)]) x = findP ((l, a) :: pl) x := by
  intro x
  have e1 : findP (pr ++ [(l, a)]) x = match findP pr x with | some b => some b | none => if l = x then some a else none := by
    unfold findP
    rw [List.find?_append]
    cases hf : pr.find? fun p => p.1 == x with
    | some p => rfl
    | none =>
      by_cases hx : l = x
      · subst hx
        simp
      · simp [hx]
  have e2 : findP ((l, a) :: pl) x = if l = x then some a else findP pl x := by
    unfold findP
    by_cases hx : l = x
    · rw [List.find?_cons_of_pos (by simpa using hx), if_pos hx]
      rfl
    · rw [List.find?_cons_of_neg (by simpa using hx), if_neg hx]
  rw [e1, e2, h x]
  by_cases hx : l = x
  · subst hx
    rw [hl, if_pos rfl]
  · rw [if_neg hx, if_neg hx]
    cases findP pl x <;> rfl
theorem pass1_nobad : ∀ (ks : List LK) (n size : Nat) (pl : Pl) {r : Nat × Pl}, pass1 ks n size pl = .fine r → ∀ k ∈ ks, k ≠ .bad
  | [], n, size, pl, r, h, k, hk => by simp at hk
  | .blank :: ks, n, size, pl, r, h, k, hk => by
    rcases List.mem_cons.1 hk with rfl | hk
    · simp
    · exact pass1_nobad ks _ _ _ h k hk
  | .lab l :: ks, n, size, pl, r, h, k, hk => by
    unfold pass1 at h
    split at h
    · cases h
    · rcases List.mem_cons.1 hk with rfl | hk
      · simp
      · exact pass1_nobad ks _ _ _ h k hk
  | .ins i lb :: ks, n, size, pl, r, h, k, hk => by
    unfold pass1 at h
    split at h
    · cases h
    · rcases List.mem_cons.1 hk with rfl | hk
      · simp
      · exact pass1_nobad ks _ _ _ h k hk
  | .wrd w :: ks, n, size, pl, r, h, k, hk => by
    unfold pass1 at h
    split at h
    · cases h
    · rcases List.mem_cons.1 hk with rfl | hk
      · simp
      · exact pass1_nobad ks _ _ _ h k hk
  | .bad :: ks, n, size, pl, r, h, k, hk => by cases h
end Go.Proofs.YtjijhjdemkgpgaaGreatDoor
