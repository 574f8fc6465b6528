/- A program's text assembled, plain: kinds of lines, two passes; so many lines further on. No program in sight. -/
import Derived.Test.YtjijhjdemkgpgaaGreatDoorL2
namespace Go.Proofs.YtjijhjdemkgpgaaGreatDoor
set_option linter.unusedVariables false
set_option linter.unusedSimpArgs false
/-- A line's kind. -/
inductive LK where
  | blank
  | lab (l : List UInt8)
  | ins (i : In) (to : List UInt8)
  | wrd (n : Nat)
  | bad
def wordK (s : List UInt8) : Option Nat :=
  if s.take 5 = [119, 111, 114, 100, 32] then
    match numP (s.drop 5) with
    | some n => if 0 ≤ n ∧ n < 4294967296 then some n.toNat else none
    | none => none
  else none
def lineK (s : List UInt8) : LK :=
  if s = [] then .blank
  else if s.getLast? = some 58 ∧ isLab s.dropLast = true then .lab s.dropLast
  else match readG numP (fun _ => numP) true s with
    | some (i, to) => .ins i to
    | none => match wordK s with
      | some n => .wrd n
      | none => .bad
abbrev Pl := List (List UInt8 × Nat)
def findP (pl : Pl) (l : List UInt8) : Option Nat := (pl.find? fun p => p.1 == l).map (·.2)
/-- What a pass comes to: a fault's line and reason, or a value. -/
inductive AR (α : Type) where
  | bad (n : Nat) (e : Int)
  | fine (a : α)
def pass1 : List LK → Nat → Nat → Pl → AR (Nat × Pl)
  | [], n, size, pl => .fine (size, pl)
  | .blank :: ks, n, size, pl => pass1 ks (n + 1) size pl
  | .lab l :: ks, n, size, pl => if (findP pl l).isSome then .bad (n + 1) 93 else pass1 ks (n + 1) size ((l, size) :: pl)
  | .ins i to :: ks, n, size, pl => if 4096 < size + 4 then .bad (n + 1) 94 else pass1 ks (n + 1) (size + 4) pl
  | .wrd w :: ks, n, size, pl => if 4096 < size + 4 then .bad (n + 1) 94 else pass1 ks (n + 1) (size + 4) pl
  | .bad :: ks, n, size, pl => .bad (n + 1) 92
def byte (n : Nat) : UInt8 := UInt8.ofNat (n % 256)
def fourB (n : Nat) : List UInt8 := [byte (n / 16777216), byte (n / 65536), byte (n / 256), byte n]
def encL (i : In) : List UInt8 := [byte i.op.toNat, byte (16 * i.a + i.b).toNat, byte ((i.m % 65536).toNat / 256), byte (i.m % 65536).toNat]
theorem encL_len (i : In) : (encL i).length = 4 := rfl
theorem fourB_len (n : Nat) : (fourB n).length = 4 := rfl
/-- The way from behind an instruction to a place. -/
def way (at_ len : Nat) : Int := ((at_ : Int) - (len : Int) - 4) / 4
def pass2 : List LK → Nat → List UInt8 → Pl → AR (List UInt8)
  | [], n, out, pl => .fine out
  | .ins i to :: ks, n, out, pl =>
    if to = [] then pass2 ks (n + 1) (out ++ encL i) pl
    else match findP pl to with
      | none => .bad (n + 1) 93
      | some at_ => if okL { i with m := way at_ out.length } i.op.toNat then pass2 ks (n + 1) (out ++ encL { i with m := way at_ out.length }) pl else .bad (n + 1) 93
  | .wrd w :: ks, n, out, pl => pass2 ks (n + 1) (out ++ fourB w) pl
  | .blank :: ks, n, out, pl => pass2 ks (n + 1) out pl
  | .lab l :: ks, n, out, pl => pass2 ks (n + 1) out pl
  | .bad :: ks, n, out, pl => pass2 ks (n + 1) out pl
def asmK (ks : List LK) : AR (List UInt8) := match pass1 ks 0 0 [] with | .bad n e => .bad n e | .fine (_, pl) => pass2 ks 0 [] pl
def told (r : AR (List UInt8)) : List UInt8 × Nat × Int := match r with | .bad n e => ([], n, e) | .fine out => (out, 0, 0)
def asm (text : List UInt8) : List UInt8 × Nat × Int := if 32768 < text.length then ([], 0, 94) else told (asmK ((splitC 10 text).map lineK))
/-! Faults. -/
theorem pass1_bad : ∀ (ks : List LK) (n size : Nat) (pl : Pl) (m : Nat) (e : Int), pass1 ks n size pl = .bad m e → n < m ∧ (e = 92 ∨ e = 93 ∨ e = 94)
  | [], n, size, pl, m, e, h => by cases h
  | k :: ks, n, size, pl, m, e, h => by
    cases k with
    | blank =>
      have := pass1_bad ks (n + 1) size pl m e h
      exact ⟨by omega, this.2⟩
    | lab l =>
      unfold pass1 at h
      split at h
      · injection h with h1 h2
        exact ⟨by omega, by omega⟩
      · have := pass1_bad ks (n + 1) size _ m e h
        exact ⟨by omega, this.2⟩
    | ins i to =>
      unfold pass1 at h
      split at h
      · injection h with h1 h2
        exact ⟨by omega, by omega⟩
      · have := pass1_bad ks (n + 1) _ pl m e h
        exact ⟨by omega, this.2⟩
    | wrd w =>
      unfold pass1 at h
      split at h
      · injection h with h1 h2
        exact ⟨by omega, by omega⟩
      · have := pass1_bad ks (n + 1) _ pl m e h
        exact ⟨by omega, this.2⟩
    | bad =>
      unfold pass1 at h
      injection h with h1 h2
      exact ⟨by omega, by omega⟩
theorem pass2_bad : ∀ (ks : List LK) (n : Nat) (out : List UInt8) (pl : Pl) (m : Nat) (e : Int), pass2 ks n out pl = .bad m e → n < m ∧ e = 93
  | [], n, out, pl, m, e, h => by cases h
  | k :: ks, n, out, pl, m, e, h => by
    cases k with
    | blank =>
      have := pass2_bad ks (n + 1) out pl m e h
      exact ⟨by omega, this.2⟩
    | lab l =>
      have := pass2_bad ks (n + 1) out pl m e h
      exact ⟨by omega, this.2⟩
    | bad =>
      have := pass2_bad ks (n + 1) out pl m e h
      exact ⟨by omega, this.2⟩
    | wrd w =>
      have := pass2_bad ks (n + 1) _ pl m e h
      exact ⟨by omega, this.2⟩
    | ins i to =>
      unfold pass2 at h
      split at h
      · have := pass2_bad ks (n + 1) _ pl m e h
        exact ⟨by omega, this.2⟩
      · split at h
        · injection h with h1 h2
          exact ⟨by omega, h2.symm⟩
        · split at h
          · have := pass2_bad ks (n + 1) _ pl m e h
            exact ⟨by omega, this.2⟩
          · injection h with h1 h2
            exact ⟨by omega, h2.symm⟩
/-! So many lines, so many bytes further on. -/
def shP (d : Nat) (pl : Pl) : Pl := pl.map fun p => (p.1, p.2 + d)
theorem findP_sh (d : Nat) (pl : Pl) (l : List UInt8) : findP (shP d pl) l = (findP pl l).map (· + d) := by
  unfold findP shP
  induction pl with
  | nil => rfl
  | cons p pl ih =>
    by_cases h : p.1 == l
    · simp [List.find?_cons, h]
    · simp only [List.map_cons, List.find?_cons, h]
      exact ih
/-- The first pass, k lines and d bytes further on: the same, or it is too long there. -/
theorem pass1_sh (k d : Nat) : ∀ (ks : List LK) (n size : Nat) (pl : Pl),
    (∃ m, pass1 ks (n + k) (size + d) (shP d pl) = .bad m 94 ∧ n + k < m) ∨
      ((∀ m e, pass1 ks n size pl = .bad m e → pass1 ks (n + k) (size + d) (shP d pl) = .bad (m + k) e) ∧ ∀ s q, pass1 ks n size pl = .fine (s, q) → pass1 ks (n + k) (size + d) (shP d pl) = .fine (s + d, shP d q))
  | [], n, size, pl => .inr ⟨(fun m e h => by cases h), (fun s q h => by injection h with h; injection h with h1 h2; subst h1; subst h2; rfl)⟩
  | x :: ks, n, size, pl => by
    have e1 : n + k + 1 = n + 1 + k := by omega
    cases x with
    | blank =>
      have ih := pass1_sh k d ks (n + 1) size pl
      show (∃ m, pass1 ks (n + k + 1) (size + d) (shP d pl) = .bad m 94 ∧ _) ∨ ((∀ m e, pass1 ks (n + 1) size pl = _ → pass1 ks (n + k + 1) (size + d) (shP d pl) = _) ∧ ∀ s q, pass1 ks (n + 1) size pl = _ → pass1 ks (n + k + 1) (size + d) (shP d pl) = _)
      rw [e1]
      exact ih.imp_left fun ⟨m, h1, h2⟩ => ⟨m, h1, by omega⟩
    | lab l =>
      unfold pass1
      rw [findP_sh, Option.isSome_map]
      by_cases hf : (findP pl l).isSome = true
      · rw [if_pos hf, if_pos hf]
        exact .inr ⟨fun m e h => by injection h with h1 h2; subst h1; subst h2; rw [e1], fun s q h => by cases h⟩
      · rw [if_neg hf, if_neg hf, e1]
        exact (pass1_sh k d ks (n + 1) size ((l, size) :: pl)).imp_left fun ⟨m, h1, h2⟩ => ⟨m, h1, by omega⟩
    | ins i to =>
      unfold pass1
      by_cases h1 : 4096 < size + d + 4
      · rw [if_pos h1]
        exact .inl ⟨_, rfl, by omega⟩
      · rw [if_neg h1, if_neg (by omega), e1, show size + d + 4 = size + 4 + d by omega]
        exact (pass1_sh k d ks (n + 1) (size + 4) pl).imp_left fun ⟨m, h1, h2⟩ => ⟨m, h1, by omega⟩
    | wrd w =>
      unfold pass1
      by_cases h1 : 4096 < size + d + 4
      · rw [if_pos h1]
        exact .inl ⟨_, rfl, by omega⟩
      · rw [if_neg h1, if_neg (by omega), e1, show size + d + 4 = size + 4 + d by omega]
        exact (pass1_sh k d ks (n + 1) (size + 4) pl).imp_left fun ⟨m, h1, h2⟩ => ⟨m, h1, by omega⟩
    | bad =>
      unfold pass1
      exact .inr ⟨fun m e h => by injection h with h1 h2; subst h1; subst h2; rw [e1], fun s q h => by cases h⟩
theorem way_sh (d a l : Nat) : way (a + d) (d + l) = way a l := by
  unfold way
  congr 1
  omega
def mapAR {α β : Type} (f : α → β) (k : Nat) : AR α → AR β
  | .bad n e => .bad (n + k) e
  | .fine a => .fine (f a)
/-- The second pass behind bytes that stand ahead. -/
theorem pass2_sh (k : Nat) (z : List UInt8) : ∀ (ks : List LK) (n : Nat) (out : List UInt8) (pl : Pl), pass2 ks (n + k) (z ++ out) (shP z.length pl) = mapAR (z ++ ·) k (pass2 ks n out pl)
  | [], n, out, pl => rfl
  | x :: ks, n, out, pl => by
    have e1 : n + k + 1 = n + 1 + k := by omega
    cases x with
    | blank =>
      show pass2 ks (n + k + 1) _ _ = mapAR _ _ (pass2 ks (n + 1) out pl)
      rw [e1]
      exact pass2_sh k z ks (n + 1) out pl
    | lab l =>
      show pass2 ks (n + k + 1) _ _ = mapAR _ _ (pass2 ks (n + 1) out pl)
      rw [e1]
      exact pass2_sh k z ks (n + 1) out pl
    | bad =>
      show pass2 ks (n + k + 1) _ _ = mapAR _ _ (pass2 ks (n + 1) out pl)
      rw [e1]
      exact pass2_sh k z ks (n + 1) out pl
    | wrd w =>
      show pass2 ks (n + k + 1) ((z ++ out) ++ fourB w) _ = mapAR _ _ (pass2 ks (n + 1) (out ++ fourB w) pl)
      rw [e1, List.append_assoc]
      exact pass2_sh k z ks (n + 1) (out ++ fourB w) pl
    | ins i to =>
      unfold pass2
      by_cases ht : to = []
      · rw [if_pos ht, if_pos ht, e1, List.append_assoc]
        exact pass2_sh k z ks (n + 1) (out ++ encL i) pl
      · rw [if_neg ht, if_neg ht, findP_sh]
        cases hf : findP pl to with
        | none =>
          show AR.bad (n + k + 1) 93 = AR.bad (n + 1 + k) 93
          rw [e1]
        | some a =>
          simp only [Option.map_some]
          rw [List.length_append, way_sh]
          by_cases ho : okL { i with m := way a out.length } i.op.toNat = true
          · rw [if_pos ho, if_pos ho, e1, List.append_assoc]
            exact pass2_sh k z ks (n + 1) _ pl
          · rw [if_neg ho, if_neg ho]
            show AR.bad (n + k + 1) 93 = AR.bad (n + 1 + k) 93
            rw [e1]
/-- Instructions ahead that say nothing but noughts. -/
def nopK : LK := .ins ⟨0, 0, 0, 0⟩ []
theorem pass1_nops : ∀ (k n size : Nat) (ks : List LK) (pl : Pl), size + 4 * k ≤ 4096 → pass1 (List.replicate k nopK ++ ks) n size pl = pass1 ks (n + k) (size + 4 * k) pl
  | 0, n, size, ks, pl, _ => rfl
  | k + 1, n, size, ks, pl, h => by
    show (if 4096 < size + 4 then AR.bad (n + 1) 94 else pass1 (List.replicate k nopK ++ ks) (n + 1) (size + 4) pl) = _
    rw [if_neg (by omega)]
    rw [show n + (k + 1) = n + 1 + k by omega, show size + 4 * (k + 1) = size + 4 + 4 * k by omega]
    exact pass1_nops k (n + 1) (size + 4) ks pl (by omega)
theorem encL_nop : encL ⟨0, 0, 0, 0⟩ = [0, 0, 0, 0] := by decide
theorem pass2_nops : ∀ (k n : Nat) (out : List UInt8) (ks : List LK) (pl : Pl), pass2 (List.replicate k nopK ++ ks) n out pl = pass2 ks (n + k) (out ++ List.replicate (4 * k) 0) pl
  | 0, n, out, ks, pl => by simp
  | k + 1, n, out, ks, pl => by
    show pass2 (List.replicate k nopK ++ ks) (n + 1) (out ++ encL ⟨0, 0, 0, 0⟩) pl = _
    rw [show n + (k + 1) = n + 1 + k by omega, encL_nop, pass2_nops k (n + 1) (out ++ [0, 0, 0, 0]) ks pl, List.append_assoc]
    congr 2
/-- THE LAW OF MOVES. -/
theorem asm_moves {ks : List LK} {k : Nat} (hk : k ≤ 900) :
    (∃ m, asmK (List.replicate k nopK ++ ks) = .bad m 94 ∧ 0 < m) ∨ asmK (List.replicate k nopK ++ ks) = mapAR (List.replicate (4 * k) 0 ++ ·) k (asmK ks) := by
  unfold asmK
  rw [pass1_nops k 0 0 ks [] (by omega)]
  have h := pass1_sh k (4 * k) ks 0 0 []
  rcases h with ⟨m, h1, h2⟩ | ⟨h1, h2⟩
  · left
    have h1' : pass1 ks (0 + k) (0 + 4 * k) [] = .bad m 94 := h1
    rw [h1']
    exact ⟨m, rfl, by omega⟩
  · right
    have e0 : pass1 ks (0 + k) (0 + 4 * k) [] = pass1 ks (0 + k) (0 + 4 * k) (shP (4 * k) []) := rfl
    rw [e0]
    cases hp : pass1 ks 0 0 [] with
    | bad m e => rw [h1 m e hp]; rfl
    | fine r =>
      obtain ⟨s, q⟩ := r
      rw [h2 s q hp]
      show pass2 (List.replicate k nopK ++ ks) 0 [] (shP (4 * k) q) = _
      rw [pass2_nops k 0 [] ks, List.nil_append]
      have := pass2_sh k (List.replicate (4 * k) 0) ks 0 [] q
      rw [List.length_replicate, List.append_nil] at this
      exact this
end Go.Proofs.YtjijhjdemkgpgaaGreatDoor
