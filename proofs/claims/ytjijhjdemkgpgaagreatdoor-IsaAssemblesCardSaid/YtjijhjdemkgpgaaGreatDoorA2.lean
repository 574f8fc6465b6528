/- Two programs' texts one behind the other; texts moved: the laws of IsaMoves and IsaJoins, plain. -/
import Derived.Test.YtjijhjdemkgpgaaGreatDoorA1
namespace Go.Proofs.YtjijhjdemkgpgaaGreatDoor
set_option linter.unusedVariables false
set_option linter.unusedSimpArgs false
theorem splitC_two (c : UInt8) : ∀ (a b : List UInt8), splitC c (a ++ c :: b) = splitC c a ++ splitC c b
  | [], b => by
    show splitC c (c :: b) = [[]] ++ splitC c b
    rw [splitC, if_pos rfl]
    rfl
  | x :: a, b => by
    have ih := splitC_two c a b
    show splitC c (x :: (a ++ c :: b)) = splitC c (x :: a) ++ splitC c b
    by_cases hx : x = c
    · rw [splitC, if_pos hx, ih, splitC, if_pos hx]
      rfl
    · rw [splitC, if_neg hx, ih, splitC, if_neg hx]
      obtain ⟨h, t, e, -⟩ := splitC_join c a
      rw [e]
      rfl
/-- So many lines of nothing to do. -/
def linesB : Nat → List UInt8
  | 0 => []
  | k + 1 => [110, 111, 112, 10] ++ linesB k
theorem linesB_len (k : Nat) : (linesB k).length = 4 * k := by
  induction k with
  | zero => rfl
  | succ k ih =>
    show ([110, 111, 112, 10] ++ linesB k).length = _
    rw [List.length_append, ih]
    show 4 + 4 * k = _
    omega
theorem linesB_snoc (k : Nat) : linesB (k + 1) = linesB k ++ [110, 111, 112, 10] := by
  induction k with
  | zero => rfl
  | succ k ih =>
    show [110, 111, 112, 10] ++ linesB (k + 1) = ([110, 111, 112, 10] ++ linesB k) ++ [110, 111, 112, 10]
    rw [ih, List.append_assoc]
theorem splitC_lines (t : List UInt8) : ∀ k, splitC 10 (linesB k ++ t) = List.replicate k [110, 111, 112] ++ splitC 10 t
  | 0 => rfl
  | k + 1 => by
    show splitC 10 ([110, 111, 112] ++ 10 :: (linesB k ++ t)) = _
    rw [splitC_two, splitC_lines t k]
    rfl
theorem lineK_nop : lineK [110, 111, 112] = nopK := by
  have h : readG numP (fun _ => numP) true [110, 111, 112] = some (⟨0, 0, 0, 0⟩, []) := (readG_iff numP_ok).2 ⟨0, by decide, rfl, by decide, rfl, .inl rfl⟩
  unfold lineK
  rw [if_neg (by decide), if_neg (by decide), h]
  rfl
theorem told_bad (n : Nat) (e : Int) : told (.bad n e) = ([], n, e) := rfl
/-- What IsaMoves asks. -/
def MovesOk (k : Nat) (text : List UInt8) (r s : List UInt8 × Nat × Int) : Prop :=
  if r.2.2 = 94 ∨ s.2.2 = 94 then s.2.2 = 94 ∧ s.1 = [] ∧ (32768 < text.length + 4 * k ∨ 0 < s.2.1)
  else if r.2.2 ≠ 0 then r.2.2 = s.2.2 ∧ s.2.1 = r.2.1 + k ∧ r.1 = [] ∧ s.1 = []
  else s.2.2 = 0 ∧ r.2.1 = 0 ∧ s.2.1 = 0 ∧ s.1 = List.replicate (4 * k) 0 ++ r.1
theorem asmK_bad {ks : List LK} {m : Nat} {e : Int} (h : asmK ks = .bad m e) : 0 < m ∧ (e = 92 ∨ e = 93 ∨ e = 94) := by
  unfold asmK at h
  split at h
  · next n e' hp =>
    injection h with h1 h2
    subst h1; subst h2
    exact pass1_bad _ _ _ _ _ _ hp
  · have := pass2_bad _ _ _ _ _ _ h
    exact ⟨this.1, .inr (.inl this.2)⟩
theorem moves_law {k : Nat} (hk : k ≤ 900) (text : List UInt8) : MovesOk k text (asm text) (asm (linesB k ++ text)) := by
  unfold MovesOk
  have hl : (linesB k ++ text).length = text.length + 4 * k := by rw [List.length_append, linesB_len]; omega
  by_cases h1 : 32768 < text.length + 4 * k
  · have e1 : asm (linesB k ++ text) = ([], 0, 94) := by unfold asm; rw [if_pos (by omega)]
    rw [e1, if_pos (.inr rfl)]
    exact ⟨rfl, rfl, .inl h1⟩
  · have e1 : asm (linesB k ++ text) = told (asmK (List.replicate k nopK ++ (splitC 10 text).map lineK)) := by
      unfold asm
      rw [if_neg (by omega), splitC_lines, List.map_append, List.map_replicate, lineK_nop]
    have e2 : asm text = told (asmK ((splitC 10 text).map lineK)) := by
      unfold asm
      rw [if_neg (by omega)]
    rw [e1, e2]
    rcases asm_moves (ks := (splitC 10 text).map lineK) hk with ⟨m, h2, h3⟩ | h2
    · rw [h2, told_bad, if_pos (.inr rfl)]
      exact ⟨rfl, rfl, .inr h3⟩
    · rw [h2]
      cases hr : asmK ((splitC 10 text).map lineK) with
      | bad n e =>
        obtain ⟨hn, he⟩ := asmK_bad hr
        show if e = 94 ∨ e = 94 then _ else _
        by_cases h94 : e = 94
        · rw [if_pos (.inl h94)]
          exact ⟨h94, rfl, .inr (by show 0 < n + k; omega)⟩
        · rw [if_neg (by rintro (h | h) <;> exact h94 h)]
          show if e ≠ 0 then _ else _
          rw [if_pos (by omega)]
          exact ⟨rfl, rfl, rfl, rfl⟩
      | fine out =>
        show if (0 : Int) = 94 ∨ (0 : Int) = 94 then _ else _
        rw [if_neg (by decide)]
        show if (0 : Int) ≠ 0 then _ else _
        rw [if_neg (by decide)]
        exact ⟨rfl, rfl, rfl, rfl⟩
/-! One behind the other. -/
theorem pass1_app : ∀ (ks js : List LK) (n size : Nat) (pl : Pl), pass1 (ks ++ js) n size pl = match pass1 ks n size pl with | .bad m e => .bad m e | .fine (s, q) => pass1 js (n + ks.length) s q
  | [], js, n, size, pl => rfl
  | k :: ks, js, n, size, pl => by
    have ih := fun a b c => pass1_app ks js a b c
    have el : ∀ x : Nat, x + 1 + ks.length = x + (k :: ks).length := fun x => by rw [List.length_cons]; omega
    cases k with
    | blank =>
      show pass1 (ks ++ js) (n + 1) size pl = _
      rw [ih, ← el n]
      rfl
    | lab l =>
      show (if (findP pl l).isSome then AR.bad (n + 1) 93 else pass1 (ks ++ js) (n + 1) size ((l, size) :: pl)) = match (if (findP pl l).isSome then AR.bad (n + 1) 93 else pass1 ks (n + 1) size ((l, size) :: pl)) with | .bad m e => _ | .fine (s, q) => _
      split
      · rfl
      · rw [ih, ← el n]
    | ins i to =>
      show (if 4096 < size + 4 then AR.bad (n + 1) 94 else pass1 (ks ++ js) (n + 1) (size + 4) pl) = match (if 4096 < size + 4 then AR.bad (n + 1) 94 else pass1 ks (n + 1) (size + 4) pl) with | .bad m e => _ | .fine (s, q) => _
      split
      · rfl
      · rw [ih, ← el n]
    | wrd w =>
      show (if 4096 < size + 4 then AR.bad (n + 1) 94 else pass1 (ks ++ js) (n + 1) (size + 4) pl) = match (if 4096 < size + 4 then AR.bad (n + 1) 94 else pass1 ks (n + 1) (size + 4) pl) with | .bad m e => _ | .fine (s, q) => _
      split
      · rfl
      · rw [ih, ← el n]
    | bad => rfl
theorem pass2_ins (i : In) (to : List UInt8) (ks : List LK) (n : Nat) (out : List UInt8) (pl : Pl) : pass2 (.ins i to :: ks) n out pl = if to = [] then pass2 ks (n + 1) (out ++ encL i) pl
    else match findP pl to with
      | none => .bad (n + 1) 93
      | some at_ => if okL { i with m := way at_ out.length } i.op.toNat then pass2 ks (n + 1) (out ++ encL { i with m := way at_ out.length }) pl else .bad (n + 1) 93 := rfl
theorem pass2_app : ∀ (ks js : List LK) (n : Nat) (out : List UInt8) (pl : Pl), pass2 (ks ++ js) n out pl = match pass2 ks n out pl with | .bad m e => .bad m e | .fine o => pass2 js (n + ks.length) o pl
  | [], js, n, out, pl => rfl
  | k :: ks, js, n, out, pl => by
    have ih := fun a b c => pass2_app ks js a b c
    have el : ∀ x : Nat, x + 1 + ks.length = x + (k :: ks).length := fun x => by rw [List.length_cons]; omega
    cases k with
    | blank =>
      show pass2 (ks ++ js) (n + 1) out pl = _
      rw [ih, ← el n]
      rfl
    | lab l =>
      show pass2 (ks ++ js) (n + 1) out pl = _
      rw [ih, ← el n]
      rfl
    | bad =>
      show pass2 (ks ++ js) (n + 1) out pl = _
      rw [ih, ← el n]
      rfl
    | wrd w =>
      show pass2 (ks ++ js) (n + 1) (out ++ fourB w) pl = _
      rw [ih, ← el n]
      rfl
    | ins i to =>
      rw [← el n]
      show pass2 (.ins i to :: (ks ++ js)) n out pl = _
      rw [pass2_ins, pass2_ins]
      split
      · exact ih _ _ _
      · split
        · rfl
        · split
          · exact ih _ _ _
          · rfl
/-- Where more places are known, each as it was. -/
theorem pass2_ext {pl P : Pl} (hx : ∀ l a, findP pl l = some a → findP P l = some a) : ∀ (ks : List LK) (n : Nat) (out z : List UInt8), pass2 ks n out pl = .fine z → pass2 ks n out P = .fine z
  | [], n, out, z, h => h
  | k :: ks, n, out, z, h => by
    cases k with
    | blank => exact pass2_ext hx ks (n + 1) out z h
    | lab l => exact pass2_ext hx ks (n + 1) out z h
    | bad => exact pass2_ext hx ks (n + 1) out z h
    | wrd w => exact pass2_ext hx ks (n + 1) _ z h
    | ins i to =>
      unfold pass2 at h ⊢
      split at h
      · next ht =>
        rw [if_pos ht]
        exact pass2_ext hx ks (n + 1) _ z h
      · next ht =>
        rw [if_neg ht]
        split at h
        · cases h
        · next a ha =>
          rw [hx _ _ ha]
          simp only
          split at h
          · next ho =>
            rw [if_pos ho]
            exact pass2_ext hx ks (n + 1) _ z h
          · cases h
/-- As many bytes as were reckoned. -/
theorem pass_len {P : Pl} : ∀ (ks : List LK) (n m size s : Nat) (pl q : Pl) (out z : List UInt8), pass1 ks n size pl = .fine (s, q) → pass2 ks m out P = .fine z → z.length + size = out.length + s
  | [], n, m, size, s, pl, q, out, z, h1, h2 => by
    injection h1 with h1
    injection h1 with h1 _
    injection h2 with h2
    subst h1; subst h2
    rfl
  | k :: ks, n, m, size, s, pl, q, out, z, h1, h2 => by
    cases k with
    | blank => exact pass_len ks (n + 1) (m + 1) size s pl q out z h1 h2
    | lab l =>
      unfold pass1 at h1
      split at h1
      · cases h1
      · exact pass_len ks (n + 1) (m + 1) size s _ q out z h1 h2
    | bad =>
      unfold pass1 at h1
      cases h1
    | wrd w =>
      unfold pass1 at h1
      split at h1
      · cases h1
      · have := pass_len ks (n + 1) (m + 1) (size + 4) s pl q (out ++ fourB w) z h1 h2
        rw [List.length_append, fourB_len] at this
        omega
    | ins i to =>
      unfold pass1 at h1
      split at h1
      · cases h1
      · unfold pass2 at h2
        split at h2
        · have := pass_len ks (n + 1) (m + 1) (size + 4) s pl q _ z h1 h2
          rw [List.length_append, encL_len] at this
          omega
        · split at h2
          · cases h2
          · split at h2
            · have := pass_len ks (n + 1) (m + 1) (size + 4) s pl q _ z h1 h2
              rw [List.length_append, encL_len] at this
              omega
            · cases h2
theorem pass1_grows : ∀ (ks : List LK) (n size s : Nat) (pl q : Pl), pass1 ks n size pl = .fine (s, q) → size ≤ s
  | [], n, size, s, pl, q, h => by
    injection h with h
    injection h with h _
    omega
  | k :: ks, n, size, s, pl, q, h => by
    cases k with
    | blank => exact pass1_grows ks (n + 1) size s pl q h
    | lab l =>
      unfold pass1 at h
      split at h
      · cases h
      · exact pass1_grows ks (n + 1) size s _ q h
    | bad => unfold pass1 at h; cases h
    | ins i to =>
      unfold pass1 at h
      split at h
      · cases h
      · have := pass1_grows ks (n + 1) (size + 4) s pl q h
        omega
    | wrd w =>
      unfold pass1 at h
      split at h
      · cases h
      · have := pass1_grows ks (n + 1) (size + 4) s pl q h
        omega
theorem findP_app (p q : Pl) (l : List UInt8) : findP (p ++ q) l = match findP p l with | some a => some a | none => findP q l := by
  unfold findP
  rw [List.find?_append]
  cases (p.find? fun x => x.1 == l) <;> rfl
theorem findP_cons (l : List UInt8) (a : Nat) (pl : Pl) (l' : List UInt8) : findP ((l, a) :: pl) l' = if l = l' then some a else findP pl l' := by
  unfold findP
  rw [List.find?_cons]
  by_cases h : l = l'
  · rw [if_pos h, beq_iff_eq.2 h]
    rfl
  · rw [if_neg h, beq_eq_false_iff_ne.2 h]
/-- The first pass behind another program. -/
theorem pass1_join (k d : Nat) (Q : Pl) : ∀ (ks : List LK) (n size s : Nat) (pl q : Pl), pass1 ks n size pl = .fine (s, q) →
    (∃ m, pass1 ks (n + k) (size + d) (shP d pl ++ Q) = .bad m 94 ∧ 4096 < s + d ∧ 0 < m) ∨ (∃ m, pass1 ks (n + k) (size + d) (shP d pl ++ Q) = .bad m 93 ∧ 0 < m) ∨
      (pass1 ks (n + k) (size + d) (shP d pl ++ Q) = .fine (s + d, shP d q ++ Q) ∧ ∀ l, (findP q l).isSome = true → (findP pl l).isSome = true ∨ findP Q l = none)
  | [], n, size, s, pl, q, h => by
    injection h with h
    injection h with h1 h2
    subst h1; subst h2
    exact .inr (.inr ⟨rfl, fun l hl => .inl hl⟩)
  | x :: ks, n, size, s, pl, q, h => by
    have e1 : n + k + 1 = n + 1 + k := by omega
    cases x with
    | blank =>
      have := pass1_join k d Q ks (n + 1) size s pl q h
      show (∃ m, pass1 ks (n + k + 1) (size + d) _ = _ ∧ _) ∨ (∃ m, pass1 ks (n + k + 1) (size + d) _ = _ ∧ _) ∨ (pass1 ks (n + k + 1) (size + d) _ = _ ∧ _)
      rw [e1]
      exact this
    | lab l =>
      unfold pass1 at h ⊢
      split at h
      · cases h
      · next hf =>
        have hn : findP pl l = none := by simpa using hf
        have hsh : findP (shP d pl ++ Q) l = findP Q l := by rw [findP_app, findP_sh, hn]; rfl
        rw [hsh]
        by_cases hq : (findP Q l).isSome = true
        · rw [if_pos hq]
          exact .inr (.inl ⟨_, rfl, by omega⟩)
        · rw [if_neg hq, e1]
          have hq' : findP Q l = none := by simpa using hq
          rcases pass1_join k d Q ks (n + 1) size s ((l, size) :: pl) q h with h1 | h1 | ⟨h1, h2⟩
          · exact .inl h1
          · exact .inr (.inl h1)
          · refine .inr (.inr ⟨h1, fun l' hl' => ?_⟩)
            rcases h2 l' hl' with h3 | h3
            · rw [findP_cons] at h3
              by_cases hll : l = l'
              · subst hll
                exact .inr hq'
              · rw [if_neg hll] at h3
                exact .inl h3
            · exact .inr h3
    | ins i to =>
      unfold pass1 at h ⊢
      split at h
      · cases h
      · by_cases h1 : 4096 < size + d + 4
        · rw [if_pos h1]
          have := pass1_grows _ _ _ _ _ _ h
          exact .inl ⟨_, rfl, by omega, by omega⟩
        · rw [if_neg h1, e1, show size + d + 4 = size + 4 + d by omega]
          exact pass1_join k d Q ks (n + 1) (size + 4) s pl q h
    | wrd w =>
      unfold pass1 at h ⊢
      split at h
      · cases h
      · by_cases h1 : 4096 < size + d + 4
        · rw [if_pos h1]
          have := pass1_grows _ _ _ _ _ _ h
          exact .inl ⟨_, rfl, by omega, by omega⟩
        · rw [if_neg h1, e1, show size + d + 4 = size + 4 + d by omega]
          exact pass1_join k d Q ks (n + 1) (size + 4) s pl q h
    | bad => unfold pass1 at h; cases h
theorem asmK_fine {ks : List LK} {x : List UInt8} (h : asmK ks = .fine x) : ∃ q, pass1 ks 0 0 [] = .fine (x.length, q) ∧ pass2 ks 0 [] q = .fine x := by
  unfold asmK at h
  split at h
  · cases h
  · next s q hp =>
    have := pass_len ks 0 0 0 s [] q [] x hp h
    have hs : s = x.length := by simp at this; omega
    subst hs
    exact ⟨q, hp, h⟩
/-- THE LAW OF JOINS. -/
theorem asm_joins {ks js : List LK} {x y : List UInt8} (hx : asmK ks = .fine x) (hy : asmK js = .fine y) :
    (∃ m, asmK (ks ++ js) = .bad m 94 ∧ 4096 < x.length + y.length ∧ 0 < m) ∨ (∃ m, asmK (ks ++ js) = .bad m 93 ∧ 0 < m) ∨ asmK (ks ++ js) = .fine (x ++ y) := by
  obtain ⟨q1, h1, h2⟩ := asmK_fine hx
  obtain ⟨q2, h3, h4⟩ := asmK_fine hy
  have hj := pass1_join ks.length x.length q1 js 0 0 y.length [] q2 h3
  have e0 : pass1 (ks ++ js) 0 0 [] = pass1 js (0 + ks.length) (0 + x.length) (shP x.length [] ++ q1) := by
    rw [pass1_app, h1]
    show pass1 js (0 + ks.length) x.length q1 = _
    rw [Nat.zero_add x.length]
    rfl
  unfold asmK
  rw [e0]
  rcases hj with ⟨m, h5, h6, h7⟩ | ⟨m, h5, h6⟩ | ⟨h5, h6⟩
  · rw [h5]
    exact .inl ⟨m, rfl, by omega, h7⟩
  · rw [h5]
    exact .inr (.inl ⟨m, rfl, h6⟩)
  · rw [h5]
    right; right
    have hdis : ∀ l a, findP q1 l = some a → findP q2 l = none := fun l a ha => by
      cases hq : findP q2 l with
      | none => rfl
      | some b =>
        rcases h6 l (by rw [hq]; rfl) with h7 | h7
        · cases h7
        · rw [ha] at h7; cases h7
    have p1 : pass2 ks 0 [] (shP x.length q2 ++ q1) = .fine x := pass2_ext (fun l a ha => by rw [findP_app, findP_sh, hdis l a ha]; exact ha) ks 0 [] x h2
    have p2 : pass2 js (0 + ks.length) (x ++ []) (shP x.length q2) = .fine (x ++ y) := by
      rw [pass2_sh, h4]
      rfl
    rw [List.append_nil] at p2
    have p3 := pass2_ext (P := shP x.length q2 ++ q1) (fun l a ha => by rw [findP_app, ha]) js _ _ _ p2
    show pass2 (ks ++ js) 0 [] (shP x.length q2 ++ q1) = _
    rw [pass2_app, p1]
    exact p3
/-- What IsaJoins asks of two programs that are. -/
theorem joins_law (a b : List UInt8) (x y : List UInt8) (ha : asm a = (x, 0, 0)) (hb : asm b = (y, 0, 0)) :
    let r := asm (a ++ 10 :: b)
    (r.2.2 ≠ 0 → r.1 = [] ∧ ((r.2.2 = 93 ∧ 0 < r.2.1) ∨ (r.2.2 = 94 ∧ (4096 < x.length + y.length ∨ 32768 < a.length + b.length + 1)))) ∧ (r.2.2 = 0 → r.1 = x ++ y ∧ r.2.1 = 0) := by
  have key : ∀ {t z : List UInt8}, asm t = (z, 0, 0) → asmK ((splitC 10 t).map lineK) = .fine z := fun {t z} h => by
    unfold asm at h
    split at h
    · injection h with _ h
      injection h with _ h
      exact absurd h (by decide)
    · cases hr : asmK ((splitC 10 t).map lineK) with
      | bad n e =>
        rw [hr] at h
        injection h with _ h
        injection h with h1 h2
        have := (asmK_bad hr).1
        omega
      | fine o =>
        rw [hr] at h
        injection h with h _
        rw [h]
  intro r
  have hlen : (a ++ 10 :: b).length = a.length + b.length + 1 := by simp; omega
  by_cases h1 : 32768 < a.length + b.length + 1
  · have e : r = ([], 0, 94) := by show asm _ = _; unfold asm; rw [if_pos (by omega)]
    rw [e]
    exact ⟨fun _ => ⟨rfl, .inr ⟨rfl, .inr h1⟩⟩, fun h => absurd h (by decide)⟩
  · have e : r = told (asmK ((splitC 10 a).map lineK ++ (splitC 10 b).map lineK)) := by
      show asm _ = _
      unfold asm
      rw [if_neg (by omega), splitC_two, List.map_append]
    rw [e]
    rcases asm_joins (key ha) (key hb) with ⟨m, h2, h3, h4⟩ | ⟨m, h2, h3⟩ | h2
    · rw [h2]
      exact ⟨fun _ => ⟨rfl, .inr ⟨rfl, .inl h3⟩⟩, fun h => absurd (show (94 : Int) = 0 from h) (by decide)⟩
    · rw [h2]
      exact ⟨fun _ => ⟨rfl, .inl ⟨rfl, h3⟩⟩, fun h => absurd (show (93 : Int) = 0 from h) (by decide)⟩
    · rw [h2]
      exact ⟨fun h => absurd rfl h, fun _ => ⟨rfl, rfl⟩⟩
end Go.Proofs.YtjijhjdemkgpgaaGreatDoor
