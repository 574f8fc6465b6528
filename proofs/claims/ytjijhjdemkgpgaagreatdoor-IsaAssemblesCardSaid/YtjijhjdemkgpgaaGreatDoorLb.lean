/- Listings' lengths; a program listed and assembled; jumps to labels: the laws of IsaBack, IsaLines, IsaLabels, plain. -/
import Derived.Test.YtjijhjdemkgpgaaGreatDoorLi
namespace Go.Proofs.YtjijhjdemkgpgaaGreatDoor
set_option linter.unusedVariables false
set_option linter.unusedSimpArgs false
theorem itoa_len {n : Int} (h0 : -99999 ≤ n) (h1 : n ≤ 99999) : (Lib.itoa n).length ≤ 6 := by
  have e5 : (10 : Nat) ^ 5 = 100000 := by decide
  unfold Lib.itoa
  split
  · have := (decDigits_len (u := n.natAbs) (k := 5) (by omega)).2 (by omega)
    rw [List.length_cons]
    omega
  · have := (decDigits_len (u := n.toNat) (k := 5) (by omega)).2 (by omega)
    omega
theorem nm_len {k : Nat} (hk : k < 30) : (nmL k).length ≤ 5 := by
  have h : ∀ k : Fin 30, (nmL k.val).length ≤ 5 := by decide +kernel
  exact h ⟨k, hk⟩
theorem fm_len {k : Nat} (hk : k < 30) : (fmL k).length ≤ 3 := by
  have h : ∀ k : Fin 30, (fmL k.val).length ≤ 3 := by decide +kernel
  exact h ⟨k, hk⟩
theorem flat_len {l : List (List UInt8)} {B : Nat} (h : ∀ x ∈ l, x.length ≤ B) : (l.flatMap (32 :: ·)).length ≤ l.length * (B + 1) := by
  induction l with
  | nil => simp
  | cons x l ih =>
    rw [List.flatMap_cons, List.length_append, List.length_cons, List.length_cons, Nat.add_mul]
    have h1 := h x (by simp)
    have h2 := ih (fun y hy => h y (by simp [hy]))
    omega
theorem text_len {i : In} {k : Nat} (hk : k < 30) (h : okL i k = true) : (textL i [] k).length ≤ 29 := by
  obtain ⟨⟨a0, a1⟩, ⟨b0, b1⟩, hm⟩ := ok_bounds hk h
  have hm' : -99999 ≤ i.m ∧ i.m ≤ 99999 := by split at hm <;> omega
  have hf : ∀ c, (fieldT i [] c).length ≤ 7 := fun c => by
    unfold fieldT
    split
    · have := itoa_len (n := i.a) (by omega) (by omega)
      rw [List.length_cons]
      omega
    · split
      · have := itoa_len (n := i.b) (by omega) (by omega)
        rw [List.length_cons]
        omega
      · rw [if_neg (by simp)]
        have := itoa_len hm'.1 hm'.2
        omega
  unfold textL
  rw [List.length_append]
  have h1 := nm_len hk
  have h2 := fm_len hk
  have h3 := flat_len (l := (fmL k).map (fieldT i [])) (B := 7) (fun x hx => by
    obtain ⟨c, -, rfl⟩ := List.mem_map.1 hx
    exact hf c)
  rw [List.length_map] at h3
  have h4 : (fmL k).length * (7 + 1) ≤ 3 * 8 := Nat.mul_le_mul_right _ h2
  omega
theorem line_len (w : W4) : (lineOf w).length ≤ 29 := by
  unfold lineOf
  cases h : decL w with
  | some i =>
    obtain ⟨k, hk, hop, ho, -⟩ := decL_some h
    simp only
    rw [hop, Int.toNat_natCast]
    exact text_len hk ho
  | none =>
    have e10 : (10 : Nat) ^ 10 = 10000000000 := by decide
    have := (decDigits_len (u := w.n) (k := 10) (by omega)).2 (by have := w.n_lt; omega)
    simp only [List.length_append]
    show 5 + _ ≤ 29
    omega
theorem rows_len : ∀ ws : List W4, (rowsB ws).length ≤ 30 * ws.length
  | [] => Nat.le_refl _
  | w :: ws => by
    have h1 := rows_len ws
    have h2 := line_len w
    show ((lineOf w ++ [10]) ++ rowsB ws).length ≤ _
    simp only [List.length_append, List.length_cons, List.length_nil]
    omega
/-- A program's words. -/
def chunks : List UInt8 → List W4
  | a :: b :: c :: d :: r => ⟨a, b, c, d⟩ :: chunks r
  | _ => []
theorem chunks_bytes : ∀ (n : Nat) (p : List UInt8), p.length = 4 * n → bytesW (chunks p) = p ∧ (chunks p).length = n
  | 0, p, h => by
    have : p = [] := List.length_eq_zero_iff.1 (by omega)
    subst this
    exact ⟨rfl, rfl⟩
  | n + 1, p, h => by
    match p, h with
    | a :: b :: c :: d :: r, h =>
      have hr : r.length = 4 * n := by simp at h; omega
      obtain ⟨h1, h2⟩ := chunks_bytes n r hr
      refine ⟨?_, ?_⟩
      · show [a, b, c, d] ++ bytesW (chunks r) = _
        rw [h1]
        rfl
      · show (chunks r).length + 1 = n + 1
        rw [h2]
/-- A program's listing. -/
def listP (p : List UInt8) : List UInt8 × Int := if 4096 < p.length then ([], 94) else if p.length % 4 ≠ 0 then ([], 91) else (rowsB (chunks p), 0)
theorem list_back (p : List UInt8) (h : (listP p).2 = 0) : asm (listP p).1 = (p, 0, 0) := by
  unfold listP at h ⊢
  by_cases h1 : 4096 < p.length
  · rw [if_pos h1] at h
    exact absurd (show (94 : Int) = 0 from h) (by decide)
  · rw [if_neg h1] at h ⊢
    by_cases h2 : p.length % 4 ≠ 0
    · rw [if_pos h2] at h
      exact absurd (show (91 : Int) = 0 from h) (by decide)
    · rw [if_neg h2] at h ⊢
      obtain ⟨e1, e2⟩ := chunks_bytes (p.length / 4) p (by omega)
      have := rows_len (chunks p)
      show asm (rowsB (chunks p)) = _
      rw [asm_rows (chunks p) (by omega) (by omega), e1]
theorem list_no (p : List UInt8) (h : (listP p).2 ≠ 0) : (listP p).1 = [] ∧ ((4096 < p.length ∧ (listP p).2 = 94) ∨ (p.length % 4 ≠ 0 ∧ (listP p).2 = 91)) := by
  unfold listP at h ⊢
  by_cases h1 : 4096 < p.length
  · rw [if_pos h1]
    exact ⟨rfl, .inl ⟨h1, rfl⟩⟩
  · rw [if_neg h1] at h ⊢
    by_cases h2 : p.length % 4 ≠ 0
    · rw [if_pos h2]
      exact ⟨rfl, .inr ⟨h2, rfl⟩⟩
    · rw [if_neg h2] at h
      exact absurd rfl h
/-! Labels. -/
/-- An instruction that may be is its bytes' line. -/
theorem line_enc {i : In} {k : Nat} (hk : k < 30) (hop : i.op = (k : Int)) (h : okL i k = true) : lineOf (encW i) = textL i [] k := by
  unfold lineOf
  rw [dec_enc hk hop h]
  simp only
  rw [hop, Int.toNat_natCast]
theorem lab_line {l : List UInt8} (h : isLab l = true) : lineK (l ++ [58]) = .lab l := by
  unfold lineK
  rw [if_neg (by simp), if_pos ⟨by simp, by simpa using h⟩]
  simp
theorem lab_len {l : List UInt8} (h : isLab l = true) : l.length ≤ 12 ∧ l ≠ [] := by
  cases l with
  | nil => cases h
  | cons b r =>
    simp only [isLab, Bool.and_eq_true, decide_eq_true_eq] at h
    exact ⟨by rw [List.length_cons]; omega, by simp⟩
theorem findP_one (l : List UInt8) (a : Nat) : findP [(l, a)] l = some a := by
  rw [findP_cons, if_pos rfl]
def jumpT (l : List UInt8) : List UInt8 := [106, 117, 109, 112, 32, 64] ++ l
def someT (l : List UInt8) : List UInt8 := [115, 111, 109, 101, 32, 114, 51, 32, 64] ++ l
theorem jump_line {l : List UInt8} (h : isLab l = true) : lineK (jumpT l) = .ins ⟨24, 0, 0, 0⟩ l := by
  have e : jumpT l = textL ⟨24, 0, 0, 0⟩ l 24 := by
    have hne := (lab_len h).2
    show _ = nmL 24 ++ ([115].map (fieldT ⟨24, 0, 0, 0⟩ l)).flatMap (32 :: ·)
    simp [fieldT, hne, jumpT, nmL, nameL]
  rw [e]
  exact lineK_text (by omega) rfl (by decide) (.inr ⟨h, rfl, by decide, by decide⟩)
theorem some_line {l : List UInt8} (h : isLab l = true) : lineK (someT l) = .ins ⟨26, 3, 0, 0⟩ l := by
  have e : someT l = textL ⟨26, 3, 0, 0⟩ l 26 := by
    have hne := (lab_len h).2
    have h3 : Lib.itoa 3 = [51] := by
      unfold Lib.itoa
      rw [if_neg (by decide)]
      exact decDigits_small (by decide)
    show _ = nmL 26 ++ ([97, 115].map (fieldT ⟨26, 3, 0, 0⟩ l)).flatMap (32 :: ·)
    simp [fieldT, hne, someT, nmL, nameL, h3]
  rw [e]
  exact lineK_text (by omega) rfl (by decide) (.inr ⟨h, rfl, by decide, by decide⟩)
theorem ok_jump {m : Int} (h0 : -32768 ≤ m) (h1 : m ≤ 32767) : okL ⟨24, 0, 0, m⟩ 24 = true := by
  show (fitsL false 0 0 15 && fitsL false 0 0 15 && fitsL true m (-32768) 32767) = true
  simp [fitsL, h0, h1]
theorem ok_some {m : Int} (h0 : -32768 ≤ m) (h1 : m ≤ 32767) : okL ⟨26, 3, 0, m⟩ 26 = true := by
  show (fitsL true 3 0 15 && fitsL false 0 0 15 && fitsL true m (-32768) 32767) = true
  simp [fitsL, h0, h1]
/-- A jump over so many instructions. -/
theorem asm_over (ws : List W4) (hw : ws.length ≤ 1000) {l : List UInt8} (h : isLab l = true) : asm (jumpT l ++ [10] ++ rowsB ws ++ l ++ [58, 10]) = (encL ⟨24, 0, 0, ws.length⟩ ++ bytesW ws, 0, 0) := by
  have h10 : (10 : UInt8) ∉ jumpT l := by
    unfold jumpT
    simp [lab_no h (show isLd 10 = false by decide)]
  have h10' : (10 : UInt8) ∉ l ++ [58] := by
    simp [lab_no h (show isLd 10 = false by decide)]
  have ll := (lab_len h).1
  have hr := rows_len ws
  have e : splitC 10 (jumpT l ++ [10] ++ rowsB ws ++ l ++ [58, 10]) = jumpT l :: (ws.map lineOf ++ [l ++ [58], []]) := by
    rw [show jumpT l ++ [10] ++ rowsB ws ++ l ++ [58, 10] = jumpT l ++ 10 :: (rowsB ws ++ ((l ++ [58]) ++ 10 :: [])) by simp, splitC_app h10, splitC_rows, splitC_app h10']
    rfl
  have ek : (jumpT l :: (ws.map lineOf ++ [l ++ [58], []])).map lineK = .ins ⟨24, 0, 0, 0⟩ l :: (ws.map kindOf ++ [.lab l, .blank]) := by
    rw [List.map_cons, jump_line h, List.map_append, List.map_map]
    congr 2
    · apply List.map_congr_left
      intro w _
      exact lineK_of w
    · show [lineK (l ++ [58]), lineK []] = _
      rw [lab_line h]
      rfl
  have hlen : (jumpT l ++ [10] ++ rowsB ws ++ l ++ [58, 10]).length ≤ 32768 := by
    simp only [List.length_append, jumpT]
    simp
    omega
  unfold asm asmK
  rw [if_neg (by omega), e, ek]
  have p1 : pass1 (.ins ⟨24, 0, 0, 0⟩ l :: (ws.map kindOf ++ [.lab l, .blank])) 0 0 [] = .fine (4 + 4 * ws.length, [(l, 4 + 4 * ws.length)]) := by
    show (if 4096 < 0 + 4 then AR.bad 1 94 else pass1 (ws.map kindOf ++ [.lab l, .blank]) 1 4 []) = _
    rw [if_neg (by omega), pass1_rows ws _ 1 4 [] (by omega)]
    rfl
  rw [p1]
  have hway : way (4 + 4 * ws.length) 0 = (ws.length : Int) := by unfold way; omega
  have p2 : pass2 (.ins ⟨24, 0, 0, 0⟩ l :: (ws.map kindOf ++ [.lab l, .blank])) 0 [] [(l, 4 + 4 * ws.length)] = .fine (encL ⟨24, 0, 0, ws.length⟩ ++ bytesW ws) := by
    rw [pass2_ins, if_neg (lab_len h).2, findP_one]
    simp only [List.length_nil]
    rw [hway]
    show (if okL ⟨24, 0, 0, (ws.length : Int)⟩ 24 = true then pass2 (ws.map kindOf ++ [.lab l, .blank]) (0 + 1) ([] ++ encL ⟨24, 0, 0, (ws.length : Int)⟩) _ else _) = _
    rw [if_pos (ok_jump (by omega) (by omega)), pass2_rows]
    rfl
  show told (pass2 _ 0 [] [(l, 4 + 4 * ws.length)]) = _
  rw [p2]
  rfl
/-- A way back over so many. -/
theorem asm_behind (ws : List W4) (hw : ws.length ≤ 1000) {l : List UInt8} (h : isLab l = true) : asm (l ++ [58, 10] ++ rowsB ws ++ someT l) = (bytesW ws ++ encL ⟨26, 3, 0, -(ws.length : Int) - 1⟩, 0, 0) := by
  have h10 : (10 : UInt8) ∉ someT l := by
    unfold someT
    simp [lab_no h (show isLd 10 = false by decide)]
  have h10' : (10 : UInt8) ∉ l ++ [58] := by
    simp [lab_no h (show isLd 10 = false by decide)]
  have ll := (lab_len h).1
  have hr := rows_len ws
  have e : splitC 10 (l ++ [58, 10] ++ rowsB ws ++ someT l) = (l ++ [58]) :: (ws.map lineOf ++ [someT l]) := by
    rw [show l ++ [58, 10] ++ rowsB ws ++ someT l = (l ++ [58]) ++ 10 :: (rowsB ws ++ someT l) by simp, splitC_app h10', splitC_rows, splitC_none h10]
  have ek : ((l ++ [58]) :: (ws.map lineOf ++ [someT l])).map lineK = .lab l :: (ws.map kindOf ++ [.ins ⟨26, 3, 0, 0⟩ l]) := by
    rw [List.map_cons, lab_line h, List.map_append, List.map_map]
    congr 2
    · apply List.map_congr_left
      intro w _
      exact lineK_of w
    · show [lineK (someT l)] = _
      rw [some_line h]
  have hlen : (l ++ [58, 10] ++ rowsB ws ++ someT l).length ≤ 32768 := by
    simp only [List.length_append, someT]
    simp
    omega
  unfold asm asmK
  rw [if_neg (by omega), e, ek]
  have p1 : pass1 (.lab l :: (ws.map kindOf ++ [.ins ⟨26, 3, 0, 0⟩ l])) 0 0 [] = .fine (4 * ws.length + 4, [(l, 0)]) := by
    show pass1 (ws.map kindOf ++ [.ins ⟨26, 3, 0, 0⟩ l]) 1 0 [(l, 0)] = _
    rw [pass1_rows ws _ 1 0 _ (by omega), Nat.zero_add]
    show (if 4096 < 4 * ws.length + 4 then AR.bad (1 + ws.length + 1) 94 else _) = _
    rw [if_neg (by omega)]
    rfl
  rw [p1]
  have hway : way 0 (bytesW ws).length = -(ws.length : Int) - 1 := by unfold way; rw [bytesW_len]; omega
  have p2 : pass2 (.lab l :: (ws.map kindOf ++ [.ins ⟨26, 3, 0, 0⟩ l])) 0 [] [(l, 0)] = .fine (bytesW ws ++ encL ⟨26, 3, 0, -(ws.length : Int) - 1⟩) := by
    show pass2 (ws.map kindOf ++ [.ins ⟨26, 3, 0, 0⟩ l]) 1 [] [(l, 0)] = _
    rw [pass2_rows, List.nil_append, pass2_ins, if_neg (lab_len h).2, findP_one]
    simp only
    rw [hway]
    show (if okL ⟨26, 3, 0, -(ws.length : Int) - 1⟩ 26 = true then _ else _) = _
    rw [if_pos (ok_some (by omega) (by omega))]
    rfl
  show told (pass2 _ 0 [] [(l, 0)]) = _
  rw [p2]
  rfl
end Go.Proofs.YtjijhjdemkgpgaaGreatDoor
