/- What the iterator over bytes at an address tells, in plain words. -/
import Derived.Test.YtonongaakieciaaB
namespace Go.Proofs.Ytonongaakieciaa
open Go.RowKit
set_option linter.unusedVariables false

theorem ch1_cases (t : List Pg) (right a : Int) : ch1 t right a = 0 ∨ ch1 t right a = 81 ∨ ch1 t right a = 82 := by
  unfold ch1
  split
  · simp
  · split
    · simp
    · split <;> simp
/-- A place of a byte that is there lies in the memory. -/
theorem loc_lt {n : Nat} {t : List Pg} (hT : okT n t = true) {right a : Int} (h : ch1 t right a = 0) : loc t a < n * 256 := by
  unfold ch1 at h
  unfold loc
  split at h
  · omega
  · rename_i p hp
    split at h
    · omega
    · rename_i hf
      have hm : t[(a / 256).toNat]? = some p := by
        unfold pgAt at hp
        split at hp
        · cases hp
        · exact hp
      have h1 := (okT_at hT hm).2.1
      have h2 : (a % 256).toNat < 256 := by omega
      have h3 : p.f.toNat < n := by omega
      have h4 : p.f.toNat * 256 + 256 ≤ n * 256 := by
        have : (p.f.toNat + 1) * 256 ≤ n * 256 := Nat.mul_le_mul_right _ h3
        omega
      omega
/-- What the iterator tells: a place, or an error. -/
inductive Yb (N : Nat) where
  | ok (j : Nat) (h : j < N)
  | bad (e : Int) (h : e = 81 ∨ e = 82)
def y1 (N : Nat) (t : List Pg) (right a : Int) : Yb N := if h : ch1 t right a = 0 ∧ loc t a < N then .ok (loc t a) h.2 else if ch1 t right a = 82 then .bad 82 (.inr rfl) else .bad 81 (.inl rfl)
theorem y1_ok {N : Nat} {t : List Pg} {right a : Int} (h : ch1 t right a = 0) (h2 : loc t a < N) : y1 N t right a = .ok (loc t a) h2 := by
  unfold y1
  rw [dif_pos ⟨h, h2⟩]
theorem y1_bad {N : Nat} {t : List Pg} {right a e : Int} (h : ch1 t right a = e) (he : e = 81 ∨ e = 82) : y1 N t right a = .bad e he := by
  unfold y1
  rw [dif_neg (by omega)]
  rcases he with rfl | rfl
  · rw [if_neg (by omega)]
  · rw [if_pos h]
def ytk (N : Nat) (t : List Pg) (right a : Int) (k : Nat) : List (Yb N) := (List.range k).map fun (i : Nat) => y1 N t right (a + (i : Int))
theorem ytk_succ (N : Nat) (t : List Pg) (right a : Int) (k : Nat) : ytk N t right a (k + 1) = ytk N t right a k ++ [y1 N t right (a + k)] := by
  unfold ytk
  rw [List.range_succ, List.map_append]
  rfl
theorem ytk_len (N : Nat) (t : List Pg) (right a : Int) (k : Nat) : (ytk N t right a k).length = k := by simp [ytk]
/-- The first of n bytes that is not there, as a number; n, if all are. -/
def good (t : List Pg) (right : Int) : Int → Nat → Nat
  | _, 0 => 0
  | a, n + 1 => if ch1 t right a = 0 then good t right (a + 1) n + 1 else 0
theorem good_le (t : List Pg) (right : Int) : ∀ (n : Nat) (a : Int), good t right a n ≤ n := by
  intro n
  induction n with
  | zero => intro a; exact Nat.le_refl _
  | succ n ih =>
    intro a
    rw [good]
    split
    · have := ih (a + 1); omega
    · omega
theorem good_ok (t : List Pg) (right : Int) : ∀ (n : Nat) (a : Int) (i : Nat), i < good t right a n → ch1 t right (a + i) = 0 := by
  intro n
  induction n with
  | zero => intro a i h; simp [good] at h
  | succ n ih =>
    intro a i h
    rw [good] at h
    split at h
    · cases i with
      | zero => simpa using ‹ch1 t right a = 0›
      | succ i =>
        have := ih (a + 1) i (by omega)
        rwa [show a + ((i + 1 : Nat) : Int) = a + 1 + i from by omega]
    · omega
theorem thr_good (t : List Pg) (right : Int) : ∀ (n : Nat) (a : Int), thr t right a n = if good t right a n = n then 0 else ch1 t right (a + good t right a n) := by
  intro n
  induction n with
  | zero => intro a; rfl
  | succ n ih =>
    intro a
    rw [thr_succ, good]
    by_cases h : ch1 t right a = 0
    · rw [if_pos h, if_pos h, ih (a + 1)]
      by_cases h2 : good t right (a + 1) n = n
      · rw [if_pos h2, if_pos (by omega)]
      · rw [if_neg h2, if_neg (by omega)]
        rw [show a + ((good t right (a + 1) n + 1 : Nat) : Int) = a + 1 + (good t right (a + 1) n : Nat) from by omega]
    · rw [if_neg h, if_neg h, if_neg (by omega)]
      simp
theorem good_bad (t : List Pg) (right : Int) : ∀ (n : Nat) (a : Int), good t right a n < n → ch1 t right (a + good t right a n) ≠ 0 := by
  intro n
  induction n with
  | zero => intro a h; omega
  | succ n ih =>
    intro a h
    rw [good] at h ⊢
    by_cases h1 : ch1 t right a = 0
    · rw [if_pos h1] at h ⊢
      have := ih (a + 1) (by omega)
      rwa [show a + ((good t right (a + 1) n + 1 : Nat) : Int) = a + 1 + (good t right (a + 1) n : Nat) from by omega]
    · rw [if_neg h1]
      simpa using h1
theorem good_eq {t : List Pg} {right a : Int} {n k : Nat} (hk : k < n) (h : ∀ i, i < k → ch1 t right (a + i) = 0) (hb : ch1 t right (a + k) ≠ 0) : good t right a n = k := by
  have h1 : ¬ good t right a n < k := by
    intro hlt
    exact good_bad t right n a (by omega) (h _ hlt)
  have h2 : ¬ k < good t right a n := by
    intro hlt
    exact hb (good_ok t right n a k hlt)
  omega
theorem good_full {t : List Pg} {right a : Int} {n : Nat} (h : ∀ i, i < n → ch1 t right (a + i) = 0) : good t right a n = n := by
  have := good_le t right n a
  have h1 : ¬ good t right a n < n := by
    intro hlt
    exact good_bad t right n a hlt (h _ hlt)
  omega
/-- All that the iterator tells, if nobody stops it. -/
def yl (N : Nat) (t : List Pg) (right a : Int) (n : Nat) : List (Yb N) := ytk N t right a (if good t right a n = n then n else good t right a n + 1)
theorem yl_bad {N : Nat} {t : List Pg} {right a e : Int} {n k : Nat} (hk : k < n) (h : ∀ i, i < k → ch1 t right (a + (i : Nat)) = 0) (hb : ch1 t right (a + (k : Nat)) = e) (he : e = 81 ∨ e = 82) : ytk N t right a k ++ [.bad e he] = yl N t right a n := by
  have hg := good_eq hk h (by omega)
  unfold yl
  rw [hg, if_neg (by omega), ytk_succ, y1_bad hb he]
theorem yl_ok {N : Nat} {t : List Pg} {right a : Int} {k : Nat} (h : ch1 t right (a + (k : Nat)) = 0) (h2 : loc t (a + (k : Nat)) < N) : ytk N t right a k ++ [.ok (loc t (a + (k : Nat))) h2] = ytk N t right a (k + 1) := by
  rw [ytk_succ, y1_ok h h2]
theorem ytk_pre (N : Nat) (t : List Pg) (right a : Int) : ∀ (d k : Nat), ytk N t right a k <+: ytk N t right a (k + d) := by
  intro d
  induction d with
  | zero => intro k; exact List.prefix_refl _
  | succ d ih => intro k; rw [← Nat.add_assoc, ytk_succ]; exact (ih k).trans (List.prefix_append _ _)
theorem yl_pre {N : Nat} {t : List Pg} {right a : Int} {n k : Nat} (hk : k ≤ n) (h : ∀ i, i < k → ch1 t right (a + (i : Nat)) = 0) : ytk N t right a k <+: yl N t right a n := by
  unfold yl
  have h1 := good_le t right n a
  have h2 : k ≤ good t right a n := by
    apply Nat.le_of_not_lt
    intro hlt
    exact good_bad t right n a (by omega) (h _ hlt)
  split
  · obtain ⟨d, rfl⟩ : ∃ d, n = k + d := ⟨n - k, by omega⟩
    exact ytk_pre N t right a d k
  · obtain ⟨d, hd⟩ : ∃ d, good t right a n + 1 = k + d := ⟨good t right a n + 1 - k, by omega⟩
    rw [hd]
    exact ytk_pre N t right a d k
theorem ok_succ {t : List Pg} {right a : Int} {k : Nat} (h : ∀ i, i < k → ch1 t right (a + (i : Nat)) = 0) (h2 : ch1 t right (a + (k : Nat)) = 0) : ∀ i, i < k + 1 → ch1 t right (a + (i : Nat)) = 0 := by
  intro i hi
  by_cases hik : i = k
  · rw [hik]; exact h2
  · exact h i (by omega)
end Go.Proofs.Ytonongaakieciaa
