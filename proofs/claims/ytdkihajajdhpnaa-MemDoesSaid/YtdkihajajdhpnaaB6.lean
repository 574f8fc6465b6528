/- How many bytes a write changes; what is read of it, if no two pages lie on one frame. -/
import Derived.Test.YtdkihajajdhpnaaB5
namespace Go.Proofs.Ytdkihajajdhpnaa
open Go.RowKit
set_option linter.unusedVariables false
/-- How many of the first N bytes differ. -/
def chg (b b' : Nat → UInt8) : Nat → Nat
  | 0 => 0
  | N + 1 => chg b b' N + if b' N = b N then 0 else 1
theorem chg_succ (b b' : Nat → UInt8) (N : Nat) : chg b b' (N + 1) = chg b b' N + if b' N = b N then 0 else 1 := rfl
theorem chg_le (b b' : Nat → UInt8) : ∀ N, chg b b' N ≤ N := by
  intro N
  induction N with
  | zero => exact Nat.le_refl _
  | succ N ih => rw [chg_succ]; split <;> omega
theorem chg_tri (b b' b'' : Nat → UInt8) : ∀ N, chg b b'' N ≤ chg b b' N + chg b' b'' N := by
  intro N
  induction N with
  | zero => exact Nat.le_refl _
  | succ N ih =>
    rw [chg_succ, chg_succ, chg_succ]
    by_cases h1 : b' N = b N
    · by_cases h2 : b'' N = b' N
      · rw [if_pos h1, if_pos h2, if_pos (h2.trans h1)]; omega
      · rw [if_pos h1, if_neg h2]; split <;> omega
    · rw [if_neg h1]; split <;> split <;> omega
theorem chg_upd (b : Nat → UInt8) (k : Nat) (c : UInt8) : ∀ N, chg b (upd b k c) N ≤ if k < N then 1 else 0 := by
  intro N
  induction N with
  | zero => exact Nat.zero_le _
  | succ N ih =>
    rw [chg_succ]
    by_cases h : N = k
    · subst h
      rw [if_neg (by omega)] at ih
      rw [if_pos (show N < N + 1 by omega)]
      split <;> omega
    · rw [if_pos (upd_ne h)]
      split at ih
      · rw [if_pos (by omega)]; exact ih
      · omega
theorem chg_same (b : Nat → UInt8) : ∀ N, chg b b N = 0 := by
  intro N
  induction N with
  | zero => rfl
  | succ N ih => rw [chg_succ, ih, if_pos rfl]
theorem chg_wr (t : List Pg) (N : Nat) : ∀ (s : List UInt8) (b : Nat → UInt8) (a : Int), chg b (wrB t b a s) N ≤ s.length := by
  intro s
  induction s with
  | nil => intro b a; rw [wrB, chg_same]; exact Nat.le_refl _
  | cons c s ih =>
    intro b a
    rw [wrB]
    have h1 := ih (upd b (loc t a) c) (a + 1)
    have h2 := chg_tri b (upd b (loc t a) c) (wrB t (upd b (loc t a) c) (a + 1) s) N
    have h3 := chg_upd b (loc t a) c N
    simp only [List.length_cons]
    split at h3 <;> omega
/-- No two of the first k pages lie on one frame. -/
def apart (t : List Pg) (k : Nat) : Prop := ∀ i, i < k → ∀ j, j < i → ∀ p q, t[i]? = some p → t[j]? = some q → ¬ (0 ≤ p.f ∧ p.f = q.f)
theorem loc_inj {n : Nat} {t : List Pg} (hT : okT n t = true) (ha : apart t t.length) {a a' : Int} (h : ch1 t 2 a = 0) (h' : ch1 t 2 a' = 0) (hl : loc t a = loc t a') : a = a' := by
  obtain ⟨q, p, rfl, hq, hp, f0, fn, -, -, -, e⟩ := ch1_wr hT h
  obtain ⟨q', p', rfl, hq', hp', f0', fn', -, -, -, e'⟩ := ch1_wr hT h'
  rw [e, e'] at hl
  have h1 : p.f.toNat = p'.f.toNat := by omega
  have h2 : q % 256 = q' % 256 := by omega
  have h3 : q / 256 = q' / 256 := by
    apply Nat.le_antisymm
    · apply Nat.le_of_not_lt
      intro hlt
      exact ha (q / 256) (by omega) (q' / 256) hlt p p' hp hp' ⟨f0, by omega⟩
    · apply Nat.le_of_not_lt
      intro hlt
      exact ha (q' / 256) (by omega) (q / 256) hlt p' p hp' hp ⟨f0', by omega⟩
  omega
theorem wrB_out {t : List Pg} {k : Nat} : ∀ (s : List UInt8) (b : Nat → UInt8) (a : Int), (∀ j, j < s.length → loc t (a + (j : Nat)) ≠ k) → wrB t b a s k = b k := by
  intro s
  induction s with
  | nil => intro b a _; rfl
  | cons c s ih =>
    intro b a h
    rw [wrB, ih _ _ (fun j hj => by
      have := h (j + 1) (by simp; omega)
      rwa [show a + ((j + 1 : Nat) : Int) = a + 1 + (j : Nat) from by omega] at this)]
    have := h 0 (by simp)
    exact upd_ne (fun e => this (by simpa using e.symm))
/-- What was written is there. -/
theorem wrB_back {n : Nat} {t : List Pg} (hT : okT n t = true) (ha : apart t t.length) : ∀ (s : List UInt8) (b : Nat → UInt8) (a : Int), (∀ i, i < s.length → ch1 t 2 (a + (i : Nat)) = 0) → ∀ (i : Nat) (c : UInt8), s[i]? = some c → wrB t b a s (loc t (a + (i : Nat))) = c := by
  intro s
  induction s with
  | nil => intro b a _ i c h; simp at h
  | cons d s ih =>
    intro b a h i c hi
    rw [wrB]
    cases i with
    | zero =>
      simp at hi
      subst hi
      rw [wrB_out _ _ _ (fun j hj e => ?_)]
      · have : a + ((0 : Nat) : Int) = a := by omega
        rw [this, upd_same]
      · have h1 := h (j + 1) (by simp; omega)
        have h0 := h 0 (by simp)
        rw [show a + ((j + 1 : Nat) : Int) = a + 1 + (j : Nat) from by omega] at h1
        have := loc_inj hT ha h1 h0 e
        omega
    | succ i =>
      simp at hi
      have := ih (upd b (loc t a) d) (a + 1) (fun j hj => by
        have := h (j + 1) (by simp; omega)
        rwa [show a + ((j + 1 : Nat) : Int) = a + 1 + (j : Nat) from by omega] at this) i c hi
      rwa [show a + ((i + 1 : Nat) : Int) = a + 1 + (i : Nat) from by omega]
/-- A byte as a word, where it may be written. -/
theorem ld_one {st : St} {t : List Pg} {q : Nat} {p : Pg} (hT : okT st.n t = true) (hp : t[q / 256]? = some p) (hf : 0 ≤ p.f) :
    ldR st t (q : Int) 1 1 = if bits .and .i64 p.r 1 = 0 then (0, 82) else (((st.b (loc t (q : Int))).toNat : Int), 0) := by
  have h1 : ch1 t 1 (q : Int) = if bits .and .i64 p.r 1 = 0 then 82 else 0 := by
    rw [ch1_at hp, if_neg (by omega)]
  have h2 : thr t 1 (q : Int) 1 = if bits .and .i64 p.r 1 = 0 then 82 else 0 := by
    show (if ch1 t 1 (q : Int) = 0 then thr t 1 ((q : Int) + 1) 0 else ch1 t 1 (q : Int)) = _
    rw [h1]
    by_cases hb : bits .and .i64 p.r 1 = 0
    · rw [if_pos hb, if_neg (by omega)]
    · rw [if_neg hb, if_pos rfl]; rfl
  have h3 : rdR st t (q : Int) 1 1 = if bits .and .i64 p.r 1 = 0 then ([], 82) else ([st.b (loc t (q : Int))], 0) := by
    unfold rdR
    rw [if_neg (by rw [hT]; simp), if_neg (by omega)]
    show (if thr t 1 (q : Int) 1 = 0 then [st.b (loc t ((q : Int) + ((0 : Nat) : Int)))] else [], thr t 1 (q : Int) 1) = _
    rw [h2, show (q : Int) + ((0 : Nat) : Int) = (q : Int) from by omega]
    by_cases hb : bits .and .i64 p.r 1 = 0
    · rw [if_pos hb, if_neg (by omega)]; rw [if_pos hb]
    · rw [if_neg hb, if_pos rfl, if_neg hb]
  have h4 : ldR st t (q : Int) 1 1 = (((word (rdR st t (q : Int) 1 1).1 : Nat) : Int), (rdR st t (q : Int) 1 1).2) := by
    unfold ldR
    rw [if_neg (by rw [hT]; simp), if_neg (by omega)]
  rw [h4, h3]
  by_cases hb : bits .and .i64 p.r 1 = 0
  · rw [if_pos hb, if_pos hb]; rfl
  · rw [if_neg hb, if_neg hb]
    show (((word [st.b (loc t (q : Int))] : Nat) : Int), (0 : Int)) = _
    simp [word]
end Go.Proofs.Ytdkihajajdhpnaa
