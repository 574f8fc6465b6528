/- Many pairs of disks. -/
import Derived.Test.YthmnloapjdalpaaK8
namespace Go.Proofs.Ythmnloapjdalpaa
open Go.RowKit
set_option linter.unusedVariables false
set_option linter.unusedSimpArgs false
/-- Another value at one place. -/
def at1 {α : Type} (f : Nat → α) (n : Nat) (x : α) : Nat → α := fun i => if i = n then x else f i
theorem at1_same {α : Type} (f : Nat → α) (n : Nat) (x : α) : at1 f n x n = x := if_pos rfl
theorem at1_ne {α : Type} {f : Nat → α} {n i : Nat} {x : α} (h : i ≠ n) : at1 f n x i = f i := if_neg h
/-- N pairs, made since w0, each in blocks of its own. -/
structure Duos (w0 w : World) (N : Nat) (P Q : Nat → Nat) (Z : Nat → List Nat) (D : Nat → Dk) : Prop where
  fr : Fr [] w0 w
  pair : ∀ i, i < N → ∃ g m, Z i = [P i, g, m, Q i] ∧ DiskAt w (P i) g m (D i) ∧ RD w (Q i) (D i)
  old : ∀ i, i < N → ∀ k, k ∈ Z i → w0.heap.size ≤ k
  apart : ∀ i j, i < N → j < N → i ≠ j → ∀ k, k ∈ Z i → k ∉ Z j
section
variable {w0 w w' : World} {N : Nat} {P Q : Nat → Nat} {Z : Nat → List Nat} {D : Nat → Dk}
theorem Duos.lt (h : Duos w0 w N P Q Z D) {i : Nat} (hi : i < N) : ∀ k, k ∈ Z i → k < w.heap.size := by
  obtain ⟨g, m, hz, ha, hy⟩ := h.pair i hi
  intro k hk
  rw [hz] at hk
  simp at hk
  rcases hk with rfl | rfl | rfl | rfl
  · exact ha.ltp
  · exact ha.ltg
  · exact ha.ltm
  · exact hy.lt
theorem Duos.not (h : Duos w0 w N P Q Z D) {i : Nat} (hi : i < N) {t : TypeId} (h1 : t ≠ 110) (h2 : t ≠ 5) (h3 : t ≠ 127) : NoT t w (Z i) := by
  obtain ⟨g, m, hz, ha, hy⟩ := h.pair i hi
  intro k hk
  rw [hz] at hk
  simp at hk
  rcases hk with rfl | rfl | rfl | rfl
  · exact ha.not h1 h2 _ (by simp)
  · exact ha.not h1 h2 _ (by simp)
  · exact ha.not h1 h2 _ (by simp)
  · exact hy.not h3 _ (by simp)
theorem Duos.prz (h : Duos w0 w N P Q Z D) {i : Nat} (hi : i < N) : Prz (Z i) w w (P i) (Q i) (D i) (D i) := by
  obtain ⟨g, m, hz, ha, hy⟩ := h.pair i hi
  rw [hz]
  exact ⟨⟨Fr.refl _ _, g, m, ha, .inl (by simp), .inl (by simp), .inl (by simp)⟩, hy, .inl (by simp)⟩
/-- Blocks that are not the pairs' turn. -/
theorem Duos.far (h : Duos w0 w N P Q Z D) {S : List Nat} (hf : Fr S w w') (h0 : ∀ k, k ∈ S → w0.heap.size ≤ k) (hS : ∀ i, i < N → ∀ k, k ∈ Z i → k ∉ S) (ho : NoO w S) (hz : NoZ w S) : Duos w0 w' N P Q Z D := by
  refine ⟨h.fr.step hf (fun k hk => .inr (h0 k hk)), fun i hi => ?_, h.old, h.apart⟩
  obtain ⟨g, m, e, ha, hy⟩ := h.pair i hi
  have hS' := hS i hi
  rw [e] at hS'
  exact ⟨g, m, e, ha.fr hf hz (hS' _ (by simp)) (hS' _ (by simp)) (hS' _ (by simp)), hy.fr hf (hS' _ (by simp)) ho hz⟩
theorem Duos.to (h : Duos w0 w N P Q Z D) (hf : Fr [] w w') : Duos w0 w' N P Q Z D := h.far hf (fun k hk => by cases hk) (fun i hi k hk => by simp) (NoO.nil _) (NoZ.nil _)
/-- A row of another type turns. -/
theorem Duos.row (h : Duos w0 w N P Q Z D) {k : Nat} {t : TypeId} {cs : Array Value} (hb : Blk w k t cs) (hk : w0.heap.size ≤ k) (h1 : t ≠ 110) (h2 : t ≠ 5) (h3 : t ≠ 127) (h4 : t ≠ 129) (h5 : t ≠ 3) (hf : Fr [k] w w') : Duos w0 w' N P Q Z D := by
  refine h.far hf (fun j hj => by simp at hj; subst hj; exact hk) (fun i hi j hj => ?_) (hb.noO h4) (fun j hj cs' mk' he => ?_)
  · simp
    rintro rfl
    unfold Blk at hb
    exact h.not hi h1 h2 h3 _ hj _ _ hb
  · simp at hj
    subst hj
    unfold Blk at hb
    rw [hb] at he
    injection he with he
    injection he with _ he _
    exact h5 he
/-- One pair turns. -/
theorem Duos.turn (h : Duos w0 w N P Q Z D) {n : Nat} (hn : n < N) {d : Dk} (hp : Prz (Z n) w w' (P n) (Q n) d d) : ∃ Z', Duos w0 w' N P Q Z' (at1 D n d) ∧ Fr (Z n) w w' := by
  obtain ⟨⟨f, g, m, ha, h1, h2, h3⟩, hy, h4⟩ := hp
  have hs := f.size
  have hs0 := h.fr.size
  have hall : ∀ k, k ∈ [P n, g, m, Q n] → k ∈ Z n ∨ w.heap.size ≤ k := by
    intro k hk
    simp at hk
    rcases hk with rfl | rfl | rfl | rfl
    · exact h1
    · exact h2
    · exact h3
    · exact h4
  refine ⟨at1 Z n [P n, g, m, Q n], ⟨h.fr.step f (fun k hk => .inr (h.old n hn k hk)), fun i hi => ?_, fun i hi k hk => ?_, fun i j hi hj hij k hk => ?_⟩, f⟩
  · by_cases e : i = n
    · subst e
      rw [at1_same, at1_same]
      exact ⟨g, m, rfl, ha, hy⟩
    · rw [at1_ne e, at1_ne e]
      obtain ⟨g', m', e', ha', hy'⟩ := h.pair i hi
      have hS' := h.apart i n hi hn e
      rw [e'] at hS'
      exact ⟨g', m', e', ha'.fr f (h.not hn (by decide) (by decide) (by decide)) (hS' _ (by simp)) (hS' _ (by simp)) (hS' _ (by simp)), hy'.fr f (hS' _ (by simp)) (h.not hn (by decide) (by decide) (by decide)) (h.not hn (by decide) (by decide) (by decide))⟩
  · by_cases e : i = n
    · subst e
      rw [at1_same] at hk
      rcases hall k hk with hk | hk
      · exact h.old i hn k hk
      · omega
    · rw [at1_ne e] at hk
      exact h.old i hi k hk
  · by_cases e : i = n
    · subst e
      rw [at1_same] at hk
      rw [at1_ne (fun e => hij e.symm)]
      rcases hall k hk with hk | hk
      · exact h.apart i j hn hj hij k hk
      · intro hk2
        have := h.lt hj k hk2
        omega
    · rw [at1_ne e] at hk
      by_cases e2 : j = n
      · subst e2
        rw [at1_same]
        intro hk2
        rcases hall k hk2 with hk2 | hk2
        · exact h.apart i j hi hn hij k hk hk2
        · have := h.lt hi k hk
          omega
      · rw [at1_ne e2]
        exact h.apart i j hi hj hij k hk
/-- One pair more. -/
theorem Duos.push (h : Duos w0 w N P Q Z D) (hf : Fr [] w w') {p g m q : Nat} {d : Dk} (ha : DiskAt w' p g m d) (hy : RD w' q d) (h1 : w.heap.size ≤ p) (h2 : w.heap.size ≤ g) (h3 : w.heap.size ≤ m) (h4 : w.heap.size ≤ q) : Duos w0 w' (N + 1) (at1 P N p) (at1 Q N q) (at1 Z N [p, g, m, q]) (at1 D N d) := by
  have h' := h.to hf
  have hs0 := h.fr.size
  have hall : ∀ k, k ∈ [p, g, m, q] → w.heap.size ≤ k := by
    intro k hk
    simp at hk
    rcases hk with rfl | rfl | rfl | rfl <;> assumption
  refine ⟨h'.fr, fun i hi => ?_, fun i hi k hk => ?_, fun i j hi hj hij k hk => ?_⟩
  · by_cases e : i = N
    · subst e
      simp only [at1_same]
      exact ⟨g, m, rfl, ha, hy⟩
    · simp only [at1_ne e]
      exact h'.pair i (by omega)
  · by_cases e : i = N
    · subst e
      rw [at1_same] at hk
      have := hall k hk
      omega
    · rw [at1_ne e] at hk
      exact h.old i (by omega) k hk
  · by_cases e : i = N
    · subst e
      rw [at1_same] at hk
      rw [at1_ne (fun e => hij e.symm)]
      intro hk2
      have := h.lt (show j < i by omega) k hk2
      have := hall k hk
      omega
    · rw [at1_ne e] at hk
      by_cases e2 : j = N
      · subst e2
        rw [at1_same]
        intro hk2
        have := h.lt (show i < j by omega) k hk
        have := hall k hk2
        omega
      · rw [at1_ne e2]
        exact h.apart i j (by omega) (by omega) hij k hk
theorem Duos.none (w : World) (P Q : Nat → Nat) (Z : Nat → List Nat) (D : Nat → Dk) : Duos w w 0 P Q Z D := ⟨Fr.refl _ _, fun i hi => by omega, fun i hi => by omega, fun i j hi => by omega⟩
end
end Go.Proofs.Ythmnloapjdalpaa
