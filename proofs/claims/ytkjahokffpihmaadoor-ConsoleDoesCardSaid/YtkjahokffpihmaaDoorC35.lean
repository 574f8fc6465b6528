/- ConsoleDoes: two rows of consoles, the program's and the reference's. -/
import Derived.Test.YtkjahokffpihmaaDoorC34
namespace Go.Proofs.YtkjahokffpihmaaDoor
open Go.RowKit
set_option linter.unusedVariables false
set_option linter.unusedSimpArgs false
def updA {α : Type} (f : Nat → α) (i : Nat) (v : α) : Nat → α := fun j => if j = i then v else f j
theorem updA_same {α : Type} (f : Nat → α) (i : Nat) (v : α) : updA f i v i = v := by unfold updA; rw [if_pos rfl]
theorem updA_other {α : Type} (f : Nat → α) {i j : Nat} (v : α) (h : j ≠ i) : updA f i v j = f j := by unfold updA; rw [if_neg h]
/-- n of the program's, m of the reference's, apart. -/
structure Fam (w0 W : World) (n m : Nat) (c k y g r : Nat → Nat) (X Z : Nat → Con) : Prop where
  p : ∀ i, i < n → ConAt W (c i) (k i) (X i)
  q : ∀ i, i < m → RAt W (y i) (Z i) (g i) (r i)
  cc : ∀ i j, i < n → j < n → i ≠ j → c i ≠ c j ∧ k i ≠ k j
  yy : ∀ i j, i < m → j < m → i ≠ j → y i ≠ y j
  kg : ∀ i j, i < n → j < m → k i ≠ g j ∧ k i ≠ r j
  f : Fr [] w0 W
  lo : ∀ i, i < n → w0.heap.size ≤ c i ∧ w0.heap.size ≤ k i
  ly : ∀ i, i < m → w0.heap.size ≤ y i
section
variable {w0 W W' : World} {n m : Nat} {c k y g r : Nat → Nat} {X Z : Nat → Con}
theorem Fam.ck (h : Fam w0 W n m c k y g r X Z) {i j : Nat} (hi : i < n) (hj : j < n) : c i ≠ k j := by
  obtain ⟨⟨cs, h1⟩, -⟩ := (h.p i hi).blks
  obtain ⟨-, ds, h2⟩ := (h.p j hj).blks
  exact h1.ne_ h2 (by decide)
theorem Fam.yck (h : Fam w0 W n m c k y g r X Z) {i j : Nat} (hi : i < m) (hj : j < n) : y i ≠ c j ∧ y i ≠ k j := by
  obtain ⟨cs, h1⟩ := (h.q i hi).blk
  obtain ⟨⟨ds, h2⟩, es, h3⟩ := (h.p j hj).blks
  exact ⟨h1.ne_ h2 (by decide), h1.ne_ h3 (by decide)⟩
theorem Fam.cgr (h : Fam w0 W n m c k y g r X Z) {i j : Nat} (hi : i < n) (hj : j < m) : c i ≠ g j ∧ c i ≠ r j := by
  obtain ⟨⟨cs, h1⟩, -⟩ := (h.p i hi).blks
  obtain ⟨⟨ds, h2⟩, es, h3⟩ := (h.q j hj).lists
  exact ⟨h1.ne_ h2 (by decide), h1.ne_ h3 (by decide)⟩
theorem Fam.ygr (h : Fam w0 W n m c k y g r X Z) {i j : Nat} (hi : i < m) (hj : j < m) : y i ≠ g j ∧ y i ≠ r j := by
  obtain ⟨cs, h1⟩ := (h.q i hi).blk
  obtain ⟨⟨ds, h2⟩, es, h3⟩ := (h.q j hj).lists
  exact ⟨h1.ne_ h2 (by decide), h1.ne_ h3 (by decide)⟩
theorem Fam.turnP (h : Fam w0 W n m c k y g r X Z) {i k' : Nat} {x' : Con} (hi : i < n) (ha : ConAt W' (c i) k' x') (hf : Fr [c i, k i] W W') (hk : k' = k i ∨ W.heap.size ≤ k') : Fam w0 W' n m c (updA k i k') y g r (updA X i x') Z where
  p j hj := by
    by_cases hji : j = i
    · subst hji
      rw [updA_same, updA_same]
      exact ha
    · rw [updA_other _ _ hji, updA_other _ _ hji]
      refine (h.p j hj).fr hf ?_ ?_
      · have h1 := (h.cc j i hj hi hji).1
        have h2 := h.ck hj hi
        simp
        exact ⟨h1, h2⟩
      · have h1 := (h.cc j i hj hi hji).2
        have h2 := h.ck hi hj
        simp
        exact ⟨Ne.symm h2, h1⟩
  q j hj := by
    have h1 := h.yck hj hi
    have h2 := h.kg i j hi hj
    have h3 := h.cgr hi hj
    refine (h.q j hj).fr hf ?_ ?_ ?_
    · simp; exact h1
    · simp; exact ⟨Ne.symm h3.1, Ne.symm h2.1⟩
    · simp; exact ⟨Ne.symm h3.2, Ne.symm h2.2⟩
  cc a b ha' hb' hab := by
    refine ⟨(h.cc a b ha' hb' hab).1, ?_⟩
    have la := (h.p a ha').lt.2
    have lb := (h.p b hb').lt.2
    by_cases h1 : a = i
    · subst h1
      have h2 : b ≠ a := Ne.symm hab
      rw [updA_same, updA_other _ _ h2]
      rcases hk with rfl | hk
      · exact (h.cc a b ha' hb' hab).2
      · omega
    · rw [updA_other _ _ h1]
      by_cases h2 : b = i
      · subst h2
        rw [updA_same]
        rcases hk with rfl | hk
        · exact (h.cc a b ha' hb' hab).2
        · omega
      · rw [updA_other _ _ h2]
        exact (h.cc a b ha' hb' hab).2
  yy := h.yy
  kg a b ha' hb' := by
    by_cases h1 : a = i
    · subst h1
      rw [updA_same]
      have := (h.q b hb').lt
      rcases hk with rfl | hk
      · exact h.kg a b ha' hb'
      · omega
    · rw [updA_other _ _ h1]
      exact h.kg a b ha' hb'
  f := h.f.step hf (fun j hj => by simp at hj; have := h.lo i hi; rcases hj with rfl | rfl; exact .inr this.1; exact .inr this.2)
  lo a ha' := by
    refine ⟨(h.lo a ha').1, ?_⟩
    by_cases h1 : a = i
    · subst h1
      rw [updA_same]
      have := (h.lo a ha').2
      have := h.f.size
      rcases hk with rfl | hk <;> omega
    · rw [updA_other _ _ h1]
      exact (h.lo a ha').2
  ly := h.ly
theorem Fam.turnQ (h : Fam w0 W n m c k y g r X Z) {i g' r' : Nat} {z' : Con} (hi : i < m) (ha : RAt W' (y i) z' g' r') (hf : Fr [y i] W W') (hg : g' = g i ∨ W.heap.size ≤ g') (hr : r' = r i ∨ W.heap.size ≤ r') : Fam w0 W' n m c k y (updA g i g') (updA r i r') X (updA Z i z') where
  p j hj := by
    have h1 := h.yck hi hj
    exact (h.p j hj).fr hf (by simp; exact Ne.symm h1.1) (by simp; exact Ne.symm h1.2)
  q j hj := by
    by_cases hji : j = i
    · subst hji
      rw [updA_same, updA_same, updA_same]
      exact ha
    · rw [updA_other _ _ hji, updA_other _ _ hji, updA_other _ _ hji]
      have h1 := h.yy j i hj hi hji
      have h2 := h.ygr hi hj
      exact (h.q j hj).fr hf (by simp; exact h1) (by simp; exact Ne.symm h2.1) (by simp; exact Ne.symm h2.2)
  cc := h.cc
  yy := h.yy
  kg a b ha' hb' := by
    have la := (h.p a ha').lt.2
    by_cases h1 : b = i
    · subst h1
      rw [updA_same, updA_same]
      refine ⟨?_, ?_⟩
      · rcases hg with rfl | hg
        · exact (h.kg a b ha' hb').1
        · omega
      · rcases hr with rfl | hr
        · exact (h.kg a b ha' hb').2
        · omega
    · rw [updA_other _ _ h1, updA_other _ _ h1]
      exact h.kg a b ha' hb'
  f := h.f.step hf (fun j hj => by simp at hj; subst hj; exact .inr (h.ly i hi))
  lo := h.lo
  ly := h.ly
theorem Fam.fr {S : List Nat} (h : Fam w0 W n m c k y g r X Z) (hf : Fr S W W') (hS : ∀ j, j ∈ S → w0.heap.size ≤ j ∧ ∀ cs t, Blk W j t cs → t ≠ 70 ∧ t ≠ 9 ∧ t ≠ 62) : Fam w0 W' n m c k y g r X Z where
  p j hj := by
    obtain ⟨⟨cs, h1⟩, ds, h2⟩ := (h.p j hj).blks
    exact (h.p j hj).fr hf (fun hm => ((hS _ hm).2 _ _ h1).1 rfl) (fun hm => ((hS _ hm).2 _ _ h2).2.1 rfl)
  q j hj := by
    obtain ⟨cs, h1⟩ := (h.q j hj).blk
    obtain ⟨⟨ds, h2⟩, es, h3⟩ := (h.q j hj).lists
    exact (h.q j hj).fr hf (fun hm => ((hS _ hm).2 _ _ h1).2.2 rfl) (fun hm => ((hS _ hm).2 _ _ h2).2.1 rfl) (fun hm => ((hS _ hm).2 _ _ h3).2.1 rfl)
  cc := h.cc
  yy := h.yy
  kg := h.kg
  f := h.f.step hf (fun j hj => .inr (hS j hj).1)
  lo := h.lo
  ly := h.ly
theorem Fam.pushP (h : Fam w0 W n m c k y g r X Z) {c' k' : Nat} {x' : Con} (ha : ConAt W' c' k' x') (hf : Fr [] W W') (hc : W.heap.size ≤ c') (hk : W.heap.size ≤ k') : Fam w0 W' (n + 1) m (updA c n c') (updA k n k') y g r (updA X n x') Z where
  p j hj := by
    by_cases h1 : j = n
    · subst h1
      rw [updA_same, updA_same, updA_same]
      exact ha
    · rw [updA_other _ _ h1, updA_other _ _ h1, updA_other _ _ h1]
      exact (h.p j (by omega)).to hf
  q j hj := (h.q j hj).to hf
  cc a b ha' hb' hab := by
    by_cases h1 : a = n
    · subst h1
      have h2 : b ≠ a := Ne.symm hab
      rw [updA_same, updA_same, updA_other _ _ h2, updA_other _ _ h2]
      have := (h.p b (by omega)).lt
      omega
    · rw [updA_other _ _ h1, updA_other _ _ h1]
      have la := (h.p a (by omega)).lt
      by_cases h2 : b = n
      · subst h2
        rw [updA_same, updA_same]
        omega
      · rw [updA_other _ _ h2, updA_other _ _ h2]
        exact h.cc a b (by omega) (by omega) hab
  yy := h.yy
  kg a b ha' hb' := by
    by_cases h1 : a = n
    · subst h1
      rw [updA_same]
      have := (h.q b hb').lt
      omega
    · rw [updA_other _ _ h1]
      exact h.kg a b (by omega) hb'
  f := h.f.trans hf
  lo a ha' := by
    have := h.f.size
    by_cases h1 : a = n
    · subst h1
      rw [updA_same, updA_same]
      omega
    · rw [updA_other _ _ h1, updA_other _ _ h1]
      exact h.lo a (by omega)
  ly := h.ly
theorem Fam.pushQ (h : Fam w0 W n m c k y g r X Z) {y' g' r' : Nat} {z' : Con} (ha : RAt W' y' z' g' r') (hf : Fr [] W W') (hy : W.heap.size ≤ y') (hg : ∀ a, a < n → k a ≠ g' ∧ k a ≠ r') : Fam w0 W' n (m + 1) c k (updA y m y') (updA g m g') (updA r m r') X (updA Z m z') where
  p j hj := (h.p j hj).to hf
  q j hj := by
    by_cases h1 : j = m
    · subst h1
      rw [updA_same, updA_same, updA_same, updA_same]
      exact ha
    · rw [updA_other _ _ h1, updA_other _ _ h1, updA_other _ _ h1, updA_other _ _ h1]
      exact (h.q j (by omega)).to hf
  cc := h.cc
  yy a b ha' hb' hab := by
    by_cases h1 : a = m
    · subst h1
      have h2 : b ≠ a := Ne.symm hab
      rw [updA_same, updA_other _ _ h2]
      have := (h.q b (by omega)).lt
      omega
    · rw [updA_other _ _ h1]
      have la := (h.q a (by omega)).lt
      by_cases h2 : b = m
      · subst h2
        rw [updA_same]
        omega
      · rw [updA_other _ _ h2]
        exact h.yy a b (by omega) (by omega) hab
  kg a b ha' hb' := by
    by_cases h1 : b = m
    · subst h1
      rw [updA_same, updA_same]
      exact hg a ha'
    · rw [updA_other _ _ h1, updA_other _ _ h1]
      exact h.kg a b ha' (by omega)
  f := h.f.trans hf
  lo := h.lo
  ly a ha' := by
    have := h.f.size
    by_cases h1 : a = m
    · subst h1
      rw [updA_same]
      omega
    · rw [updA_other _ _ h1]
      exact h.ly a (by omega)
end
/-- A call that turns consoles alone. -/
def Tame (W W' : World) : Prop := ∃ S, Fr S W W' ∧ ∀ j, j ∈ S → ∃ t cs, Blk W j t cs ∧ (t = 70 ∨ t = 9 ∨ t = 62)
theorem Tame.of {W W' : World} (h : Fr [] W W') : Tame W W' := ⟨[], h, fun j hj => by simp at hj⟩
theorem Tame.blk {W W' : World} {b : Nat} {t : TypeId} {cs : Array Value} (h : Tame W W') (hb : Blk W b t cs) (h1 : t ≠ 70) (h2 : t ≠ 9) (h3 : t ≠ 62) : Blk W' b t cs := by
  obtain ⟨S, hf, hS⟩ := h
  refine hb.fr hf fun hm => ?_
  obtain ⟨t', cs', hb', ht⟩ := hS b hm
  have := (hb.eq hb').1
  subst this
  rcases ht with h | h | h
  · exact h1 h
  · exact h2 h
  · exact h3 h
theorem Tame.own {W W' : World} {base : Nat} {e : TypeId} {size : Nat} {v : Value} {n : Nat} {xs : List Value} (h : Tame W W') (ho : W.ownsRow base e size v n xs) (h1 : e ≠ 70) (h2 : e ≠ 9) (h3 : e ≠ 62) : W'.ownsRow base e size v n xs := by
  obtain ⟨S, hf, hS⟩ := h
  refine own_fr ho hf fun j hj cs hb => ?_
  obtain ⟨t', cs', hb', ht⟩ := hS j hj
  have := (hb.eq hb').1
  subst this
  rcases ht with h | h | h
  · exact h1 h
  · exact h2 h
  · exact h3 h
def ptrs (c : Nat → Nat) (n : Nat) : List Value := (List.range n).map fun i => ptr (c i)
theorem ptrs_len (c : Nat → Nat) (n : Nat) : (ptrs c n).length = n := by simp [ptrs]
theorem ptrs_at (c : Nat → Nat) {n i : Nat} (h : i < n) : (ptrs c n)[i]? = some (ptr (c i)) := by simp [ptrs, h]
theorem ptrs_snoc (c : Nat → Nat) (n c' : Nat) : ptrs (updA c n c') (n + 1) = ptrs c n ++ [ptr c'] := by
  unfold ptrs
  rw [List.range_succ, List.map_append]
  congr 1
  · apply List.map_congr_left
    intro i hi
    rw [updA_other _ _ (by have := List.mem_range.1 hi; omega)]
  · simp [updA_same]
theorem ptrs_upd (c : Nat → Nat) (n c' : Nat) : ptrs (updA c n c') n = ptrs c n := by
  unfold ptrs
  apply List.map_congr_left
  intro i hi
  rw [updA_other _ _ (by have := List.mem_range.1 hi; omega)]
/-- The two rows: n and m consoles, n' and m' of them laid in the rows. -/
structure Two (w0 W : World) (n n' m m' : Nat) (c y : Nat → Nat) (X Z : Nat → Con) (vx vy : Value) : Prop where
  fam : ∃ k g r, Fam w0 W n m c k y g r X Z
  xs : W.ownsRow w0.heap.size 25 1 vx n' (ptrs c n')
  ys : W.ownsRow w0.heap.size 27 1 vy m' (ptrs y m')
section
variable {w0 W W' : World} {n n' m m' : Nat} {c y : Nat → Nat} {X Z : Nat → Con} {vx vy : Value} {gx cx gy cy : Nat}
theorem Two.f (h : Two w0 W n n' m m' c y X Z vx vy) : Fr [] w0 W := by
  obtain ⟨k, g, r, hf⟩ := h.fam
  exact hf.f
theorem Two.to (h : Two w0 W n n' m m' c y X Z vx vy) (hf : Fr [] W W') : Two w0 W' n n' m m' c y X Z vx vy := by
  obtain ⟨⟨k, g, r, h1⟩, h2, h3⟩ := h
  exact ⟨⟨k, g, r, h1.fr hf (fun j hj => by simp at hj)⟩, own_fr h2 hf (by simp), own_fr h3 hf (by simp)⟩
/-- A call on one of the program's. -/
theorem Two.P (h : Two w0 W n n' m m' c y X Z vx vy) {i : Nat} (hi : i < n) {F : Nat} {args : Array Value} {v : Value} {x' : Con}
    (hc : ∀ k, Cn w0 W (c i) k (X i) → Calls Tryd.prog F args W fun e w' => e = .returned v ∧ ∃ k', ConAt w' (c i) k' x' ∧ Fr [c i, k] W w' ∧ (k' = k ∨ W.heap.size ≤ k')) :
    Calls Tryd.prog F args W fun e w' => e = .returned v ∧ Two w0 w' n n' m m' c y (updA X i x') Z vx vy ∧ Tame W w' := by
  obtain ⟨⟨k, g, r, h1⟩, h2, h3⟩ := h
  refine (hc (k i) ⟨h1.p i hi, h1.f, (h1.lo i hi).1, (h1.lo i hi).2⟩).mono ?_
  rintro e w' ⟨rfl, k', ha, hf, hk⟩
  have ht : Tame W w' := ⟨_, hf, fun j hj => by
    obtain ⟨⟨cs, b1⟩, ds, b2⟩ := (h1.p i hi).blks
    simp at hj
    rcases hj with rfl | rfl
    · exact ⟨70, cs, b1, .inl rfl⟩
    · exact ⟨9, ds, b2, .inr (.inl rfl)⟩⟩
  exact ⟨rfl, ⟨⟨_, g, r, h1.turnP hi ha hf hk⟩, ht.own h2 (by decide) (by decide) (by decide), ht.own h3 (by decide) (by decide) (by decide)⟩, ht⟩
/-- A call on one of the reference's. -/
theorem Two.Q (h : Two w0 W n n' m m' c y X Z vx vy) {i : Nat} (hi : i < m) {F : Nat} {args : Array Value} {v : Value} {z' : Con}
    (hc : ∀ g r, RAt W (y i) (Z i) g r → Calls Tryd.prog F args W (RaP W (y i) g r z' v)) :
    Calls Tryd.prog F args W fun e w' => e = .returned v ∧ Two w0 w' n n' m m' c y X (updA Z i z') vx vy ∧ Tame W w' := by
  obtain ⟨⟨k, g, r, h1⟩, h2, h3⟩ := h
  refine (hc (g i) (r i) (h1.q i hi)).mono ?_
  rintro e w' ⟨rfl, g', r', ha, hf, hg, hr⟩
  have ht : Tame W w' := ⟨_, hf, fun j hj => by
    obtain ⟨cs, b1⟩ := (h1.q i hi).blk
    simp at hj
    subst hj
    exact ⟨62, cs, b1, .inr (.inr rfl)⟩⟩
  exact ⟨rfl, ⟨⟨k, _, _, h1.turnQ hi ha hf hg hr⟩, ht.own h2 (by decide) (by decide) (by decide), ht.own h3 (by decide) (by decide) (by decide)⟩, ht⟩
theorem Two.clone (h : Two w0 W n n n n c y X Z vx vy) {i : Nat} (hi : i < n) : Calls Tryd.prog 29 #[ptr (c i)] W fun e w' => ∃ c', e = .returned (ptr c') ∧ Two w0 w' (n + 1) n n n (updA c n c') y (updA X n (X i)) Z vx vy ∧ Fr [] W w' := by
  obtain ⟨⟨k, g, r, h1⟩, h2, h3⟩ := h
  refine (clone_any W (c i) (k i) (X i) (h1.p i hi)).mono ?_
  rintro e w' ⟨c', k', rfl, ha, hf, hc, hk⟩
  exact ⟨c', rfl, ⟨⟨_, g, r, h1.pushP ha hf hc hk⟩, by rw [ptrs_upd]; exact own_fr h2 hf (by simp), own_fr h3 hf (by simp)⟩, hf⟩
theorem Two.copy (h : Two w0 W (n + 1) (n + 1) n n c y X Z vx vy) {i : Nat} (hi : i < n) : Calls Tryd.prog 30 #[ptr (y i)] W fun e w' => ∃ y', e = .returned (ptr y') ∧ Two w0 w' (n + 1) (n + 1) (n + 1) n c (updA y n y') X (updA Z n (Z i)) vx vy ∧ Fr [] W w' := by
  obtain ⟨⟨k, g, r, h1⟩, h2, h3⟩ := h
  refine (rcopy_any W (y i) (g i) (r i) (Z i) (h1.q i hi)).mono ?_
  rintro e w' ⟨y', rfl, ha, hf, hy⟩
  exact ⟨y', rfl, ⟨⟨k, _, _, h1.pushQ ha hf hy (fun a ha' => h1.kg a i ha' hi)⟩, own_fr h2 hf (by simp), by rw [ptrs_upd]; exact own_fr h3 hf (by simp)⟩, hf⟩
theorem Two.shows (h : Two w0 W n n' m m' c y X Z vx vy) {i : Nat} (hi : i < n) (hj : i < m) (he : X i = Z i) : Calls Tryd.prog 31 #[ptr (c i), ptr (y i)] W fun e w' => e = .returned (.bool true) ∧ Two w0 w' n n' m m' c y X Z vx vy ∧ Fr [] W w' := by
  obtain ⟨k, g, r, h1⟩ := h.fam
  have hq := h1.q i hj
  rw [← he] at hq
  exact (shows_any W (c i) (k i) (y i) (g i) (r i) (X i) (h1.p i hi) hq).mono fun e w' ⟨he, hf⟩ => ⟨he, h.to hf, hf⟩
/-- The row's append. -/
theorem Two.growX (h : Two w0 W (n + 1) n n n c y X Z vx vy) {v' : Value} (ho : W'.ownsRow w0.heap.size 25 1 v' (n + 1) (ptrs c (n + 1))) (hg : W.grownBy W' vx.ownBlock) : Two w0 W' (n + 1) (n + 1) n n c y X Z v' vy ∧ ∃ S, Fr S W W' ∧ ∀ j, j ∈ S → w0.heap.size ≤ j ∧ ∃ cs, Blk W j 25 cs := by
  obtain ⟨⟨k, g, r, h1⟩, h2, h3⟩ := h
  have hf := Fr.of_own hg
  have hb := own_blk h2
  refine ⟨⟨⟨k, g, r, h1.fr hf (fun j hj => ⟨(hb j hj).1, fun cs t hB => ?_⟩)⟩, ho, own_fr h3 hf (fun j hj cs hB => ?_)⟩, _, hf, hb⟩
  · obtain ⟨ds, hd⟩ := (hb j hj).2
    have := (hd.eq hB).1
    subst this
    decide
  · obtain ⟨ds, hd⟩ := (hb j hj).2
    exact absurd (hd.eq hB).1 (by decide)
theorem Two.growY (h : Two w0 W (n + 1) (n + 1) (n + 1) n c y X Z vx vy) {v' : Value} (ho : W'.ownsRow w0.heap.size 27 1 v' (n + 1) (ptrs y (n + 1))) (hg : W.grownBy W' vy.ownBlock) : Two w0 W' (n + 1) (n + 1) (n + 1) (n + 1) c y X Z vx v' ∧ ∃ S, Fr S W W' ∧ ∀ j, j ∈ S → w0.heap.size ≤ j ∧ ∃ cs, Blk W j 27 cs := by
  obtain ⟨⟨k, g, r, h1⟩, h2, h3⟩ := h
  have hf := Fr.of_own hg
  have hb := own_blk h3
  refine ⟨⟨⟨k, g, r, h1.fr hf (fun j hj => ⟨(hb j hj).1, fun cs t hB => ?_⟩)⟩, own_fr h2 hf (fun j hj cs hB => ?_), ho⟩, _, hf, hb⟩
  · obtain ⟨ds, hd⟩ := (hb j hj).2
    have := (hd.eq hB).1
    subst this
    decide
  · obtain ⟨ds, hd⟩ := (hb j hj).2
    exact absurd (hd.eq hB).1 (by decide)
/-- A cell of the rows. -/
theorem Two.cells (h : Two w0 W n n' m m' c y X Z vx vy) {i : Nat} (hi : i < n') (hj : i < m') : ∃ gx cx gy cy, vx = .slice (some ⟨gx, 0, none⟩) n' cx ∧ vy = .slice (some ⟨gy, 0, none⟩) m' cy ∧ W.cell? ⟨gx, i, none⟩ = some (ptr (c i)) ∧ W.cell? ⟨gy, i, none⟩ = some (ptr (y i)) := by
  obtain ⟨gx, cx, cs, e1, _, _, _, b1, k1⟩ := own_some h.xs (fun he => by rcases h.xs.2 with h2 | ⟨_, _, _, h2, _⟩; omega; rw [h2] at he; cases he)
  obtain ⟨gy, cy, ds, e2, _, _, _, b2, k2⟩ := own_some h.ys (fun he => by rcases h.ys.2 with h2 | ⟨_, _, _, h2, _⟩; omega; rw [h2] at he; cases he)
  exact ⟨gx, cx, gy, cy, e1, e2, by rw [b1.cell]; exact k1 i _ (ptrs_at c hi), by rw [b2.cell]; exact k2 i _ (ptrs_at y hj)⟩
theorem Two.cellX (h : Two w0 W n n' m m' c y X Z (.slice (some ⟨gx, 0, none⟩) n' cx) vy) {i : Nat} (hi : i < n') : W.cell? ⟨gx, i, none⟩ = some (ptr (c i)) := by
  obtain ⟨gx', cx', cs, e1, _, _, _, b1, k1⟩ := own_some h.xs (fun he => by cases he)
  injection e1 with e1 _ _
  injection e1 with e1
  injection e1 with e1 _ _
  subst e1
  rw [b1.cell]
  exact k1 i _ (ptrs_at c hi)
theorem Two.cellY (h : Two w0 W n n' m m' c y X Z vx (.slice (some ⟨gy, 0, none⟩) m' cy)) {i : Nat} (hi : i < m') : W.cell? ⟨gy, i, none⟩ = some (ptr (y i)) := by
  obtain ⟨gx', cx', cs, e1, _, _, _, b1, k1⟩ := own_some h.ys (fun he => by cases he)
  injection e1 with e1 _ _
  injection e1 with e1
  injection e1 with e1 _ _
  subst e1
  rw [b1.cell]
  exact k1 i _ (ptrs_at y hi)
end
/-! The calls. -/
section
variable {w0 W : World} {n n' m m' : Nat} {c y : Nat → Nat} {X Z : Nat → Con} {vx vy : Value} {i : Nat}
theorem Two.keys (h : Two w0 W n n' m m' c y X Z vx vy) (hi : i < n) (t : ByteArray) (ht : t.size ≤ maxLen) : Calls Tryd.prog 23 #[ptr (c i), .string t] W fun e w' => e = .returned (.tuple #[]) ∧ Two w0 w' n n' m m' c y (updA X i (keysX (X i) t.data.toList)) Z vx vy ∧ Tame W w' :=
  h.P hi fun k hk => (cn_keys hk t ht).mono fun e w' ⟨he, ha, hf⟩ => ⟨he, k, ha.a, hf, .inl rfl⟩
theorem Two.rkey (h : Two w0 W n n' m m' c y X Z vx vy) (hi : i < m) (b : UInt8) : Calls Tryd.prog 24 #[ptr (y i), .int .u8 (b.toNat : Int)] W fun e w' => e = .returned (.tuple #[]) ∧ Two w0 w' n n' m m' c y X (updA Z i (key (Z i) b)) vx vy ∧ Tame W w' :=
  h.Q hi fun g r hr => rkey_any W (y i) g r (Z i) hr b
theorem Two.write (h : Two w0 W n n' m m' c y X Z vx vy) (hi : i < n) (l : Int) (t : ByteArray) (ht : t.size ≤ maxLen) : Calls Tryd.prog 19 #[ptr (c i), .int .i64 l, .string t] W fun e w' => e = .returned (.int .i64 (wrE (X i) l)) ∧ Two w0 w' n n' m m' c y (updA X i (write (X i) l t.data.toList)) Z vx vy ∧ Tame W w' :=
  h.P hi fun k hk => (hk.write l t ht).mono fun e w' ⟨he, ha, hf⟩ => ⟨he, k, ha.a, hf, .inl rfl⟩
theorem Two.rwrite (h : Two w0 W n n' m m' c y X Z vx vy) (hi : i < m) (l : Int) (t : ByteArray) (ht : t.size ≤ maxLen) : Calls Tryd.prog 25 #[ptr (y i), .int .i64 l, .string t] W fun e w' => e = .returned (.int .i64 (wrE (Z i) l)) ∧ Two w0 w' n n' m m' c y X (updA Z i (Go.Proofs.YtkjahokffpihmaaDoor.write (Z i) l t.data.toList)) vx vy ∧ Tame W w' :=
  h.Q hi fun g r hr => rwrite_any W (y i) g r (Z i) hr l t ht
theorem Two.take (h : Two w0 W n n' m m' c y X Z vx vy) (hi : i < n) (l : Int) : Calls Tryd.prog 12 #[ptr (c i), .int .i64 l] W fun e w' => e = .returned (.tuple #[.string (takeS (X i) l), .int .i64 (wrE (X i) l)]) ∧ Two w0 w' n n' m m' c y (updA X i (takeX (X i) l)) Z vx vy ∧ Tame W w' :=
  h.P hi fun k hk => (hk.take l).mono fun e w' ⟨he, ha, hf⟩ => ⟨he, k, ha.a, hf, .inl rfl⟩
theorem Two.rtake (h : Two w0 W n n' m m' c y X Z vx vy) (hi : i < m) (l : Int) : Calls Tryd.prog 26 #[ptr (y i), .int .i64 l] W fun e w' => e = .returned (.tuple #[.string (takeS (Z i) l), .int .i64 (wrE (Z i) l)]) ∧ Two w0 w' n n' m m' c y X (updA Z i (takeX (Z i) l)) vx vy ∧ Tame W w' :=
  h.Q hi fun g r hr => rtake_any W (y i) g r (Z i) hr l
theorem Two.reset (h : Two w0 W n n' m m' c y X Z vx vy) (hi : i < n) : Calls Tryd.prog 27 #[ptr (c i)] W fun e w' => e = .returned (.tuple #[]) ∧ Two w0 w' n n' m m' c y (updA X i (reset (X i))) Z vx vy ∧ Tame W w' :=
  h.P hi fun k hk => (reset_any W (c i) k (X i) hk.a).mono fun e w' ⟨he, k', ha, hf, hk'⟩ => ⟨he, k', ha, hf.mono (by simp), .inr hk'⟩
theorem Two.rreset (h : Two w0 W n n' m m' c y X Z vx vy) (hi : i < m) : Calls Tryd.prog 28 #[ptr (y i)] W fun e w' => e = .returned (.tuple #[]) ∧ Two w0 w' n n' m m' c y X (updA Z i (Go.Proofs.YtkjahokffpihmaaDoor.reset (Z i))) vx vy ∧ Tame W w' :=
  h.Q hi fun g r hr => rreset_any W (y i) g r (Z i) hr
end
end Go.Proofs.YtkjahokffpihmaaDoor
