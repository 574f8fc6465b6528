/- Many pairs of spaces, side by side. -/
import Derived.Test.YtonongaakieciaaQ5
namespace Go.Proofs.Ytonongaakieciaa
open Go.RowKit
set_option linter.unusedVariables false
set_option linter.unusedSimpArgs false
set_option maxRecDepth 100000
/-- Another value at one place. -/
def at1 {α : Type} (f : Nat → α) (n : Nat) (x : α) : Nat → α := fun i => if i = n then x else f i
theorem at1_same {α : Type} (f : Nat → α) (n : Nat) (x : α) : at1 f n x n = x := if_pos rfl
theorem at1_ne {α : Type} {f : Nat → α} {n i : Nat} {x : α} (h : i ≠ n) : at1 f n x i = f i := if_neg h
/-- No table is empty. -/
def Sp1 (x : Sp) : Prop := ∀ (i : Nat) (t : List Pg), x.tb[i]? = some t → 1 ≤ t.length
theorem Sp1.out {x : Sp} (h : Sp1 x) (i a : Int) (s : ByteArray) : Sp1 (outS x i a s) := by
  unfold outS
  split
  · exact h
  · exact h
theorem Sp1.ld {x : Sp} (h : Sp1 x) (i : Int) (s : ByteArray) : Sp1 (ldS x i s) := by
  unfold ldS
  split
  · exact h
  · rename_i hE
    intro j t hj
    have hj' : (x.tb.set i.toNat (ldT (tbOf x i) s (tbOf x i).length))[j]? = some t := hj
    rw [List.getElem?_set] at hj'
    by_cases e : i.toNat = j
    · rw [if_pos e] at hj'
      by_cases e2 : i.toNat < x.tb.length
      · rw [if_pos e2] at hj'
        injection hj' with hj'
        have hp : hasP x i = true := by
          cases hp : hasP x i with
          | true => rfl
          | false =>
            exfalso
            apply hE
            unfold ldE
            rw [if_pos hp]
            decide
        obtain ⟨k, t0, rfl, hk⟩ := hasP_some hp
        rw [← hj', ldT_len, (tbOf_some hk).2]
        exact h k t0 hk
      · rw [if_neg e2] at hj'
        cases hj'
    · rw [if_neg e] at hj'
      exact h j t hj'
theorem Sp1.new {t : List Pg} (hE : ptsE t = 0) : Sp1 (spNew t) := by
  intro i u hi
  unfold ptsE at hE
  split at hE
  · rename_i hh
    have hi' : ((List.range t.length).map (rowN t))[i]? = some u := hi
    have hil := (List.getElem?_eq_some_iff.1 hi').1
    simp at hil
    rw [List.getElem?_map, List.getElem?_range hil] at hi'
    injection hi' with hi'
    rw [← hi', rowN_len]
    obtain ⟨r1, r2, r3⟩ := ptOk_all hh.2 (List.getElem?_eq_getElem hil)
    omega
  · cases hE
/-- N pairs, made since w0, each in blocks of its own. -/
structure DuoS (w0 w : World) (N : Nat) (P Q : Nat → Nat) (Z : Nat → List Nat) (D E : Nat → Sp) : Prop where
  fr : Fr [] w0 w
  pair : ∀ i, i < N → ∃ p F g q G g', Z i = [P i, p, F, g, Q i, q, G, g'] ∧ SpAt w (P i) p F g (D i) ∧ RSp w (Q i) q G g' (E i) ∧ g ≠ g' ∧ Sp1 (D i) ∧ Sp1 (E i)
  old : ∀ i, i < N → ∀ k, k ∈ Z i → w0.heap.size ≤ k
  apart : ∀ i j, i < N → j < N → i ≠ j → ∀ k, k ∈ Z i → k ∉ Z j
/-- The types of a pair's blocks. -/
def TyS (t : TypeId) : Prop := t ≠ 114 ∧ t ≠ 130 ∧ t ≠ 136 ∧ t ≠ 62 ∧ t ≠ 122 ∧ t ≠ 126 ∧ t ≠ 9
theorem pair_not {w : World} {s p F g y q G g' : Nat} {x x' : Sp} (h : SpAt w s p F g x) (h' : RSp w y q G g' x') {t : TypeId} (ht : TyS t) : NoT t w [s, p, F, g, y, q, G, g'] := by
  obtain ⟨t1, t2, t3, t4, t5, t6, t7⟩ := ht
  exact NoT.app (S := [s, p, F, g]) (h.not t1 t2 t3 t4) (h'.not t5 t6 t7 t4)
theorem pair_ne {w : World} {s p F g y q G g' : Nat} {x x' : Sp} (h : SpAt w s p F g x) (h' : RSp w y q G g' x') : (s ≠ y ∧ s ≠ q ∧ s ≠ G ∧ s ≠ g') ∧ (p ≠ y ∧ p ≠ q ∧ p ≠ G ∧ p ≠ g') ∧ (F ≠ y ∧ F ≠ q ∧ F ≠ G ∧ F ≠ g') ∧ (g ≠ y ∧ g ≠ q ∧ g ≠ G) := by
  obtain ⟨⟨c1, h1⟩, ⟨c2, h2⟩, ⟨c3, h3⟩, ⟨c4, h4⟩⟩ := h.blks
  obtain ⟨⟨d1, k1⟩, ⟨d2, k2⟩, ⟨d3, k3⟩, ⟨d4, k4⟩⟩ := h'.blks
  exact ⟨⟨h1.ne_type k1 (by decide), h1.ne_type k2 (by decide), h1.ne_type k3 (by decide), h1.ne_type k4 (by decide)⟩, ⟨h2.ne_type k1 (by decide), h2.ne_type k2 (by decide), h2.ne_type k3 (by decide), h2.ne_type k4 (by decide)⟩, ⟨h3.ne_type k1 (by decide), h3.ne_type k2 (by decide), h3.ne_type k3 (by decide), h3.ne_type k4 (by decide)⟩, ⟨h4.ne_type k1 (by decide), h4.ne_type k2 (by decide), h4.ne_type k3 (by decide)⟩⟩
section
variable {w0 w w' : World} {N : Nat} {P Q : Nat → Nat} {Z : Nat → List Nat} {D E : Nat → Sp}
theorem DuoS.lt (h : DuoS w0 w N P Q Z D E) {i : Nat} (hi : i < N) : ∀ k, k ∈ Z i → k < w.heap.size := by
  obtain ⟨p, F, g, q, G, g', hz, hx, hy, -⟩ := h.pair i hi
  obtain ⟨a1, a2, a3, a4⟩ := hx.lt
  obtain ⟨b1, b2, b3, b4⟩ := hy.lt
  intro k hk
  rw [hz] at hk
  simp at hk
  rcases hk with rfl | rfl | rfl | rfl | rfl | rfl | rfl | rfl <;> assumption
theorem DuoS.not (h : DuoS w0 w N P Q Z D E) {i : Nat} (hi : i < N) {t : TypeId} (ht : TyS t) : NoT t w (Z i) := by
  obtain ⟨p, F, g, q, G, g', hz, hx, hy, -⟩ := h.pair i hi
  rw [hz]
  exact pair_not hx hy ht
/-- Blocks that are not the pairs' turn. -/
theorem DuoS.far (h : DuoS w0 w N P Q Z D E) {S : List Nat} (hf : Fr S w w') (h0 : ∀ k, k ∈ S → w0.heap.size ≤ k) (hS : ∀ i, i < N → ∀ k, k ∈ Z i → k ∉ S) (hn : NoT 61 w S) : DuoS w0 w' N P Q Z D E := by
  refine ⟨h.fr.step hf (fun k hk => .inr (h0 k hk)), fun i hi => ?_, h.old, h.apart⟩
  obtain ⟨p, F, g, q, G, g', e, hx, hy, hne, s1, s2⟩ := h.pair i hi
  have hS' := hS i hi
  rw [e] at hS'
  exact ⟨p, F, g, q, G, g', e, hx.fr hf (hS' _ (by simp)) (hS' _ (by simp)) (hS' _ (by simp)) (hS' _ (by simp)) hn, hy.fr hf (hS' _ (by simp)) (hS' _ (by simp)) (hS' _ (by simp)) (hS' _ (by simp)) hn, hne, s1, s2⟩
theorem DuoS.to (h : DuoS w0 w N P Q Z D E) (hf : Fr [] w w') : DuoS w0 w' N P Q Z D E := h.far hf (fun k hk => by cases hk) (fun i hi k hk => by simp) (NoT.nil _ _)
/-- A row of another type turns. -/
theorem DuoS.row (h : DuoS w0 w N P Q Z D E) {k : Nat} {t : TypeId} {cs : Array Value} (hb : Blk w k t cs) (hk : w0.heap.size ≤ k) (ht : TyS t) (h61 : t ≠ 61) (hf : Fr [k] w w') : DuoS w0 w' N P Q Z D E := by
  refine h.far hf (fun j hj => by simp at hj; subst hj; exact hk) (fun i hi j hj => ?_) (hb.not fun e => h61 e.symm)
  simp
  rintro rfl
  unfold Blk at hb
  exact h.not hi ht _ hj _ _ hb
/-- One pair turns. -/
theorem DuoS.turn (h : DuoS w0 w N P Q Z D E) {n : Nat} (hn : n < N) {x y : Sp} {p F g q G g' : Nat} {S : List Nat} (hz : Z n = [P n, p, F, g, Q n, q, G, g']) (hx : SpAt w' (P n) p F g x) (hy : RSp w' (Q n) q G g' y) (hne : g ≠ g') (s1 : Sp1 x) (s2 : Sp1 y) (hf : Fr S w w') (hS : ∀ k, k ∈ S → k ∈ Z n) : DuoS w0 w' N P Q Z (at1 D n x) (at1 E n y) := by
  refine ⟨h.fr.step hf (fun k hk => .inr (h.old n hn k (hS k hk))), fun i hi => ?_, h.old, h.apart⟩
  by_cases e : i = n
  · subst e
    rw [at1_same, at1_same]
    exact ⟨p, F, g, q, G, g', hz, hx, hy, hne, s1, s2⟩
  · rw [at1_ne e, at1_ne e]
    obtain ⟨p', F', g2, q', G', g3, e', hx', hy', hne', s1', s2'⟩ := h.pair i hi
    have hap := h.apart i n hi hn e
    rw [e'] at hap
    have hno : NoT 61 w S := fun k hk => h.not hn (t := 61) (by unfold TyS; decide) k (hS k hk)
    exact ⟨p', F', g2, q', G', g3, e', hx'.fr hf (fun hk => hap _ (by simp) (hS _ hk)) (fun hk => hap _ (by simp) (hS _ hk)) (fun hk => hap _ (by simp) (hS _ hk)) (fun hk => hap _ (by simp) (hS _ hk)) hno, hy'.fr hf (fun hk => hap _ (by simp) (hS _ hk)) (fun hk => hap _ (by simp) (hS _ hk)) (fun hk => hap _ (by simp) (hS _ hk)) (fun hk => hap _ (by simp) (hS _ hk)) hno, hne', s1', s2'⟩
theorem at1_self {α : Type} (f : Nat → α) (n : Nat) : at1 f n (f n) = f := by
  funext i
  unfold at1
  split
  · rename_i h; rw [h]
  · rfl
/-- The program's space turns. -/
theorem DuoS.turnx (h : DuoS w0 w N P Q Z D E) {n : Nat} (hn : n < N) : ∃ p F g q G g', Z n = [P n, p, F, g, Q n, q, G, g'] ∧ SpAt w (P n) p F g (D n) ∧ RSp w (Q n) q G g' (E n) ∧ Sp1 (D n) ∧ Sp1 (E n) ∧ (∀ w' x, SpT (P n) p F g w x w' → Sp1 x → DuoS w0 w' N P Q Z (at1 D n x) E ∧ Fr (Z n) w w') ∧ ∀ w' y, RSpT (Q n) q G g' w y w' → Sp1 y → DuoS w0 w' N P Q Z D (at1 E n y) ∧ Fr (Z n) w w' := by
  obtain ⟨p, F, g, q, G, g', hz, hx, hy, hne, s1, s2⟩ := h.pair n hn
  obtain ⟨⟨a1, a2, a3, a4⟩, ⟨b1, b2, b3, b4⟩, ⟨c1, c2, c3, c4⟩, ⟨d1, d2, d3⟩⟩ := pair_ne hx hy
  obtain ⟨-, -, ⟨f1, fb⟩, ⟨f2, gb⟩⟩ := hx.blks
  obtain ⟨-, -, ⟨f3, Gb⟩, ⟨f4, gb'⟩⟩ := hy.blks
  refine ⟨p, F, g, q, G, g', hz, hx, hy, s1, s2, fun w' x ht hs => ?_, fun w' y ht hs => ?_⟩
  · obtain ⟨hx', hf⟩ := ht
    have hS : ∀ k, k ∈ [F, g] → k ∈ Z n := fun k hk => by rw [hz]; simp at hk ⊢; rcases hk with rfl | rfl <;> simp
    have hno : NoT 61 w [F, g] := NoT.app (S := [F]) (fb.not (by decide)) (gb.not (by decide))
    have hy' := hy.fr hf (by simp; exact ⟨c1.symm, d1.symm⟩) (by simp; exact ⟨c2.symm, d2.symm⟩) (by simp; exact ⟨c3.symm, d3.symm⟩) (by simp; exact ⟨c4.symm, hne.symm⟩) hno
    have := h.turn hn hz hx' hy' hne hs s2 hf hS
    rw [at1_self] at this
    exact ⟨this, hf.mono fun k hk _ => hS k hk⟩
  · obtain ⟨hy', hf⟩ := ht
    have hS : ∀ k, k ∈ [G, g'] → k ∈ Z n := fun k hk => by rw [hz]; simp at hk ⊢; rcases hk with rfl | rfl <;> simp
    have hno : NoT 61 w [G, g'] := NoT.app (S := [G]) (Gb.not (by decide)) (gb'.not (by decide))
    have hx' := hx.fr hf (by simp; exact ⟨a3, a4⟩) (by simp; exact ⟨b3, b4⟩) (by simp; exact ⟨c3, c4⟩) (by simp; exact ⟨d3, hne⟩) hno
    have := h.turn hn hz hx' hy' hne s1 hs hf hS
    rw [at1_self] at this
    exact ⟨this, hf.mono fun k hk _ => hS k hk⟩
theorem DuoS.load (h : DuoS w0 w N P Q Z D E) {n : Nat} (hn : n < N) (i : Int) (t : ByteArray) : Calls Try.prog 17 #[ptr (P n), .int .i64 i, .string t] w fun e w' => e = .returned (.int .i64 (ldE (D n) i t)) ∧ DuoS w0 w' N P Q Z (at1 D n (ldS (D n) i t)) E ∧ Fr (Z n) w w' := by
  obtain ⟨p, F, g, q, G, g', hz, hx, hy, s1, s2, hX, hY⟩ := h.turnx hn
  exact (SLoad_any (P n) p F g (D n) i t w hx s1).mono fun e w' ⟨he, ht⟩ => ⟨he, hX w' _ ht (s1.ld i t)⟩
theorem DuoS.rload (h : DuoS w0 w N P Q Z D E) {n : Nat} (hn : n < N) (i : Int) (t : ByteArray) : Calls Try.prog 22 #[ptr (Q n), .int .i64 i, .string t] w fun e w' => e = .returned (.int .i64 (ldE (E n) i t)) ∧ DuoS w0 w' N P Q Z D (at1 E n (ldS (E n) i t)) ∧ Fr (Z n) w w' := by
  obtain ⟨p, F, g, q, G, g', hz, hx, hy, s1, s2, hX, hY⟩ := h.turnx hn
  exact (rLoad_sp (Q n) q G g' (E n) i t w hy s2).mono fun e w' ⟨he, ht⟩ => ⟨he, hY w' _ ht (s2.ld i t)⟩
theorem DuoS.put (h : DuoS w0 w N P Q Z D E) {n : Nat} (hn : n < N) (i a : Int) (t : ByteArray) (ha : a ≤ 9223372036854775807) : Calls Try.prog 19 #[ptr (P n), .int .i64 i, .int .i64 a, .string t] w fun e w' => e = .returned (.int .i64 (outE (D n) i a t)) ∧ DuoS w0 w' N P Q Z (at1 D n (outS (D n) i a t)) E ∧ Fr (Z n) w w' := by
  obtain ⟨p, F, g, q, G, g', hz, hx, hy, s1, s2, hX, hY⟩ := h.turnx hn
  exact (Out_any (P n) p F g (D n) i a t w hx ha).mono fun e w' ⟨he, ht⟩ => ⟨he, hX w' _ ht (s1.out i a t)⟩
theorem DuoS.rput (h : DuoS w0 w N P Q Z D E) {n : Nat} (hn : n < N) (i a : Int) (t : ByteArray) (ha : a ≤ 9223372036854775807) : Calls Try.prog 24 #[ptr (Q n), .int .i64 i, .int .i64 a, .string t] w fun e w' => e = .returned (.int .i64 (outE (E n) i a t)) ∧ DuoS w0 w' N P Q Z D (at1 E n (outS (E n) i a t)) ∧ Fr (Z n) w w' := by
  obtain ⟨p, F, g, q, G, g', hz, hx, hy, s1, s2, hX, hY⟩ := h.turnx hn
  exact (rOut_any (Q n) q G g' (E n) i a t w hy ha).mono fun e w' ⟨he, ht⟩ => ⟨he, hY w' _ ht (s2.out i a t)⟩
theorem DuoS.get (h : DuoS w0 w N P Q Z D E) {n : Nat} (hn : n < N) (i a b : Int) (ha : a ≤ 9223372036854775807) : Calls Try.prog 20 #[ptr (P n), .int .i64 i, .int .i64 a, .int .i64 b] w fun e w' => e = .returned (.tuple #[.string (inV (D n) i a b), .int .i64 (inE (D n) i a b)]) ∧ Fr [] w w' := by
  obtain ⟨p, F, g, q, G, g', hz, hx, hy, s1, s2, hX, hY⟩ := h.turnx hn
  exact In_any (P n) p F g (D n) i a b w hx ha
theorem DuoS.rget (h : DuoS w0 w N P Q Z D E) {n : Nat} (hn : n < N) (i a b : Int) (ha : a ≤ 9223372036854775807) : Calls Try.prog 23 #[ptr (Q n), .int .i64 i, .int .i64 a, .int .i64 b] w fun e w' => e = .returned (.tuple #[.string (inV (E n) i a b), .int .i64 (inE (E n) i a b)]) ∧ Fr [] w w' := by
  obtain ⟨p, F, g, q, G, g', hz, hx, hy, s1, s2, hX, hY⟩ := h.turnx hn
  exact rIn_any (Q n) q G g' (E n) i a b w hy ha
theorem DuoS.same (h : DuoS w0 w N P Q Z D D) {n : Nat} (hn : n < N) : Calls Try.prog 27 #[ptr (P n), ptr (Q n)] w fun e w' => e = .returned (.bool true) ∧ Fr [] w w' := by
  obtain ⟨p, F, g, q, G, g', hz, hx, hy, s1, s2, hX, hY⟩ := h.turnx hn
  exact same_any (P n) p F g (Q n) q G g' (D n) w hx hy s1 hy.mem.hd.n2
theorem DuoS.copy (h : DuoS w0 w N P Q Z D E) {n : Nat} (hn : n < N) : Calls Try.prog 25 #[ptr (P n)] w (SpNew w (D n)) := by
  obtain ⟨p, F, g, q, G, g', hz, hx, hy, s1, s2, hX, hY⟩ := h.turnx hn
  exact SClone_any (P n) p F g (D n) w hx
theorem DuoS.rcopy (h : DuoS w0 w N P Q Z D E) {n : Nat} (hn : n < N) : Calls Try.prog 26 #[ptr (Q n)] w (RSpNew w (E n)) := by
  obtain ⟨p, F, g, q, G, g', hz, hx, hy, s1, s2, hX, hY⟩ := h.turnx hn
  exact rSCopy_any (Q n) q G g' (E n) w hy
/-- One pair more. -/
theorem DuoS.push {B s p F g y q G g' : Nat} {d : Sp} (h : DuoS w0 w N P Q Z D D) (hlt : ∀ i, i < N → ∀ k, k ∈ Z i → k < B) (hB : w0.heap.size ≤ B) (hx : SpAt w s p F g d) (hy : RSp w y q G g' d) (hne : g ≠ g') (s1 : Sp1 d) (hall : ∀ k, k ∈ [s, p, F, g, y, q, G, g'] → B ≤ k) : DuoS w0 w (N + 1) (at1 P N s) (at1 Q N y) (at1 Z N [s, p, F, g, y, q, G, g']) (at1 D N d) (at1 D N d) := by
  refine ⟨h.fr, fun i hi => ?_, fun i hi k hk => ?_, fun i j hi hj hij k hk => ?_⟩
  · by_cases e : i = N
    · subst e
      simp only [at1_same]
      exact ⟨p, F, g, q, G, g', rfl, hx, hy, hne, s1, s1⟩
    · simp only [at1_ne e]
      exact h.pair i (by omega)
  · by_cases e : i = N
    · subst e
      rw [at1_same] at hk
      have := hall k hk
      omega
    · rw [at1_ne e] at hk
      exact h.old i (by omega) k hk
  · by_cases e : i = N
    · subst e
      rw [at1_same] at hk
      rw [at1_ne (fun e => hij e.symm)]
      intro hk2
      have := hlt j (by omega) k hk2
      have := hall k hk
      omega
    · rw [at1_ne e] at hk
      by_cases e2 : j = N
      · subst e2
        rw [at1_same]
        intro hk2
        have := hlt i (by omega) k hk
        have := hall k hk2
        omega
      · rw [at1_ne e2]
        exact h.apart i j (by omega) (by omega) hij k hk
theorem DuoS.none (w : World) (P Q : Nat → Nat) (Z : Nat → List Nat) (D : Nat → Sp) : DuoS w w 0 P Q Z D D := ⟨Fr.refl _ _, fun i hi => by omega, fun i hi => by omega, fun i j hi => by omega⟩
end
end Go.Proofs.Ytonongaakieciaa
