/- Many sides. A side looked at; a side more. -/
import Derived.Test.YthmnloapjdalpaaV8
import Derived.Test.YthmnloapjdalpaaL13
namespace Go.Proofs.Ythmnloapjdalpaa
open Go.RowKit
set_option linter.unusedVariables false
set_option linter.unusedSimpArgs false
theorem place15_big (x : Int) (m : Nat) (hm : 0 < m) (hm2 : m ≤ 9223372036854775807) (hx0 : -9223372036854775808 ≤ x) (hx1 : x ≤ 9223372036854775807) (w : World) :
    Calls Try.prog 21 #[.int .i64 x, .int .i64 (m : Int)] w fun e w' => e = .returned (.int .i64 (x % (m : Int))) ∧ w = w' := by
  have hm0 : ¬ (m : Int) = 0 := by omega
  have hb := Int.emod_nonneg x hm0
  have hb2 := Int.emod_lt_of_pos x (show (0 : Int) < m by omega)
  have ht : x.tmod m = if 0 ≤ x ∨ (m : Int) ∣ x then x % m else x % m - m := by
    rw [Int.tmod_eq_emod]
    by_cases h : 0 ≤ x ∨ (m : Int) ∣ x
    · rw [if_pos h, if_pos h]; omega
    · rw [if_neg h, if_neg h]
      simp
  obtain ⟨r, hr⟩ : ∃ r, x % (m : Int) = r := ⟨_, rfl⟩
  rw [hr] at hb hb2 ht ⊢
  by_cases h : 0 ≤ x ∨ (m : Int) ∣ x
  · rw [if_pos h] at ht
    have hn : ¬ r < 0 := by omega
    clear h hr
    go_enter Try.func21, Try.ntmps21
    go_wp2
    go_ret
    exact ⟨rfl, rfl⟩
  · rw [if_neg h] at ht
    have hnz : r ≠ 0 := by
      intro e
      apply h
      right
      exact Int.dvd_of_emod_eq_zero (by rw [hr, e])
    have hn : r - (m : Int) < 0 := by omega
    have hw : IntKind.i64.wrap (r - (m : Int) + (m : Int)) = r := by
      rw [show r - (m : Int) + (m : Int) = r from by omega]
      exact IntWalk.i64_in _ (by omega)
    clear h hr
    go_enter Try.func21, Try.ntmps21
    go_wp2
    go_ret
    exact ⟨rfl, rfl⟩
theorem Try.info67 : (Try.prog.info? 67).map (fun i => (i.zero, i.size, i.bytes)) = some (some (.pointer none), 1, 8) := by kernel_rfl
/-- A side, and its blocks. -/
def SideAt (w : World) (s p q : Nat) (b : Bv) (d : Dk) (Z : List Nat) : Prop := ∃ v y g m, Z = [s, v, p, g, m, y, q] ∧ DiskAt w p g m d ∧ RD w q d ∧ DevAt w v p b ∧ RvAt w y q b ∧ Blk w s 69 #[ptr v, ptr p, ptr y, ptr q] ∧ b.first + b.count ≤ d.n
section
variable {w0 w w' : World} {s p q : Nat} {b : Bv} {d : Dk} {Z : List Nat}
theorem SideAt.fr {S : List Nat} (h : SideAt w s p q b d Z) (hf : Fr S w w') (hS : ∀ k, k ∈ Z → k ∉ S) (ho : NoO w S) (hz : NoZ w S) (hk : NoK w S) : SideAt w' s p q b d Z := by
  obtain ⟨v, y, g, m, rfl, ha, hr, hv, hy, hs, hi⟩ := h
  exact ⟨v, y, g, m, rfl, ha.fr hf hz (hS _ (by simp)) (hS _ (by simp)) (hS _ (by simp)), hr.fr hf (hS _ (by simp)) ho hz, hv.fr hf hk (hS _ (by simp)), hy.fr hf (hS _ (by simp)) hz, hs.fr hf (hS _ (by simp)), hi⟩
theorem SideAt.to (h : SideAt w s p q b d Z) (hf : Fr [] w w') : SideAt w' s p q b d Z := h.fr hf (by simp) (NoO.nil _) (NoZ.nil _) (NoK.nil _)
theorem SideAt.lt (h : SideAt w s p q b d Z) : ∀ k, k ∈ Z → k < w.heap.size := by
  obtain ⟨v, y, g, m, rfl, ha, hr, hv, hy, hs, hi⟩ := h
  intro k hk
  simp at hk
  rcases hk with rfl | rfl | rfl | rfl | rfl | rfl | rfl
  · exact hs.lt
  · exact hv.lt
  · exact ha.ltp
  · exact ha.ltg
  · exact ha.ltm
  · exact hy.lt
  · exact hr.lt
theorem SideAt.not (h : SideAt w s p q b d Z) {t : TypeId} (t1 : t ≠ 69) (t2 : t ≠ 113) (t3 : t ≠ 110) (t4 : t ≠ 5) (t5 : t ≠ 77) (t6 : t ≠ 127) : NoT t w Z := by
  obtain ⟨v, y, g, m, rfl, ha, hr, hv, hy, hs, hi⟩ := h
  obtain ⟨c1, hdb⟩ := hv.blk
  obtain ⟨c2, hyb⟩ := hy.blk
  obtain ⟨c3, hqb⟩ := hr.blk
  exact NoT.app (S := [s]) (hs.not t1) (NoT.app (S := [v]) (hdb.not t2) (NoT.app (S := [p, g, m]) (ha.not t3 t4) (NoT.app (S := [y]) (hyb.not t5) (hqb.not t6))))
theorem SideAt.sq (h : SideAt w s p q b d Z) : ∃ v y, Sq Z w w s v p y q b b d d := by
  obtain ⟨v, y, g, m, rfl, ha, hr, hv, hy, hs, hi⟩ := h
  exact ⟨v, y, ⟨⟨⟨Fr.refl _ _, g, m, ha, .inl (by simp), .inl (by simp), .inl (by simp)⟩, hr, .inl (by simp)⟩, hv, .inl (by simp), hi, hy, .inl (by simp), hi, hs, .inl (by simp)⟩⟩
theorem SideAt.qz (h : SideAt w s p q b d Z) : q ∈ Z := by
  obtain ⟨v, y, g, m, rfl, -⟩ := h
  simp
/-- A side of which all blocks are in z, or new. -/
theorem Sq.side {z : List Nat} {v y : Nat} (h : Sq z w0 w s v p y q b b d d) (hs : w0.heap.size ≤ w.heap.size) : ∃ Z', SideAt w s p q b d Z' ∧ ∀ k, k ∈ Z' → k ∈ z ∨ w0.heap.size ≤ k := by
  obtain ⟨⟨⟨f, g, m, ha, h1, h2, h3⟩, hr, q0⟩, hv, v0, hi, hy, y0, -, sd, s0⟩ := h
  refine ⟨_, ⟨v, y, g, m, rfl, ha, hr, hv, hy, sd, hi⟩, fun k hk => ?_⟩
  simp at hk
  rcases hk with rfl | rfl | rfl | rfl | rfl | rfl | rfl <;> assumption
end
/-- What a side says. -/
structure Says where
  s : Nat
  p : Nat
  q : Nat
  b : Bv
  d : Dk
  z : List Nat
abbrev Says.at_ (x : Says) (w : World) : Prop := SideAt w x.s x.p x.q x.b x.d x.z
/-- N sides, made since w0, each in blocks of its own; of n sectors each, with at most M misses. -/
structure Sides (w0 w : World) (N n M : Nat) (X : Nat → Says) : Prop where
  fr : Fr [] w0 w
  side : ∀ i, i < N → (X i).at_ w
  old : ∀ i, i < N → ∀ k, k ∈ (X i).z → w0.heap.size ≤ k
  apart : ∀ i j, i < N → j < N → i ≠ j → ∀ k, k ∈ (X i).z → k ∉ (X j).z
  co : ∀ i, i < N → CohD (X i).b (X i).d
  nn : ∀ i, i < N → (X i).d.n = n
  mm : ∀ i, i < N → (X i).b.misses ≤ M
section
variable {w0 w w' : World} {N n M : Nat} {X : Nat → Says}
theorem Sides.more (h : Sides w0 w N n M X) {M' : Nat} (hM : M ≤ M') : Sides w0 w N n M' X := ⟨h.fr, h.side, h.old, h.apart, h.co, h.nn, fun i hi => Nat.le_trans (h.mm i hi) hM⟩
theorem Sides.far (h : Sides w0 w N n M X) {S : List Nat} (hf : Fr S w w') (h0 : ∀ k, k ∈ S → w0.heap.size ≤ k) (hS : ∀ i, i < N → ∀ k, k ∈ (X i).z → k ∉ S) (ho : NoO w S) (hz : NoZ w S) (hk : NoK w S) : Sides w0 w' N n M X :=
  ⟨h.fr.step hf (fun k hk => .inr (h0 k hk)), fun i hi => (h.side i hi).fr hf (hS i hi) ho hz hk, h.old, h.apart, h.co, h.nn, h.mm⟩
theorem Sides.to (h : Sides w0 w N n M X) (hf : Fr [] w w') : Sides w0 w' N n M X := h.far hf (fun k hk => by cases hk) (fun i hi k hk => by simp) (NoO.nil _) (NoZ.nil _) (NoK.nil _)
/-- The row of sides turns. -/
theorem Sides.row (h : Sides w0 w N n M X) {k : Nat} {cs : Array Value} (hb : Blk w k 67 cs) (hk : w0.heap.size ≤ k) (hf : Fr [k] w w') : Sides w0 w' N n M X := by
  refine h.far hf (fun j hj => by simp at hj; subst hj; exact hk) (fun i hi j hj => ?_) (hb.noO (by decide)) (hb.noZ (by decide)) (hb.noK (by decide))
  simp
  rintro rfl
  unfold Blk at hb
  exact (h.side i hi).not (by decide) (by decide) (by decide) (by decide) (by decide) (by decide) _ hj _ _ hb
/-- One side turns. -/
theorem Sides.turn (h : Sides w0 w N n M X) {j : Nat} (hj : j < N) {b : Bv} {d : Dk} {v y : Nat} (hq : Sq (X j).z w w' (X j).s v (X j).p y (X j).q b b d d) (hc : CohD b d) (hn : d.n = (X j).d.n) (hm : b.misses ≤ (X j).b.misses + 1) : ∃ X', Sides w0 w' N n (M + 1) X' ∧ (∀ i, (X' i).s = (X i).s) ∧ Fr (X j).z w w' := by
  have f := hq.fr
  have hs := f.size
  have hs0 := h.fr.size
  obtain ⟨Z', hS, hall⟩ := hq.side hs
  refine ⟨at1 X j ⟨(X j).s, (X j).p, (X j).q, b, d, Z'⟩, ⟨h.fr.step f (fun k hk => .inr (h.old j hj k hk)), fun i hi => ?_, fun i hi k hk => ?_, fun i i' hi hi' hii k hk => ?_, fun i hi => ?_, fun i hi => ?_, fun i hi => ?_⟩, fun i => ?_, f⟩
  · by_cases e : i = j
    · subst e
      rw [at1_same]
      exact hS
    · rw [at1_ne e]
      have hno := fun t (t1 : t ≠ 69) (t2 : t ≠ 113) (t3 : t ≠ 110) (t4 : t ≠ 5) (t5 : t ≠ 77) (t6 : t ≠ 127) => (h.side j hj).not t1 t2 t3 t4 t5 t6
      exact (h.side i hi).fr f (h.apart i j hi hj e) (hno 129 (by decide) (by decide) (by decide) (by decide) (by decide) (by decide)) (hno 3 (by decide) (by decide) (by decide) (by decide) (by decide) (by decide)) (hno 117 (by decide) (by decide) (by decide) (by decide) (by decide) (by decide))
  · by_cases e : i = j
    · subst e
      rw [at1_same] at hk
      rcases hall k hk with hk | hk
      · exact h.old i hj k hk
      · omega
    · rw [at1_ne e] at hk
      exact h.old i hi k hk
  · by_cases e : i = j
    · subst e
      rw [at1_same] at hk
      rw [at1_ne (fun e => hii e.symm)]
      rcases hall k hk with hk | hk
      · exact h.apart i i' hj hi' hii k hk
      · intro hk2
        have := (h.side i' hi').lt k hk2
        omega
    · rw [at1_ne e] at hk
      by_cases e2 : i' = j
      · subst e2
        rw [at1_same]
        intro hk2
        rcases hall k hk2 with hk2 | hk2
        · exact h.apart i i' hi hj hii k hk hk2
        · have := (h.side i hi).lt k hk
          omega
      · rw [at1_ne e2]
        exact h.apart i i' hi hi' hii k hk
  · by_cases e : i = j
    · subst e; rw [at1_same]; exact hc
    · rw [at1_ne e]; exact h.co i hi
  · by_cases e : i = j
    · subst e; rw [at1_same]; exact hn.trans (h.nn i hi)
    · rw [at1_ne e]; exact h.nn i hi
  · by_cases e : i = j
    · subst e; rw [at1_same]; have := h.mm i hi; show b.misses ≤ M + 1; omega
    · rw [at1_ne e]; have := h.mm i hi; omega
  · by_cases e : i = j
    · subst e; rw [at1_same]
    · rw [at1_ne e]
/-- One side more. -/
theorem Sides.push (h : Sides w0 w N n M X) {B : Nat} (hlt : ∀ i, i < N → ∀ k, k ∈ (X i).z → k < B) (hB : w0.heap.size ≤ B) {x : Says} (hx : x.at_ w) (hall : ∀ k, k ∈ x.z → B ≤ k) (hc : CohD x.b x.d) (hn : x.d.n = n) (hm : x.b.misses ≤ M) : Sides w0 w (N + 1) n M (at1 X N x) := by
  refine ⟨h.fr, fun i hi => ?_, fun i hi k hk => ?_, fun i j hi hj hij k hk => ?_, fun i hi => ?_, fun i hi => ?_, fun i hi => ?_⟩
  · by_cases e : i = N
    · subst e; rw [at1_same]; exact hx
    · rw [at1_ne e]; exact h.side i (by omega)
  · by_cases e : i = N
    · subst e; rw [at1_same] at hk; have := hall k hk; omega
    · rw [at1_ne e] at hk; exact h.old i (by omega) k hk
  · by_cases e : i = N
    · subst e
      rw [at1_same] at hk
      rw [at1_ne (fun e => hij e.symm)]
      intro hk2
      have := hlt j (by omega) k hk2
      have := hall k hk
      omega
    · rw [at1_ne e] at hk
      by_cases e2 : j = N
      · subst e2
        rw [at1_same]
        intro hk2
        have := hlt i (by omega) k hk
        have := hall k hk2
        omega
      · rw [at1_ne e2]
        exact h.apart i j (by omega) (by omega) hij k hk
  · by_cases e : i = N
    · subst e; rw [at1_same]; exact hc
    · rw [at1_ne e]; exact h.co i (by omega)
  · by_cases e : i = N
    · subst e; rw [at1_same]; exact hn
    · rw [at1_ne e]; exact h.nn i (by omega)
  · by_cases e : i = N
    · subst e; rw [at1_same]; exact hm
    · rw [at1_ne e]; exact h.mm i (by omega)
theorem Sides.none (w : World) (n M : Nat) (X : Nat → Says) : Sides w w 0 n M X := ⟨Fr.refl _ _, fun i hi => by omega, fun i hi => by omega, fun i j hi => by omega, fun i hi => by omega, fun i hi => by omega, fun i hi => by omega⟩
end
/-- The row, the sides, and the extent's numbers in block e. -/
structure SdI (w wr : World) (N n M : Nat) (X : Nat → Says) (gl cl e : Nat) (f c k : Int) : Prop where
  sd : Sides w wr N n M X
  n1 : 1 ≤ N
  ls : wr.ownsRow w.heap.size 67 1 (.slice (some ⟨gl, 0, none⟩) N cl) N (ptrs (fun i => (X i).s) N)
  e : Blk wr e 34 #[.int .i64 f, .int .i64 c, .int .i64 k]
section
variable {w wr w' : World} {N n M : Nat} {X : Nat → Says} {gl cl e : Nat} {f c k : Int}
theorem SdI.to (h : SdI w wr N n M X gl cl e f c k) (hf : Fr [] wr w') : SdI w w' N n M X gl cl e f c k := ⟨h.sd.to hf, h.n1, own_fr h.ls hf (by simp), h.e.fr hf (by simp)⟩
theorem SdI.fr (h : SdI w wr N n M X gl cl e f c k) : Fr [] w wr := h.sd.fr
theorem SdI.cells (h : SdI w wr N n M X gl cl e f c k) {j : Nat} (hj : j < N) : wr.cell? ⟨gl, j, none⟩ = some (ptr (X j).s) ∧ wr.cell? ⟨e, 0, none⟩ = some (.int .i64 f) ∧ wr.cell? ⟨e, 1, none⟩ = some (.int .i64 c) ∧ wr.cell? ⟨e, 2, none⟩ = some (.int .i64 k) := ⟨own_ptr h.ls hj, h.e.cell 0, h.e.cell 1, h.e.cell 2⟩
theorem SdI.turn (h : SdI w wr N n M X gl cl e f c k) {j : Nat} (hj : j < N) (hq : DoesQ (X j).z wr (X j).s (X j).p (X j).q (X j).b (X j).d (.returned (.bool true)) w') : ∃ X', SdI w w' N n (M + 1) X' gl cl e f c k ∧ (∀ i, (X' i).s = (X i).s) ∧ Fr (X j).z wr w' := by
  obtain ⟨-, v', y', b1, d1, h1, h2, h3, h4⟩ := hq
  obtain ⟨X', hS, hs, hf⟩ := h.sd.turn hj h1 h2 h4 h3
  have hno := fun t (t1 : t ≠ 69) (t2 : t ≠ 113) (t3 : t ≠ 110) (t4 : t ≠ 5) (t5 : t ≠ 77) (t6 : t ≠ 127) => (h.sd.side j hj).not t1 t2 t3 t4 t5 t6
  refine ⟨X', ⟨hS, h.n1, ?_, ?_⟩, hs, hf⟩
  · have : (fun i => (X' i).s) = fun i => (X i).s := funext hs
    rw [this]
    exact own_fr h.ls hf (fun i hi cs hb => by unfold Blk at hb; exact hno 67 (by decide) (by decide) (by decide) (by decide) (by decide) (by decide) i hi _ _ hb)
  · have he := h.e
    refine h.e.fr hf (fun hi => ?_)
    unfold Blk at he
    exact hno 34 (by decide) (by decide) (by decide) (by decide) (by decide) (by decide) _ hi _ _ he
/-- What a call on the j-th side is given. -/
theorem SdI.sideA (h : SdI w wr N n M X gl cl e f c k) {j : Nat} (hj : j < N) {x : OpB} {cA : Option Addr} {clc cc : Nat} (hF : x.Fine) (hc : Zw w (.slice cA clc cc) x.ch) (h8 : clc * 8 ≤ 140737488355328) (hM : M < 9223372036854775807) {d0 : Dk} (hd0 : d0.n = n) (hE : newBE d0 f c k = 0) : ∃ v y, SideA (X j).z wr (X j).s v (X j).p y (X j).q (X j).b (X j).d x cA clc cc f c k := by
  obtain ⟨v, y, hq⟩ := (h.sd.side j hj).sq
  refine ⟨v, y, hq, h.sd.co j hj, (h.sd.side j hj).lt, (h.sd.side j hj).qz, hF, hc.fr h.fr (NoZ.nil _), fun i z hi g o hA hg => ?_, h8, by have := h.sd.mm j hj; omega, by rw [newBE_same (d := d0) ((h.sd.nn j hj).trans hd0.symm)]; exact hE⟩
  have := h.sd.old j hj g hg
  obtain ⟨q', o', e2, hq', -⟩ := hc.cell hi
  rw [e2] at hA
  injection hA with hA
  injection hA with hA _ _
  omega
end
end Go.Proofs.Ythmnloapjdalpaa
namespace Go.Proofs.Ythmnloapjdalpaa
open Go.RowKit
set_option linter.unusedVariables false
set_option linter.unusedSimpArgs false
/-- What is seen of a side. -/
structure LookC (w : World) (s v p y q ms ct : Nat) (IM SF : ByteArray) : Prop where
  c : ∀ W, Fr [] w W → W.cell? ⟨s, 0, none⟩ = some (ptr v) ∧ W.cell? ⟨s, 1, none⟩ = some (ptr p) ∧ W.cell? ⟨s, 2, none⟩ = some (ptr y) ∧ W.cell? ⟨s, 3, none⟩ = some (ptr q) ∧ W.cell? ⟨y, 2, none⟩ = some (.int .i64 ct) ∧ W.cell? ⟨y, 5, none⟩ = some (.int .i64 ms)
  m : ∀ W, Fr [] w W → Calls Try.prog 27 #[ptr v] W fun e w' => e = .returned (.int .i64 ms) ∧ Fr [] w w'
  n : ∀ W, Fr [] w W → Calls Try.prog 42 #[ptr v] W fun e w' => e = .returned (.int .i64 ct) ∧ Fr [] w w'
  i : ∀ W, Fr [] w W → Calls Try.prog 28 #[ptr p] W fun e w' => e = .returned (.string IM) ∧ Fr [] w w'
  ri : ∀ W, Fr [] w W → Calls Try.prog 43 #[ptr q] W fun e w' => e = .returned (.string IM) ∧ Fr [] w w'
  f : ∀ W, Fr [] w W → Calls Try.prog 31 #[ptr p] W fun e w' => e = .returned (.string SF) ∧ Fr [] w w'
  rf : ∀ W, Fr [] w W → Calls Try.prog 44 #[ptr q] W fun e w' => e = .returned (.string SF) ∧ Fr [] w w'
theorem SideAt.look {w : World} {s p q : Nat} {b : Bv} {d : Dk} {Z : List Nat} (h : SideAt w s p q b d Z) : ∃ v y IM SF, LookC w s v p y q b.misses b.count IM SF := by
  obtain ⟨v, y, g, m, rfl, ha, hr, hv, hy, hs, hi⟩ := h
  obtain ⟨A, cap, hyb, -⟩ := hy.form
  refine ⟨v, y, d.image, d.safe, ⟨fun W hf => ?_, fun W hf => ?_, fun W hf => ?_, fun W hf => ?_, fun W hf => ?_, fun W hf => ?_, fun W hf => ?_⟩⟩
  · exact ⟨hf.cell_some (hs.cell 0) (by simp), hf.cell_some (hs.cell 1) (by simp), hf.cell_some (hs.cell 2) (by simp), hf.cell_some (hs.cell 3) (by simp), hf.cell_some (hyb.cell 2) (by simp), hf.cell_some (hyb.cell 5) (by simp)⟩
  · exact (Misses_any v p b W (hv.to hf)).mono fun e w' ⟨he, hw⟩ => ⟨he, hw ▸ hf⟩
  · exact (Count15_any v p b W (hv.to hf)).mono fun e w' ⟨he, hw⟩ => ⟨he, hw ▸ hf⟩
  · exact (Image_any p g m d W (ha.to hf)).mono fun e w' ⟨he, h2⟩ => ⟨he, hf.trans h2⟩
  · exact (rImage_any q d W (hr.to hf)).mono fun e w' ⟨he, h2⟩ => ⟨he, hf.trans h2⟩
  · exact (Safe_any p g m d W (ha.to hf)).mono fun e w' ⟨he, hw⟩ => ⟨he, hw ▸ hf⟩
  · exact (rSafe_any q d W (hr.to hf)).mono fun e w' ⟨he, h2⟩ => ⟨he, hf.trans h2⟩
/-- How a side is cloned. -/
structure CloneC (w : World) (s v p y q : Nat) (b : Bv) (d : Dk) : Prop where
  c : ∀ W, Fr [] w W → W.cell? ⟨s, 0, none⟩ = some (ptr v) ∧ W.cell? ⟨s, 1, none⟩ = some (ptr p) ∧ W.cell? ⟨s, 2, none⟩ = some (ptr y) ∧ W.cell? ⟨s, 3, none⟩ = some (ptr q)
  p : ∀ W, Fr [] w W → Calls Try.prog 37 #[ptr p] W (CloneP W d)
  q : ∀ W, Fr [] w W → Calls Try.prog 38 #[ptr q] W fun e w' => ∃ r, e = .returned (ptr r) ∧ RD w' r d ∧ W.heap.size ≤ r ∧ Fr [] W w'
  v : ∀ W r, Fr [] w W → Calls Try.prog 39 #[ptr v, ptr r] W fun e w' => ∃ v', e = .returned (ptr v') ∧ DevAt w' v' r b ∧ Fr [] W w' ∧ W.heap.size ≤ v'
  y : ∀ W r, Fr [] w W → Calls Try.prog 40 #[ptr y, ptr r] W fun e w' => ∃ y', e = .returned (ptr y') ∧ RvAt w' y' r b ∧ Fr [] W w' ∧ W.heap.size ≤ y'
theorem SideAt.clone {w : World} {s p q : Nat} {b : Bv} {d : Dk} {Z : List Nat} (h : SideAt w s p q b d Z) : (∃ v y, CloneC w s v p y q b d) ∧ b.first + b.count ≤ d.n := by
  obtain ⟨v, y, g, m, rfl, ha, hr, hv, hy, hs, hi⟩ := h
  refine ⟨⟨v, y, ⟨fun W hf => ?_, fun W hf => ?_, fun W hf => ?_, fun W r hf => ?_, fun W r hf => ?_⟩⟩, hi⟩
  · exact ⟨hf.cell_some (hs.cell 0) (by simp), hf.cell_some (hs.cell 1) (by simp), hf.cell_some (hs.cell 2) (by simp), hf.cell_some (hs.cell 3) (by simp)⟩
  · exact Clone_any p g m d W (ha.to hf)
  · exact rCopy_any q d W (hr.to hf)
  · exact Clone15_any v p r b W (hv.to hf)
  · exact rCopyB_any y q r b W (hy.to hf)
/-- A side just made. -/
theorem side_new {w w5 W : World} {v p g m y q : Nat} {b : Bv} {d : Dk} (hf5 : Fr [] w w5) (ha : DiskAt w5 p g m d) (hr : RD w5 q d) (hv : DevAt w5 v p b) (hy : RvAt w5 y q b) (hi : b.first + b.count ≤ d.n) (h1 : w.heap.size ≤ p) (h2 : w.heap.size ≤ g) (h3 : w.heap.size ≤ m) (h4 : w.heap.size ≤ q) (h5 : w.heap.size ≤ v) (h6 : w.heap.size ≤ y) (hW : Fr [] (w5.alloc (.cells #[ptr v, ptr p, ptr y, ptr q] 69)) W) :
    SideAt W w5.heap.size p q b d [w5.heap.size, v, p, g, m, y, q] ∧ ∀ k, k ∈ [w5.heap.size, v, p, g, m, y, q] → w.heap.size ≤ k := by
  have hs := hf5.size
  have hf : Fr [] w5 W := ((Fr.refl [] w5).alloc _).trans hW
  refine ⟨⟨v, y, g, m, rfl, ha.to hf, hr.to hf, hv.to hf, hy.to hf, (Blk.new w5 69 _).fr hW (by simp), hi⟩, fun k hk => ?_⟩
  simp at hk
  rcases hk with rfl | rfl | rfl | rfl | rfl | rfl | rfl <;> assumption
theorem ptrs_says (X : Nat → Says) (N : Nat) (x : Says) : ptrs (fun i => (at1 X N x i).s) (N + 1) = ptrs (fun i => (X i).s) N ++ [ptr x.s] := by
  have : (fun i => (at1 X N x i).s) = at1 (fun i => (X i).s) N x.s := by
    funext i
    by_cases e : i = N
    · subst e; rw [at1_same, at1_same]
    · rw [at1_ne e, at1_ne e]
  rw [this, ptrs_push]
theorem SdI.push {w W W7 w8 : World} {N n M : Nat} {X : Nat → Says} {gl cl e : Nat} {f c k : Int} (h : SdI w W N n M X gl cl e f c k) (hf : Fr [] W W7) {x : Says} (hx : x.at_ W7) (hall : ∀ j, j ∈ x.z → W.heap.size ≤ j) (hc : CohD x.b x.d) (hn : x.d.n = n) (hm : x.b.misses ≤ M) {v8 : Value} (ho : w8.ownsRow w.heap.size 67 1 v8 (N + 1) (ptrs (fun i => (X i).s) N ++ [ptr x.s])) (hg : W7.grownBy w8 (Value.ownBlock (.slice (some ⟨gl, 0, none⟩) N cl))) :
    ∃ gl' cl', v8 = .slice (some ⟨gl', 0, none⟩) (N + 1) cl' ∧ SdI w w8 (N + 1) n M (at1 X N x) gl' cl' e f c k ∧ ∀ j t cs, Blk W7 j t cs → t ≠ 67 → Blk w8 j t cs := by
  have h7 := h.to hf
  obtain ⟨hf8, hgl, cs0, hb0⟩ := grown_row h7.ls hg
  obtain ⟨gl', cl', rfl⟩ := own_succ ho
  have hx8 : x.at_ w8 := hx.fr hf8 (fun j hj => by
    simp
    rintro rfl
    unfold Blk at hb0
    exact hx.not (by decide) (by decide) (by decide) (by decide) (by decide) (by decide) _ hj _ _ hb0) (hb0.noO (by decide)) (hb0.noZ (by decide)) (hb0.noK (by decide))
  have hkeep : ∀ j t cs, Blk W7 j t cs → t ≠ 67 → Blk w8 j t cs := fun j t cs hb ht => hb.fr hf8 (by
    simp
    rintro rfl
    exact ht (hb0.eq hb).1.symm)
  exact ⟨gl', cl', rfl, ⟨(h7.sd.row hb0 hgl hf8).push (fun i hi => (h.sd.side i hi).lt) h.fr.size hx8 hall hc hn hm, by omega, by rw [ptrs_says]; exact ho, hkeep _ _ _ h7.e (by decide)⟩, hkeep⟩
/-- The first side. -/
theorem SdI.first {w w5 W0 : World} {v p g m y q : Nat} {b : Bv} {d : Dk} {f c k : Int} (hW0 : w.alloc (.cells #[.int .i64 f, .int .i64 c, .int .i64 k] 34) = W0) (hf5 : Fr [] W0 w5) (ha : DiskAt w5 p g m d) (hr : RD w5 q d) (hv : DevAt w5 v p b) (hy : RvAt w5 y q b) (hi : b.first + b.count ≤ d.n) (h1 : W0.heap.size ≤ p) (h2 : W0.heap.size ≤ g) (h3 : W0.heap.size ≤ m) (h4 : W0.heap.size ≤ q) (h5 : W0.heap.size ≤ v) (h6 : W0.heap.size ≤ y) (hc : b.cache = []) (hm : b.misses = 0) :
    SdI w ((w5.alloc (.cells #[ptr v, ptr p, ptr y, ptr q] 69)).alloc (.cells #[ptr w5.heap.size] 67)) 1 d.n 0 (at1 (fun _ => ⟨0, 0, 0, b, d, []⟩) 0 ⟨w5.heap.size, p, q, b, d, [w5.heap.size, v, p, g, m, y, q]⟩) (w5.heap.size + 1) 1 w.heap.size f c k := by
  have hs0 : w.heap.size + 1 = W0.heap.size := by rw [← hW0, World.size_alloc]
  have hf0 : Fr [] w W0 := by rw [← hW0]; exact (Fr.refl [] w).alloc _
  have hs5 := hf5.size
  obtain ⟨hS, hall⟩ := side_new (W := (w5.alloc (.cells #[ptr v, ptr p, ptr y, ptr q] 69)).alloc (.cells #[ptr w5.heap.size] 67)) hf5 ha hr hv hy hi h1 h2 h3 h4 h5 h6 ((Fr.refl [] _).alloc _)
  have hfW : Fr [] w ((w5.alloc (.cells #[ptr v, ptr p, ptr y, ptr q] 69)).alloc (.cells #[ptr w5.heap.size] 67)) := ((hf0.trans hf5).alloc _).alloc _
  refine ⟨((Sides.none w d.n 0 _).to hfW).push (B := W0.heap.size) (fun i hi => by omega) (by omega) hS hall (fun _ => Coh.nil hc _) rfl (by show b.misses ≤ 0; omega), Nat.le_refl _, ?_, ?_⟩
  · have hr1 := own_made1 (w5.alloc (.cells #[ptr v, ptr p, ptr y, ptr q] 69)) w.heap.size 67 (ptr w5.heap.size) (by rw [World.size_alloc]; omega)
    rw [World.size_alloc] at hr1
    exact hr1
  · have := Blk.new w 34 #[.int .i64 f, .int .i64 c, .int .i64 k]
    rw [hW0] at this
    exact this.fr ((hf5.alloc _).alloc _) (by simp)
end Go.Proofs.Ythmnloapjdalpaa
