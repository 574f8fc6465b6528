/- Two disks side by side: the program's and the reference's. Many pairs of disks. -/
import Derived.Test.YthmnloapjdalpaaK7
import Derived.Test.YthmnloapjdalpaaDz
import Derived.Test.YthmnloapjdalpaaK9
namespace Go.Proofs.Ythmnloapjdalpaa
open Go.RowKit
set_option linter.unusedVariables false
set_option linter.unusedSimpArgs false
theorem DiskAt.faraway {w : World} {p g m v : Nat} {d : Dk} {t : TypeId} (h : DiskAt w p g m d) {cs : Array Value} (hb : Blk w v t cs) (h1 : t ≠ 110) (h2 : t ≠ 5) : v ∉ [p, g, m] := by
  obtain ⟨ok, ⟨cap, cv, hb', hc, hm, hz'⟩, sb, um⟩ := h
  simp only [List.mem_cons, List.not_mem_nil, or_false]
  rintro (rfl | rfl | rfl)
  · exact hb.ne_type hb' h1 rfl
  · exact sb.not hb h2
  · exact um.not_cells hb
/-- Blocks of S hold no cells of a type t. -/
def NoT (t : TypeId) (w : World) (S : List Nat) : Prop := ∀ k, k ∈ S → ∀ cs mk, w.heap[k]? ≠ some (.cells cs t mk)
theorem DiskAt.not {w : World} {p g m : Nat} {d : Dk} (h : DiskAt w p g m d) {t : TypeId} (h1 : t ≠ 110) (h2 : t ≠ 5) : NoT t w [p, g, m] := by
  obtain ⟨ok, ⟨cap, cv, hb, hc, hm, hz'⟩, ⟨cs, mk, hs, -⟩, um⟩ := h
  intro k hk cs' mk' he
  simp only [List.mem_cons, List.not_mem_nil, or_false] at hk
  rcases hk with rfl | rfl | rfl
  · unfold Blk at hb
    rw [hb] at he
    injection he with he
    injection he with _ he _
    exact h1 he.symm
  · rw [hs] at he
    injection he with he
    injection he with _ he _
    exact h2 he.symm
  · exact um.not_cells he
theorem RD.blk {w : World} {q : Nat} {d : Dk} (h : RD w q d) : ∃ cs, Blk w q 127 cs := by
  obtain ⟨ok, lv, cv, l, hb, -⟩ := h
  exact ⟨_, hb⟩
theorem RD.not {w : World} {q : Nat} {d : Dk} (h : RD w q d) {t : TypeId} (h1 : t ≠ 127) : NoT t w [q] := by
  obtain ⟨cs, hb⟩ := h.blk
  intro k hk cs' mk' he
  simp at hk
  subst hk
  unfold Blk at hb
  rw [hb] at he
  injection he with he
  injection he with _ he _
  exact h1 he.symm
/-- The program's disk says d, the reference's d'; their blocks are among z, or were made since w0. -/
structure Prz (z : List Nat) (w0 w : World) (p q : Nat) (d d' : Dk) : Prop where
  x : Ddz z w0 w p d
  y : RD w q d'
  q0 : q ∈ z ∨ w0.heap.size ≤ q
section
variable {z : List Nat} {w0 w w' : World} {p q : Nat} {d d' e e' : Dk}
theorem Prz.fr (h : Prz z w0 w p q d d') : Fr z w0 w := h.x.fr
theorem Prz.to (h : Prz z w0 w p q d d') (hf : Fr [] w w') : Prz z w0 w' p q d d' := ⟨h.x.to hf, h.y.to hf, h.q0⟩
theorem Prz.turnx {g m : Nat} (hf : Fr z w0 w) (ha : DiskAt w p g m d) (h1 : p ∈ z ∨ w0.heap.size ≤ p) (h2 : g ∈ z ∨ w0.heap.size ≤ g) (h3 : m ∈ z ∨ w0.heap.size ≤ m) (hy : RD w q d') (q0 : q ∈ z ∨ w0.heap.size ≤ q) (ht : Turned p g m w e w') : Prz z w0 w' p q e d' := by
  refine ⟨Ddz.turned hf h1 h2 h3 ht, ?_, q0⟩
  obtain ⟨g', m', -, hf', -⟩ := ht
  obtain ⟨cs, hb⟩ := hy.blk
  exact hy.fr hf' (ha.faraway hb (by decide) (by decide)) (ha.not (by decide) (by decide)) ha.noz
theorem Prz.turny (h : Prz z w0 w p q d d') (ht : RTurn q w e' w') : Prz z w0 w' p q d e' := by
  obtain ⟨⟨f, g, m, ha, h1, h2, h3⟩, hy, q0⟩ := h
  obtain ⟨cs, hb⟩ := hy.blk
  have hfar := ha.faraway hb (by decide) (by decide)
  simp at hfar
  obtain ⟨h4, h5⟩ := ht
  refine ⟨⟨f.step h5 (fun k hk => by simp at hk; subst hk; exact q0), g, m, ha.fr h5 hy.noq.2 (by simp; omega) (by simp; omega) (by simp; omega), h1, h2, h3⟩, h4, q0⟩
theorem Prz.read (h : Prz z w0 w p q d d') (i : Int) : Calls Try.prog 65 #[ptr p, .int .i64 i] w fun e w' => e = .returned (.tuple #[.string (d.readV i), .int .i64 (d.readE i)]) ∧ Prz z w0 w' p q d d' := (h.x.read i).mono fun e w' ⟨he, hf⟩ => ⟨he, h.to hf⟩
theorem Prz.rread (h : Prz z w0 w p q d d') (i : Int) : Calls Try.prog 94 #[ptr q, .int .i64 i] w fun e w' => e = .returned (.tuple #[.string (d'.readV i), .int .i64 (d'.readE i)]) ∧ Prz z w0 w' p q d d' := (rRead_any q d' i w h.y).mono fun e w' ⟨he, hw⟩ => ⟨he, hw ▸ h⟩
theorem Prz.write (h : Prz z w0 w p q d d') (i : Int) (t : ByteArray) (ht : t.size ≤ maxLen) : Calls Try.prog 30 #[ptr p, .int .i64 i, .string t] w fun e w' => e = .returned (.int .i64 (d.writeE i t)) ∧ Prz z w0 w' p q (d.writeS i t) d' := by
  obtain ⟨⟨f, g, m, ha, h1, h2, h3⟩, hy, q0⟩ := h
  exact (Write_any p g m d i t w ha ht).mono fun e w' ⟨he, hT⟩ => ⟨he, Prz.turnx f ha h1 h2 h3 hy q0 hT⟩
theorem Prz.rwrite (h : Prz z w0 w p q d d') (i : Int) (t : ByteArray) : Calls Try.prog 95 #[ptr q, .int .i64 i, .string t] w fun e w' => e = .returned (.int .i64 (d'.writeE i t)) ∧ Prz z w0 w' p q d (d'.writeS i t) := (rWrite_any q d' i t w h.y).mono fun e w' ⟨he, hT⟩ => ⟨he, h.turny hT⟩
theorem Prz.flush (h : Prz z w0 w p q d d') (a b : Int) (ha1 : a ≤ 9223372036854775807) (hb1 : b ≤ 9223372036854775807) : Calls Try.prog 48 #[ptr p, .int .i64 a, .int .i64 b] w fun e w' => e = .returned (.int .i64 (d.flushE a b)) ∧ Prz z w0 w' p q (d.flushS a b) d' := by
  obtain ⟨⟨f, g, m, ha, h1, h2, h3⟩, hy, q0⟩ := h
  exact (Flush_any p g m d a b w ha ha1 hb1).mono fun e w' ⟨he, hT⟩ => ⟨he, Prz.turnx f ha h1 h2 h3 hy q0 hT⟩
theorem Prz.rflush (h : Prz z w0 w p q d d') (a b : Int) (ha1 : a ≤ 9223372036854775807) (hb1 : b ≤ 9223372036854775807) : Calls Try.prog 96 #[ptr q, .int .i64 a, .int .i64 b] w fun e w' => e = .returned (.int .i64 (d'.flushE a b)) ∧ Prz z w0 w' p q d (d'.flushS a b) := (rFlush_any q d' a b w h.y ha1 hb1).mono fun e w' ⟨he, hT⟩ => ⟨he, h.turny hT⟩
theorem Prz.crash {A : Option Addr} {n cap : Nat} {l : List Int} (h : Prz z w0 w p q d d') (hz : Zw w (.slice A n cap) l) : Calls Try.prog 32 #[ptr p, .slice A n cap] w fun e w' => e = .returned (.int .i64 d.crashE) ∧ Prz z w0 w' p q (d.crashS l) d' := by
  obtain ⟨⟨f, g, m, ha, h1, h2, h3⟩, hy, q0⟩ := h
  exact (Crash_any p g m d A n cap l w ha hz).mono fun e w' ⟨he, hT⟩ => ⟨he, Prz.turnx f ha h1 h2 h3 hy q0 hT⟩
theorem Prz.rcrash {A : Option Addr} {n cap : Nat} {l : List Int} (h : Prz z w0 w p q d d') (hz : Zw w (.slice A n cap) l) : Calls Try.prog 83 #[ptr q, .slice A n cap] w fun e w' => e = .returned (.int .i64 d'.crashE) ∧ Prz z w0 w' p q d (d'.crashS l) := (rCrash_any q d' A n cap l w h.y hz).mono fun e w' ⟨he, hT⟩ => ⟨he, h.turny hT⟩
theorem Prz.revive (h : Prz z w0 w p q d d') : Calls Try.prog 33 #[ptr p] w fun e w' => e = .returned (.tuple #[]) ∧ Prz z w0 w' p q d.revive d' := by
  obtain ⟨⟨f, g, m, ha, h1, h2, h3⟩, hy, q0⟩ := h
  exact (Revive_any p g m d w ha).mono fun e w' ⟨he, hD, hf⟩ => ⟨he, Prz.turnx f ha h1 h2 h3 hy q0 (.of_same hD hf)⟩
theorem Prz.rrevive (h : Prz z w0 w p q d d') : Calls Try.prog 84 #[ptr q] w fun e w' => e = .returned (.tuple #[]) ∧ Prz z w0 w' p q d d'.revive := (rRevive_any q d' w h.y).mono fun e w' ⟨he, hT⟩ => ⟨he, h.turny hT⟩
theorem Prz.after {A : Option Addr} {n cap : Nat} {l : List Int} (h : Prz z w0 w p q d d') (hz : Zw w (.slice A n cap) l) : Calls Try.prog 49 #[ptr p, .slice A n cap] w fun e w' => e = .returned (.string (d.after l)) ∧ Prz z w0 w' p q d d' ∧ Fr [] w w' := by
  obtain ⟨f, g, m, ha, h1, h2, h3⟩ := h.x
  exact (After_any p g m d A n cap l w ha hz).mono fun e w' ⟨he, hf⟩ => ⟨he, h.to hf, hf⟩
theorem Prz.rafter {A : Option Addr} {n cap : Nat} {l : List Int} (h : Prz z w0 w p q d d') (hz : Zw w (.slice A n cap) l) : Calls Try.prog 97 #[ptr q, .slice A n cap] w fun e w' => e = .returned (.string (d'.after l)) ∧ Prz z w0 w' p q d d' := (rAfter_any q d' A n cap l w h.y hz).mono fun e w' ⟨he, hf⟩ => ⟨he, h.to hf⟩
theorem Prz.image (h : Prz z w0 w p q d d') : Calls Try.prog 28 #[ptr p] w fun e w' => e = .returned (.string d.image) ∧ Prz z w0 w' p q d d' ∧ Fr [] w w' := by
  obtain ⟨f, g, m, ha, h1, h2, h3⟩ := h.x
  exact (Image_any p g m d w ha).mono fun e w' ⟨he, hf⟩ => ⟨he, h.to hf, hf⟩
theorem Prz.rimage (h : Prz z w0 w p q d d') : Calls Try.prog 43 #[ptr q] w fun e w' => e = .returned (.string d'.image) ∧ Prz z w0 w' p q d d' ∧ Fr [] w w' := (rImage_any q d' w h.y).mono fun e w' ⟨he, hf⟩ => ⟨he, h.to hf, hf⟩
theorem Prz.safe (h : Prz z w0 w p q d d') : Calls Try.prog 31 #[ptr p] w fun e w' => e = .returned (.string d.safe) ∧ Prz z w0 w' p q d d' ∧ Fr [] w w' := by
  obtain ⟨f, g, m, ha, h1, h2, h3⟩ := h.x
  exact (Safe_any p g m d w ha).mono fun e w' ⟨he, hw⟩ => ⟨he, hw ▸ h, hw ▸ Fr.refl _ _⟩
theorem Prz.rsafe (h : Prz z w0 w p q d d') : Calls Try.prog 44 #[ptr q] w fun e w' => e = .returned (.string d'.safe) ∧ Prz z w0 w' p q d d' ∧ Fr [] w w' := (rSafe_any q d' w h.y).mono fun e w' ⟨he, hf⟩ => ⟨he, h.to hf, hf⟩
theorem Prz.dead (h : Prz z w0 w p q d d') : Calls Try.prog 66 #[ptr p] w fun e w' => e = .returned (.bool d.dead) ∧ Prz z w0 w' p q d d' ∧ Fr [] w w' := by
  obtain ⟨f, g, m, ha, h1, h2, h3⟩ := h.x
  exact (Dead_any p g m d w ha).mono fun e w' ⟨he, hw⟩ => ⟨he, hw ▸ h, hw ▸ Fr.refl _ _⟩
theorem Prz.count (h : Prz z w0 w p q d d') : Calls Try.prog 29 #[ptr p] w fun e w' => e = .returned (.int .i64 d.n) ∧ Prz z w0 w' p q d d' ∧ Fr [] w w' := by
  obtain ⟨f, g, m, ha, h1, h2, h3⟩ := h.x
  exact (Count_any p g m d w ha).mono fun e w' ⟨he, hw⟩ => ⟨he, hw ▸ h, hw ▸ Fr.refl _ _⟩
theorem Prz.waiting (h : Prz z w0 w p q d d') : Calls Try.prog 50 #[ptr p] w (WaitP w d.waiting) := by
  obtain ⟨f, g, m, ha, h1, h2, h3⟩ := h.x
  exact Waiting_any p g m d w ha
/-- The program's disk is armed with a row that was made behind W: it may be written into. -/
theorem Prz.arm {W : World} {k : Nat} {A : Option Addr} {n cap : Nat} {l : List Int} (h : Prz z w0 W p q d d') (hf : Fr [] W w) (hk : W.heap.size ≤ k) (hk2 : k < w.heap.size) (x : Int) (hz : Zw w (.slice A n cap) l) (hb : n * 8 ≤ 140737488355328) (hx : x ≤ 9223372036854775807) :
    Calls Try.prog 81 #[ptr p, .int .i64 x, .slice A n cap] w fun e w' => e = .returned (.int .i64 (d.armE x)) ∧ Fr [p] w w' ∧ ∀ w'', Fr [k] w' w'' → Prz z w0 w'' p q (d.armS x l) d' := by
  obtain ⟨⟨f, g, m, ha, h1, h2, h3⟩, hy, q0⟩ := h
  have hs0 := f.size
  have l1 := ha.ltp
  have l2 := ha.ltg
  have l3 := ha.ltm
  obtain ⟨cs, hbq⟩ := hy.blk
  have hfar := ha.faraway hbq (by decide) (by decide)
  simp at hfar
  refine (Arm_off p g m k d x A n cap l w (ha.to hf) hk2 ((ha.off hk).fr hf (by simp)) hz hb hx).mono ?_
  rintro e w' ⟨he, hD, hp, ho⟩
  refine ⟨he, hp, fun w'' hfk => ?_⟩
  have hW : Fr [p] W w'' := ((hf.mono (fun k hk => by cases hk)).trans hp).step hfk (fun j hj => by simp at hj; subst hj; exact .inr hk)
  refine ⟨⟨f.step hW (fun j hj => by simp at hj; subst hj; exact h1), g, m, hD.frk ho hfk (by omega) (by omega) (by omega), h1, h2, h3⟩, ?_, q0⟩
  exact hy.fr hW (by simp; omega) (fun j hj => ha.not (t := 129) (by decide) (by decide) j (by simp at hj; simp [hj])) (fun j hj => ha.noz j (by simp at hj; simp [hj]))
theorem Prz.rarm {A : Option Addr} {n cap : Nat} {l : List Int} (h : Prz z w0 w p q d d') (x : Int) (hz : Zw w (.slice A n cap) l) (hfar : ∀ (j : Nat) (y : Int), l[j]? = some y → ∀ g o, A = some ⟨g, o, none⟩ → g ≠ q) (hb : n * 8 ≤ 140737488355328) (hx : x ≤ 9223372036854775807) : Calls Try.prog 82 #[ptr q, .int .i64 x, .slice A n cap] w fun e w' => e = .returned (.int .i64 (d'.armE x)) ∧ Prz z w0 w' p q d (d'.armS x l) := (rArm_any q d' x A n cap l w h.y hz hfar hb hx).mono fun e w' ⟨he, hT⟩ => ⟨he, h.turny hT⟩
end
end Go.Proofs.Ythmnloapjdalpaa
namespace Go.Proofs.Ythmnloapjdalpaa
open Go.RowKit
set_option linter.unusedVariables false
set_option linter.unusedSimpArgs false
/-- Another value at one place. -/
def at1 {α : Type} (f : Nat → α) (n : Nat) (x : α) : Nat → α := fun i => if i = n then x else f i
theorem at1_same {α : Type} (f : Nat → α) (n : Nat) (x : α) : at1 f n x n = x := if_pos rfl
theorem at1_ne {α : Type} {f : Nat → α} {n i : Nat} {x : α} (h : i ≠ n) : at1 f n x i = f i := if_neg h
/-- N pairs, made since w0, each in blocks of its own. -/
structure Duos (w0 w : World) (N : Nat) (P Q : Nat → Nat) (Z : Nat → List Nat) (D : Nat → Dk) : Prop where
  fr : Fr [] w0 w
  pair : ∀ i, i < N → ∃ g m, Z i = [P i, g, m, Q i] ∧ DiskAt w (P i) g m (D i) ∧ RD w (Q i) (D i)
  old : ∀ i, i < N → ∀ k, k ∈ Z i → w0.heap.size ≤ k
  apart : ∀ i j, i < N → j < N → i ≠ j → ∀ k, k ∈ Z i → k ∉ Z j
section
variable {w0 w w' : World} {N : Nat} {P Q : Nat → Nat} {Z : Nat → List Nat} {D : Nat → Dk}
theorem Duos.lt (h : Duos w0 w N P Q Z D) {i : Nat} (hi : i < N) : ∀ k, k ∈ Z i → k < w.heap.size := by
  obtain ⟨g, m, hz, ha, hy⟩ := h.pair i hi
  intro k hk
  rw [hz] at hk
  simp at hk
  rcases hk with rfl | rfl | rfl | rfl
  · exact ha.ltp
  · exact ha.ltg
  · exact ha.ltm
  · exact hy.lt
theorem Duos.not (h : Duos w0 w N P Q Z D) {i : Nat} (hi : i < N) {t : TypeId} (h1 : t ≠ 110) (h2 : t ≠ 5) (h3 : t ≠ 127) : NoT t w (Z i) := by
  obtain ⟨g, m, hz, ha, hy⟩ := h.pair i hi
  intro k hk
  rw [hz] at hk
  simp at hk
  rcases hk with rfl | rfl | rfl | rfl
  · exact ha.not h1 h2 _ (by simp)
  · exact ha.not h1 h2 _ (by simp)
  · exact ha.not h1 h2 _ (by simp)
  · exact hy.not h3 _ (by simp)
theorem Duos.prz (h : Duos w0 w N P Q Z D) {i : Nat} (hi : i < N) : Prz (Z i) w w (P i) (Q i) (D i) (D i) := by
  obtain ⟨g, m, hz, ha, hy⟩ := h.pair i hi
  rw [hz]
  exact ⟨⟨Fr.refl _ _, g, m, ha, .inl (by simp), .inl (by simp), .inl (by simp)⟩, hy, .inl (by simp)⟩
/-- Blocks that are not the pairs' turn. -/
theorem Duos.far (h : Duos w0 w N P Q Z D) {S : List Nat} (hf : Fr S w w') (h0 : ∀ k, k ∈ S → w0.heap.size ≤ k) (hS : ∀ i, i < N → ∀ k, k ∈ Z i → k ∉ S) (ho : NoO w S) (hz : NoZ w S) : Duos w0 w' N P Q Z D := by
  refine ⟨h.fr.step hf (fun k hk => .inr (h0 k hk)), fun i hi => ?_, h.old, h.apart⟩
  obtain ⟨g, m, e, ha, hy⟩ := h.pair i hi
  have hS' := hS i hi
  rw [e] at hS'
  exact ⟨g, m, e, ha.fr hf hz (hS' _ (by simp)) (hS' _ (by simp)) (hS' _ (by simp)), hy.fr hf (hS' _ (by simp)) ho hz⟩
theorem Duos.to (h : Duos w0 w N P Q Z D) (hf : Fr [] w w') : Duos w0 w' N P Q Z D := h.far hf (fun k hk => by cases hk) (fun i hi k hk => by simp) (NoO.nil _) (NoZ.nil _)
/-- A row of another type turns. -/
theorem Duos.row (h : Duos w0 w N P Q Z D) {k : Nat} {t : TypeId} {cs : Array Value} (hb : Blk w k t cs) (hk : w0.heap.size ≤ k) (h1 : t ≠ 110) (h2 : t ≠ 5) (h3 : t ≠ 127) (h4 : t ≠ 129) (h5 : t ≠ 3) (hf : Fr [k] w w') : Duos w0 w' N P Q Z D := by
  refine h.far hf (fun j hj => by simp at hj; subst hj; exact hk) (fun i hi j hj => ?_) (hb.noO h4) (fun j hj cs' mk' he => ?_)
  · simp
    rintro rfl
    unfold Blk at hb
    exact h.not hi h1 h2 h3 _ hj _ _ hb
  · simp at hj
    subst hj
    unfold Blk at hb
    rw [hb] at he
    injection he with he
    injection he with _ he _
    exact h5 he
/-- One pair turns. -/
theorem Duos.turn (h : Duos w0 w N P Q Z D) {n : Nat} (hn : n < N) {d : Dk} (hp : Prz (Z n) w w' (P n) (Q n) d d) : ∃ Z', Duos w0 w' N P Q Z' (at1 D n d) ∧ Fr (Z n) w w' := by
  obtain ⟨⟨f, g, m, ha, h1, h2, h3⟩, hy, h4⟩ := hp
  have hs := f.size
  have hs0 := h.fr.size
  have hall : ∀ k, k ∈ [P n, g, m, Q n] → k ∈ Z n ∨ w.heap.size ≤ k := by
    intro k hk
    simp at hk
    rcases hk with rfl | rfl | rfl | rfl
    · exact h1
    · exact h2
    · exact h3
    · exact h4
  refine ⟨at1 Z n [P n, g, m, Q n], ⟨h.fr.step f (fun k hk => .inr (h.old n hn k hk)), fun i hi => ?_, fun i hi k hk => ?_, fun i j hi hj hij k hk => ?_⟩, f⟩
  · by_cases e : i = n
    · subst e
      rw [at1_same, at1_same]
      exact ⟨g, m, rfl, ha, hy⟩
    · rw [at1_ne e, at1_ne e]
      obtain ⟨g', m', e', ha', hy'⟩ := h.pair i hi
      have hS' := h.apart i n hi hn e
      rw [e'] at hS'
      exact ⟨g', m', e', ha'.fr f (h.not hn (by decide) (by decide) (by decide)) (hS' _ (by simp)) (hS' _ (by simp)) (hS' _ (by simp)), hy'.fr f (hS' _ (by simp)) (h.not hn (by decide) (by decide) (by decide)) (h.not hn (by decide) (by decide) (by decide))⟩
  · by_cases e : i = n
    · subst e
      rw [at1_same] at hk
      rcases hall k hk with hk | hk
      · exact h.old i hn k hk
      · omega
    · rw [at1_ne e] at hk
      exact h.old i hi k hk
  · by_cases e : i = n
    · subst e
      rw [at1_same] at hk
      rw [at1_ne (fun e => hij e.symm)]
      rcases hall k hk with hk | hk
      · exact h.apart i j hn hj hij k hk
      · intro hk2
        have := h.lt hj k hk2
        omega
    · rw [at1_ne e] at hk
      by_cases e2 : j = n
      · subst e2
        rw [at1_same]
        intro hk2
        rcases hall k hk2 with hk2 | hk2
        · exact h.apart i j hi hn hij k hk hk2
        · have := h.lt hi k hk
          omega
      · rw [at1_ne e2]
        exact h.apart i j hi hj hij k hk
/-- One pair more. -/
theorem Duos.push (h : Duos w0 w N P Q Z D) (hf : Fr [] w w') {p g m q : Nat} {d : Dk} (ha : DiskAt w' p g m d) (hy : RD w' q d) (h1 : w.heap.size ≤ p) (h2 : w.heap.size ≤ g) (h3 : w.heap.size ≤ m) (h4 : w.heap.size ≤ q) : Duos w0 w' (N + 1) (at1 P N p) (at1 Q N q) (at1 Z N [p, g, m, q]) (at1 D N d) := by
  have h' := h.to hf
  have hs0 := h.fr.size
  have hall : ∀ k, k ∈ [p, g, m, q] → w.heap.size ≤ k := by
    intro k hk
    simp at hk
    rcases hk with rfl | rfl | rfl | rfl <;> assumption
  refine ⟨h'.fr, fun i hi => ?_, fun i hi k hk => ?_, fun i j hi hj hij k hk => ?_⟩
  · by_cases e : i = N
    · subst e
      simp only [at1_same]
      exact ⟨g, m, rfl, ha, hy⟩
    · simp only [at1_ne e]
      exact h'.pair i (by omega)
  · by_cases e : i = N
    · subst e
      rw [at1_same] at hk
      have := hall k hk
      omega
    · rw [at1_ne e] at hk
      exact h.old i (by omega) k hk
  · by_cases e : i = N
    · subst e
      rw [at1_same] at hk
      rw [at1_ne (fun e => hij e.symm)]
      intro hk2
      have := h.lt (show j < i by omega) k hk2
      have := hall k hk
      omega
    · rw [at1_ne e] at hk
      by_cases e2 : j = N
      · subst e2
        rw [at1_same]
        intro hk2
        have := h.lt (show i < j by omega) k hk
        have := hall k hk2
        omega
      · rw [at1_ne e2]
        exact h.apart i j (by omega) (by omega) hij k hk
theorem Duos.none (w : World) (P Q : Nat → Nat) (Z : Nat → List Nat) (D : Nat → Dk) : Duos w w 0 P Q Z D := ⟨Fr.refl _ _, fun i hi => by omega, fun i hi => by omega, fun i j hi => by omega⟩
end
end Go.Proofs.Ythmnloapjdalpaa
