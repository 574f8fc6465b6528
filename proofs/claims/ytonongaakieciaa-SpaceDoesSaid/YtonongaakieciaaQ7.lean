/- Rows of spaces, side by side: what the script's walk keeps. -/
import Derived.Test.YtonongaakieciaaQ6
namespace Go.Proofs.Ytonongaakieciaa
open Go.RowKit
set_option linter.unusedVariables false
set_option linter.unusedSimpArgs false
set_option maxRecDepth 100000
theorem place_bigS (x : Int) (m : Nat) (hm : 0 < m) (hm2 : m ≤ 9223372036854775807) (hx0 : -9223372036854775808 ≤ x) (hx1 : x ≤ 9223372036854775807) (w : World) :
    Calls Try.prog 16 #[.int .i64 x, .int .i64 (m : Int)] w fun e w' => e = .returned (.int .i64 (x % (m : Int))) ∧ w = w' := by
  have hm0 : ¬ (m : Int) = 0 := by omega
  have hb := Int.emod_nonneg x hm0
  have hb2 := Int.emod_lt_of_pos x (show (0 : Int) < m by omega)
  have ht : x.tmod m = if 0 ≤ x ∨ (m : Int) ∣ x then x % m else x % m - m := by
    rw [Int.tmod_eq_emod]
    by_cases h : 0 ≤ x ∨ (m : Int) ∣ x
    · rw [if_pos h, if_pos h]; omega
    · rw [if_neg h, if_neg h]
      simp
  obtain ⟨r, hr⟩ : ∃ r, x % (m : Int) = r := ⟨_, rfl⟩
  rw [hr] at hb hb2 ht ⊢
  by_cases h : 0 ≤ x ∨ (m : Int) ∣ x
  · rw [if_pos h] at ht
    have hn : ¬ r < 0 := by omega
    clear h hr
    go_enter Try.func16, Try.ntmps16
    go_wp2
    go_ret
    exact ⟨rfl, rfl⟩
  · rw [if_neg h] at ht
    have hnz : r ≠ 0 := by
      intro e
      apply h
      right
      exact Int.dvd_of_emod_eq_zero (by rw [hr, e])
    have hn : r - (m : Int) < 0 := by omega
    have hw : IntKind.i64.wrap (r - (m : Int) + (m : Int)) = r := by
      rw [show r - (m : Int) + (m : Int) = r from by omega]
      exact IntWalk.i64_in _ (by omega)
    clear h hr
    go_enter Try.func16, Try.ntmps16
    go_wp2
    go_ret
    exact ⟨rfl, rfl⟩
theorem Try.info25 : (Try.prog.info? 25).map (fun i => (i.zero, i.size, i.bytes)) = some (some (.pointer none), 1, 8) := by kernel_rfl
theorem Try.info39 : (Try.prog.info? 39).map (fun i => (i.zero, i.size, i.bytes)) = some (some (.pointer none), 1, 8) := by kernel_rfl
/-- The pointers. -/
def ptrs (P : Nat → Nat) (N : Nat) : List Value := (List.range N).map fun i => ptr (P i)
theorem ptrs_len (P : Nat → Nat) (N : Nat) : (ptrs P N).length = N := by simp [ptrs]
theorem ptrs_get (P : Nat → Nat) {N k : Nat} (h : k < N) : (ptrs P N)[k]? = some (ptr (P k)) := by simp [ptrs, h]
theorem ptrs_push (P : Nat → Nat) (N p : Nat) : ptrs (at1 P N p) (N + 1) = ptrs P N ++ [ptr p] := by
  unfold ptrs
  rw [List.range_succ, List.map_append]
  congr 1
  · refine List.map_congr_left fun i hi => ?_
    have := List.mem_range.1 hi
    rw [at1_ne (by omega)]
  · simp [at1_same]
theorem own_ptr {w : World} {B : Nat} {e : TypeId} {g c N k : Nat} {P : Nat → Nat} (h : w.ownsRow B e 1 (.slice (some ⟨g, 0, none⟩) N c) N (ptrs P N)) (hk : k < N) : w.cell? ⟨g, k, none⟩ = some (ptr (P k)) := by
  have hv : (.slice (some ⟨g, 0, none⟩) N c : Value) ≠ .slice none 0 0 := fun hh => by cases hh
  obtain ⟨g', cap', cs, e1, h1, h2, h2', h3, h4⟩ := own_some h hv
  injection e1 with e1 _ _
  injection e1 with e1
  injection e1 with e1 _ _
  subst e1
  rw [h3.cell]
  exact h4 _ _ (ptrs_get P hk)
theorem own_blk' {w : World} {B : Nat} {e : TypeId} {g c N : Nat} {xs : List Value} (h : w.ownsRow B e 1 (.slice (some ⟨g, 0, none⟩) N c) N xs) : B ≤ g ∧ ∃ cs, Blk w g e cs := own_blk h g (by simp [Value.ownBlock])
theorem ty25 : TyS 25 := by unfold TyS; decide
theorem ty39 : TyS 39 := by unfold TyS; decide
theorem ty24 : TyS 24 := by unfold TyS; decide
/-- The two rows, and the pairs. -/
structure SdI (w wr : World) (N : Nat) (P Q : Nat → Nat) (Z : Nat → List Nat) (D E : Nat → Sp) (gx cx gy cy : Nat) : Prop where
  du : DuoS w wr N P Q Z D E
  n1 : 1 ≤ N
  xs : wr.ownsRow w.heap.size 25 1 (.slice (some ⟨gx, 0, none⟩) N cx) N (ptrs P N)
  ys : wr.ownsRow w.heap.size 39 1 (.slice (some ⟨gy, 0, none⟩) N cy) N (ptrs Q N)
section
variable {w wr w' : World} {N : Nat} {P Q : Nat → Nat} {Z : Nat → List Nat} {D E D' E' : Nat → Sp} {gx cx gy cy : Nat}
theorem SdI.fr (h : SdI w wr N P Q Z D E gx cx gy cy) : Fr [] w wr := h.du.fr
theorem SdI.to (h : SdI w wr N P Q Z D E gx cx gy cy) (hf : Fr [] wr w') : SdI w w' N P Q Z D E gx cx gy cy := ⟨h.du.to hf, h.n1, own_fr h.xs hf (by simp), own_fr h.ys hf (by simp)⟩
theorem SdI.cells (h : SdI w wr N P Q Z D E gx cx gy cy) {k : Nat} (hk : k < N) : wr.cell? ⟨gx, k, none⟩ = some (ptr (P k)) ∧ wr.cell? ⟨gy, k, none⟩ = some (ptr (Q k)) := ⟨own_ptr h.xs hk, own_ptr h.ys hk⟩
theorem SdI.turn (h : SdI w wr N P Q Z D E gx cx gy cy) {k : Nat} (hk : k < N) (hd : DuoS w w' N P Q Z D' E') (hf : Fr (Z k) wr w') : SdI w w' N P Q Z D' E' gx cx gy cy :=
  ⟨hd, h.n1, own_fr h.xs hf (fun j hj cs hb => h.du.not hk ty25 j hj cs _ hb), own_fr h.ys hf (fun j hj cs hb => h.du.not hk ty39 j hj cs _ hb)⟩
end
/-- An operation in its box. -/
structure OpX where
  on : Int
  kind : Int
  part : Int
  a : Int
  b : Int
  s : ByteArray
  fo : -9223372036854775808 ≤ on ∧ on ≤ 9223372036854775807
  fa : -9223372036854775808 ≤ a ∧ a ≤ 9223372036854775807
  fb : -9223372036854775808 ≤ b ∧ b ≤ 9223372036854775807
  fs : s.size ≤ maxLen
def OpX.none : OpX := ⟨0, 0, 0, 0, 0, ⟨#[]⟩, by decide, by decide, by decide, Nat.zero_le _⟩
def OpX.at (w : World) (b o : Nat) (x : OpX) : Prop :=
  w.cell? ⟨b, o, .none⟩ = some (.int .i64 x.on) ∧ w.cell? ⟨b, o + 1, .none⟩ = some (.int .i64 x.kind) ∧ w.cell? ⟨b, o + 2, .none⟩ = some (.int .i64 x.part) ∧ w.cell? ⟨b, o + 3, .none⟩ = some (.int .i64 x.a) ∧ w.cell? ⟨b, o + 4, .none⟩ = some (.int .i64 x.b) ∧ w.cell? ⟨b, o + 5, .none⟩ = some (.string x.s)
theorem OpX.at.fr {w w' : World} {b o : Nat} {x : OpX} (h : OpX.at w b o x) (hf : Fr [] w w') : OpX.at w' b o x :=
  ⟨hf.cell_some h.1 (by simp), hf.cell_some h.2.1 (by simp), hf.cell_some h.2.2.1 (by simp), hf.cell_some h.2.2.2.1 (by simp), hf.cell_some h.2.2.2.2.1 (by simp), hf.cell_some h.2.2.2.2.2 (by simp)⟩
/-- A slice of calls. -/
def OpsX (w : World) (A : Option Addr) (n : Nat) (ops : Nat → OpX) : Prop :=
  n ≤ maxLen ∧ ∀ i, i < n → ∃ b off, A = some ⟨b, off, .none⟩ ∧ OpX.at w b (off + i * 6) (ops i)
def OpX.cells (o : OpX) : Array Value := #[.int .i64 o.on, .int .i64 o.kind, .int .i64 o.part, .int .i64 o.a, .int .i64 o.b, .string o.s]
structure SdB (w wr : World) (N : Nat) (P Q : Nat → Nat) (Z : Nat → List Nat) (D E : Nat → Sp) (gx cx gy cy bX : Nat) (o : OpX) : Prop where
  i : SdI w wr N P Q Z D E gx cx gy cy
  bx : Blk wr bX 24 o.cells
/-- What the script's walk reads. -/
def SdC (W : World) (k gx gy bX : Nat) (P Q : Nat → Nat) (o : OpX) : Prop := W.cell? ⟨gx, k, none⟩ = some (ptr (P k)) ∧ W.cell? ⟨gy, k, none⟩ = some (ptr (Q k)) ∧ W.cell? ⟨bX, 0, none⟩ = some (.int .i64 o.on) ∧ W.cell? ⟨bX, 1, none⟩ = some (.int .i64 o.kind) ∧ W.cell? ⟨bX, 2, none⟩ = some (.int .i64 o.part) ∧ W.cell? ⟨bX, 3, none⟩ = some (.int .i64 o.a) ∧ W.cell? ⟨bX, 4, none⟩ = some (.int .i64 o.b) ∧ W.cell? ⟨bX, 5, none⟩ = some (.string o.s)
section
variable {w wr w' : World} {N k : Nat} {P Q : Nat → Nat} {Z : Nat → List Nat} {D E D' E' : Nat → Sp} {gx cx gy cy bX : Nat} {o : OpX}
theorem SdB.to (h : SdB w wr N P Q Z D E gx cx gy cy bX o) (hf : Fr [] wr w') : SdB w w' N P Q Z D E gx cx gy cy bX o := ⟨h.i.to hf, h.bx.fr hf (by simp)⟩
theorem SdB.cells (h : SdB w wr N P Q Z D E gx cx gy cy bX o) (hk : k < N) : SdC wr k gx gy bX P Q o := ⟨(h.i.cells hk).1, (h.i.cells hk).2, h.bx.cell 0, h.bx.cell 1, h.bx.cell 2, h.bx.cell 3, h.bx.cell 4, h.bx.cell 5⟩
theorem SdB.turn (h : SdB w wr N P Q Z D E gx cx gy cy bX o) (hk : k < N) (hd : DuoS w w' N P Q Z D' E' ∧ Fr (Z k) wr w') : SdB w w' N P Q Z D' E' gx cx gy cy bX o :=
  ⟨h.i.turn hk hd.1 hd.2, h.bx.fr hd.2 (fun hj => h.i.du.not hk ty24 _ hj _ _ h.bx)⟩
theorem SdB.load (h : SdB w wr N P Q Z D E gx cx gy cy bX o) (hk : k < N) (i : Int) (t : ByteArray) : Calls Try.prog 17 #[ptr (P k), .int .i64 i, .string t] wr fun e w' => e = .returned (.int .i64 (ldE (D k) i t)) ∧ SdB w w' N P Q Z (at1 D k (ldS (D k) i t)) E gx cx gy cy bX o :=
  (h.i.du.load hk i t).mono fun e w' ⟨he, hd⟩ => ⟨he, h.turn hk hd⟩
theorem SdB.rload (h : SdB w wr N P Q Z D E gx cx gy cy bX o) (hk : k < N) (i : Int) (t : ByteArray) : Calls Try.prog 22 #[ptr (Q k), .int .i64 i, .string t] wr fun e w' => e = .returned (.int .i64 (ldE (E k) i t)) ∧ SdB w w' N P Q Z D (at1 E k (ldS (E k) i t)) gx cx gy cy bX o :=
  (h.i.du.rload hk i t).mono fun e w' ⟨he, hd⟩ => ⟨he, h.turn hk hd⟩
theorem SdB.put (h : SdB w wr N P Q Z D E gx cx gy cy bX o) (hk : k < N) (i a : Int) (t : ByteArray) (ha : a ≤ 9223372036854775807) : Calls Try.prog 19 #[ptr (P k), .int .i64 i, .int .i64 a, .string t] wr fun e w' => e = .returned (.int .i64 (outE (D k) i a t)) ∧ SdB w w' N P Q Z (at1 D k (outS (D k) i a t)) E gx cx gy cy bX o :=
  (h.i.du.put hk i a t ha).mono fun e w' ⟨he, hd⟩ => ⟨he, h.turn hk hd⟩
theorem SdB.rput (h : SdB w wr N P Q Z D E gx cx gy cy bX o) (hk : k < N) (i a : Int) (t : ByteArray) (ha : a ≤ 9223372036854775807) : Calls Try.prog 24 #[ptr (Q k), .int .i64 i, .int .i64 a, .string t] wr fun e w' => e = .returned (.int .i64 (outE (E k) i a t)) ∧ SdB w w' N P Q Z D (at1 E k (outS (E k) i a t)) gx cx gy cy bX o :=
  (h.i.du.rput hk i a t ha).mono fun e w' ⟨he, hd⟩ => ⟨he, h.turn hk hd⟩
theorem SdB.get (h : SdB w wr N P Q Z D E gx cx gy cy bX o) (hk : k < N) (i a b : Int) (ha : a ≤ 9223372036854775807) : Calls Try.prog 20 #[ptr (P k), .int .i64 i, .int .i64 a, .int .i64 b] wr fun e w' => e = .returned (.tuple #[.string (inV (D k) i a b), .int .i64 (inE (D k) i a b)]) ∧ SdB w w' N P Q Z D E gx cx gy cy bX o :=
  (h.i.du.get hk i a b ha).mono fun e w' ⟨he, hd⟩ => ⟨he, h.to hd⟩
theorem SdB.rget (h : SdB w wr N P Q Z D E gx cx gy cy bX o) (hk : k < N) (i a b : Int) (ha : a ≤ 9223372036854775807) : Calls Try.prog 23 #[ptr (Q k), .int .i64 i, .int .i64 a, .int .i64 b] wr fun e w' => e = .returned (.tuple #[.string (inV (E k) i a b), .int .i64 (inE (E k) i a b)]) ∧ SdB w w' N P Q Z D E gx cx gy cy bX o :=
  (h.i.du.rget hk i a b ha).mono fun e w' ⟨he, hd⟩ => ⟨he, h.to hd⟩
end
/-- A row has grown. -/
theorem grown_row {w W W' : World} {e : TypeId} {g c N : Nat} {xs : List Value} (h : W.ownsRow w.heap.size e 1 (.slice (some ⟨g, 0, none⟩) N c) N xs) (hg : W.grownBy W' (Value.ownBlock (.slice (some ⟨g, 0, none⟩) N c))) : Fr [g] W W' ∧ w.heap.size ≤ g ∧ ∃ cs, Blk W g e cs := by
  obtain ⟨h1, h2⟩ := own_blk' h
  exact ⟨(Fr.of_own hg).mono (fun k hk _ => by simpa [Value.ownBlock] using hk), h1, h2⟩
/-- A clone under way: it lies in no row yet, or in the first alone. -/
structure ClS (w W : World) (N bX B s p F g : Nat) (o : OpX) (d : Sp) (P P' Q : Nat → Nat) (Z : Nat → List Nat) (D : Nat → Sp) (M gx cx gy cy : Nat) : Prop where
  du : DuoS w W N P Q Z D D
  lt : ∀ i, i < N → ∀ k, k ∈ Z i → k < B
  b : w.heap.size ≤ B
  at_ : SpAt W s p F g d
  h1 : B ≤ s
  h2 : B ≤ p
  h3 : B ≤ F
  h4 : B ≤ g
  hs : B ≤ W.heap.size
  xs : W.ownsRow w.heap.size 25 1 (.slice (some ⟨gx, 0, none⟩) M cx) M (ptrs P' M)
  ys : W.ownsRow w.heap.size 39 1 (.slice (some ⟨gy, 0, none⟩) N cy) N (ptrs Q N)
  bx : Blk W bX 24 o.cells
section
variable {w W W' : World} {N bX B s p F g k y q G g' : Nat} {o : OpX} {d : Sp} {P P' Q : Nat → Nat} {Z : Nat → List Nat} {D : Nat → Sp} {M gx cx gy cy : Nat}
theorem ClS.to (h : ClS w W N bX B s p F g o d P P' Q Z D M gx cx gy cy) (hf : Fr [] W W') : ClS w W' N bX B s p F g o d P P' Q Z D M gx cx gy cy := ⟨h.du.to hf, h.lt, h.b, h.at_.to hf, h.h1, h.h2, h.h3, h.h4, Nat.le_trans h.hs hf.size, own_fr h.xs hf (by simp), own_fr h.ys hf (by simp), h.bx.fr hf (by simp)⟩
theorem SdB.clS (h : SdB w W N P Q Z D D gx cx gy cy bX o) (hf : Fr [] W W') (ha : SpAt W' s p F g d) (h1 : W.heap.size ≤ s) (h2 : W.heap.size ≤ p) (h3 : W.heap.size ≤ F) (h4 : W.heap.size ≤ g) : ClS w W' N bX W.heap.size s p F g o d P P Q Z D N gx cx gy cy :=
  ⟨h.i.du.to hf, fun i hi => h.i.du.lt hi, h.i.fr.size, ha, h1, h2, h3, h4, hf.size, own_fr h.i.xs hf (by simp), own_fr h.i.ys hf (by simp), h.bx.fr hf (by simp)⟩
theorem SpAt.byRow (h : SpAt W s p F g d) {t : TypeId} {cs : Array Value} (hb : Blk W k t cs) (ht : TyS t) (h61 : t ≠ 61) (hf : Fr [k] W W') : SpAt W' s p F g d := by
  obtain ⟨⟨c1, b1⟩, ⟨c2, b2⟩, ⟨c3, b3⟩, ⟨c4, b4⟩⟩ := h.blks
  obtain ⟨t1, t2, t3, t4, t5, t6, t7⟩ := ht
  exact h.fr hf (by simp; exact b1.ne_type hb t1.symm) (by simp; exact b2.ne_type hb t2.symm) (by simp; exact b3.ne_type hb t3.symm) (by simp; exact b4.ne_type hb t4.symm) (hb.not h61.symm)
theorem RSp.byRow (h : RSp W y q G g' d) {t : TypeId} {cs : Array Value} (hb : Blk W k t cs) (ht : TyS t) (h61 : t ≠ 61) (hf : Fr [k] W W') : RSp W' y q G g' d := by
  obtain ⟨⟨c1, b1⟩, ⟨c2, b2⟩, ⟨c3, b3⟩, ⟨c4, b4⟩⟩ := h.blks
  obtain ⟨t1, t2, t3, t4, t5, t6, t7⟩ := ht
  exact h.fr hf (by simp; exact b1.ne_type hb t5.symm) (by simp; exact b2.ne_type hb t6.symm) (by simp; exact b3.ne_type hb t7.symm) (by simp; exact b4.ne_type hb t4.symm) (hb.not h61.symm)
/-- What an append onto the rows is given. -/
theorem ClS.size (h : ClS w W N bX B s p F g o d P P' Q Z D M gx cx gy cy) : w.heap.size ≤ W.heap.size := h.du.fr.size
theorem ClS.pushx (h : ClS w W N bX B s p F g o d P P Q Z D N gx cx gy cy) {v : Value} (ho : W'.ownsRow w.heap.size 25 1 v (N + 1) (ptrs P N ++ [ptr s])) (hg : W.grownBy W' (Value.ownBlock (.slice (some ⟨gx, 0, none⟩) N cx))) : ∃ gx' cx', v = .slice (some ⟨gx', 0, none⟩) (N + 1) cx' ∧ ClS w W' N bX B s p F g o d P (at1 P N s) Q Z D (N + 1) gx' cx' gy cy := by
  obtain ⟨hf, hw, cs0, hb⟩ := grown_row h.xs hg
  obtain ⟨gx', cx', rfl⟩ := own_succ ho
  refine ⟨gx', cx', rfl, h.du.row hb hw ty25 (by decide) hf, h.lt, h.b, h.at_.byRow hb ty25 (by decide) hf, h.h1, h.h2, h.h3, h.h4, Nat.le_trans h.hs hf.size, by rw [ptrs_push]; exact ho, own_fr h.ys hf (fun j hj cs2 hb2 => ?_), h.bx.fr hf ?_⟩
  · simp at hj
    subst hj
    exact absurd (hb.eq hb2).1 (by decide)
  · simp
    rintro rfl
    exact absurd (hb.eq h.bx).1 (by decide)
theorem ClS.pushy (h : ClS w W N bX B s p F g o d P (at1 P N s) Q Z D (N + 1) gx cx gy cy) (hr : RSp W y q G g' d) (hn : g ≠ g') (h1 : Sp1 d) (b1 : B ≤ y) (b2 : B ≤ q) (b3 : B ≤ G) (b4 : B ≤ g') {v : Value} (ho : W'.ownsRow w.heap.size 39 1 v (N + 1) (ptrs Q N ++ [ptr y])) (hg : W.grownBy W' (Value.ownBlock (.slice (some ⟨gy, 0, none⟩) N cy))) : ∃ gy' cy', v = .slice (some ⟨gy', 0, none⟩) (N + 1) cy' ∧ SdI w W' (N + 1) (at1 P N s) (at1 Q N y) (at1 Z N [s, p, F, g, y, q, G, g']) (at1 D N d) (at1 D N d) gx cx gy' cy' := by
  obtain ⟨hf, hw, cs0, hb⟩ := grown_row h.ys hg
  obtain ⟨gy', cy', rfl⟩ := own_succ ho
  have hd := h.du.row hb hw ty39 (by decide) hf
  refine ⟨gy', cy', rfl, hd.push h.lt h.b (h.at_.byRow hb ty39 (by decide) hf) (hr.byRow hb ty39 (by decide) hf) hn h1 (fun k hk => ?_), by omega, own_fr h.xs hf (fun j hj cs2 hb2 => ?_), by rw [ptrs_push]; exact ho⟩
  · have := h.h1
    have := h.h2
    have := h.h3
    have := h.h4
    simp at hk
    rcases hk with rfl | rfl | rfl | rfl | rfl | rfl | rfl | rfl <;> assumption
  · simp at hj
    subst hj
    exact absurd (hb.eq hb2).1 (by decide)
/-- The reference's copy, behind it. -/
theorem ClS.rcopy (h : ClS w W N bX B s p F g o d P P' Q Z D M gx cx gy cy) (hk : k < N) : Calls Try.prog 26 #[ptr (Q k)] W (RSpNew W (D k)) := h.du.rcopy hk
end
/-- A row of one, just made. -/
theorem own_made1 (w : World) (base : Nat) (e : TypeId) (x : Value) (hb : base ≤ w.heap.size) : (w.alloc (.cells #[x] e)).ownsRow base e 1 (.slice (some ⟨w.heap.size, 0, none⟩) 1 1) 1 [x] :=
  ⟨by simp, .inr ⟨w.heap.size, 1, #[x], rfl, hb, Blk.new w e #[x], Nat.le_refl _, by simp [maxLen], by simp, by simp⟩⟩
end Go.Proofs.Ytonongaakieciaa
