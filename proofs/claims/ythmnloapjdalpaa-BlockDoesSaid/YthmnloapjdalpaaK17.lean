/- The reference's disk: New. Rows of disks, side by side: what the script's walk keeps. -/
import Derived.Test.YthmnloapjdalpaaK7
import Derived.Deep.RegionLaw
import Derived.Test.YthmnloapjdalpaaK15
namespace Go.Proofs.Ythmnloapjdalpaa
open Go.RowKit
set_option linter.unusedVariables false
set_option linter.unusedSimpArgs false
def RNewP (w : World) (t : ByteArray) (e : Ending) (w' : World) : Prop := ∃ q, e = .returned (.tuple #[ptr q, .int .i64 0]) ∧ RD w' q (newD t) ∧ Fr [] w w' ∧ w.heap.size ≤ q
/-- The row so far. -/
structure NewR (w wr : World) (t : ByteArray) (A : Option Addr) (k c : Nat) : Prop where
  blk : Blk wr w.heap.size 127 #[.slice A k c, .int .i64 0, .slice none 0 0, .bool false]
  fr : Fr [] w wr
  row : ∃ lo, lo.length = k ∧ wr.ownsRow (w.heap.size + 1) 129 3 (.slice A k c) k (ocs lo) ∧ ∀ (i : Nat) (o : One), lo[i]? = some o → OneIs o (newD t) i
theorem newOne {t : ByteArray} {k : Nat} (h : k * 128 + 128 ≤ t.size) : OneIs ⟨t.extract (128 * k) (128 * k + 128), ⟨#[]⟩, false⟩ (newD t) k := by
  refine ⟨?_, rfl, fun s hs => by cases hs⟩
  show t.extract (128 * k) (128 * k + 128) = bs (at8 t) (k * 128) 128
  have := bs_extract (at8 t) 0 t.size (128 * k) (128 * k + 128) (by omega) (by omega)
  rw [bs_all] at this
  rw [this, Nat.zero_add, Nat.mul_comm, Nat.add_sub_cancel_left]
theorem NewR.done {w wr : World} {t : ByteArray} {A : Option Addr} {k c : Nat} (h : NewR w wr t A k c) (ht : newE t = 0) (hk : k = (newD t).n) : RD wr w.heap.size (newD t) := by
  obtain ⟨hb, hf, lo, hlo, ho, hq⟩ := h
  have hok := newD_ok ht
  have h1 := hok.n1
  have ho' : OOwn (w.heap.size + 1) wr (.slice A k c) lo := by unfold OOwn; rw [hlo]; exact ho
  obtain ⟨g, cap, hv, hg, c1, c2, hB⟩ := ho'.ob (fun hh => by rw [hh] at hlo; simp at hlo; omega)
  refine ⟨hok, _, _, lo, hb, ?_, ⟨by rw [hlo, hk], hq⟩, Zs.nil wr⟩
  rw [hv]
  exact hB.os c1 c2
set_option maxRecDepth 100000 in
set_option maxHeartbeats 2000000 in
theorem rNew_ok (t : ByteArray) (w : World) (h : newE t = 0) : Calls Try.prog 35 #[.string t] w (RNewP w t) := by
  obtain ⟨i0, hi0, hz0, hz1, hz2⟩ := info3 Try.info129
  obtain ⟨e1, e2, e3⟩ := newE_ok h
  have HT := Lib.hid h
  have hdv : ((t.size : Nat) : Int).tdiv 128 = ((t.size / 128 : Nat) : Int) := by rw [Int.tdiv_eq_ediv_of_nonneg (by omega)]; omega
  have hNd : (newD t).n = t.size / 128 := rfl
  obtain ⟨N, hN⟩ : ∃ N, t.size / 128 = N := ⟨_, rfl⟩
  rw [hN] at hdv hNd
  have hn1 : 1 ≤ N := by omega
  have hn2 : N ≤ 4096 := by omega
  have hns : N * 128 = t.size := by omega
  have hm : IntKind.i64.wrap ((N : Int) * 128) = (N : Int) * 128 := IntWalk.i64_in _ (by omega)
  have d1 : ¬ (N : Int) < 1 := by omega
  have d2 : (N : Int) * 128 = (t.size : Int) := by omega
  have d3 : ¬ (4096 : Int) < (N : Int) := by omega
  have HNd := Lib.hid hNd
  have Hns := Lib.hid hns
  have Hb0 := Lib.hid (Blk.new w 127 #[.slice none 0 0, .int .i64 0, .slice none 0 0, .bool false])
  have Hf0 := Lib.hid ((Fr.refl [] w).alloc (.cells #[.slice none 0 0, .int .i64 0, .slice none 0 0, .bool false] 127))
  have HS : Hid (NewR w (w.alloc (.cells #[.slice none 0 0, .int .i64 0, .slice none 0 0, .bool false] 127)) t none 0 0) := Lib.hid ⟨Hb0.out, Hf0.out, [], rfl, World.ownsRow_nil _ _ _ _, fun i o hi => by simp at hi⟩
  clear h hN e1 e2 e3 hNd hns
  go_enter Try.func35, Try.ntmps35
  go_wp2_with fail
  go_loopg [6] N (fun gg i wr => ∃ (k : Nat) (A : Option Addr) (c : Nat), k + gg = N ∧ i = .int .i64 (k : Int) ∧ NewR w wr t A k c)
  case atStart => exact ⟨0, none, 0, by omega, rfl, HS.out⟩
  case round =>
    obtain ⟨k, A, c, hk, rfl, hR⟩ := hrel
    have Hk := Lib.hid hk
    have HR := Lib.hid hR
    clear HS Hb0 Hf0
    by_cases hlt : k < N
    · have hki : (k : Int) < (N : Int) := by omega
      have hk0 : (0 : Int) ≤ (k : Int) := by omega
      have hwk : IntKind.i64.wrap ((k : Int) + 1) = (k : Int) + 1 := IntWalk.i64_in _ (by omega)
      have hw1 : IntKind.i64.wrap (128 * (k : Int)) = 128 * (k : Int) := IntWalk.i64_in _ (by omega)
      have hw2 : IntKind.i64.wrap (128 * (k : Int) + 128) = 128 * (k : Int) + 128 := IntWalk.i64_in _ (by omega)
      have hkt : k * 128 + 128 ≤ t.size := by have := Hns.out; omega
      have hsl := fun wx => sl_lh t (128 * k) (128 * k + 128) (128 * (k : Int)) (128 * (k : Int) + 128) (by omega) (by omega) wx (by omega) (by omega)
      have HO := Lib.hid (newOne hkt)
      obtain ⟨hb, hf, lo, hlo, ho, hq⟩ := hR
      have c0 := hb.cell 0
      simp at c0
      have fz := hb.frozen 0
      have Hlt := Lib.hid hb.lt
      generalize t.extract (128 * k) (128 * k + 128) = S at *
      have Hq := Lib.hid hq
      have Hlo := Lib.hid hlo
      have HB := Lib.hid hb
      have HF := Lib.hid hf
      have HW := Lib.hid ho
      have hm1 : k + 1 ≤ maxLen := by simp only [maxLen]; omega
      have hm2 : (k + 1) * 40 ≤ 140737488355328 := by omega
      clear hk hb hf ho hq hlo HR hkt
      have hF3 : Fr [] wr (wr.alloc (.cells #[.string S, .string ⟨#[]⟩, .bool false] 129)).drew := ((Fr.refl [] wr).alloc _).drew
      have Hns : Hid (∀ (j : Nat) (u : Value), (ocs [⟨S, ⟨#[]⟩, false⟩])[j]? = some u → ((wr.alloc (.cells #[.string S, .string ⟨#[]⟩, .bool false] 129)).drew).cell? ((⟨wr.heap.size, 0, none⟩ : Addr).add j) = some u) := Lib.hid (newsO wr ⟨S, ⟨#[]⟩, false⟩)
      have HW2 := Lib.hid (own_fr HW.out hF3 (by simp))
      have c0a := ((Fr.refl [] wr).alloc (.cells #[.string S, .string ⟨#[]⟩, .bool false] 129)).cell_some c0 (by simp)
      have HF3 := Lib.hid hF3
      clear hF3
      have hbs : w.heap.size + 1 ≤ ((wr.alloc (.cells #[.string S, .string ⟨#[]⟩, .bool false] 129)).drew).heap.size := by have := Hlt.out; show _ ≤ (wr.alloc _).heap.size; rw [World.size_alloc]; omega
      have hbt : wr.heap.size + 1 = ((wr.alloc (.cells #[.string S, .string ⟨#[]⟩, .bool false] 129)).drew).heap.size := by show _ = (wr.alloc _).heap.size; rw [World.size_alloc]
      go_wp2_with fail
      go_region_law (first
        | (refine step_append_lies _ rfl (.tmp 34) (.tmp 43) 125 rfl (w.heap.size + 1) 129 i0 (.agg #[.string ⟨#[]⟩, .string ⟨#[]⟩, .bool false]) 3 40 Try.underlying125 hi0 hz0 hz1 hz2 rfl (Nat.succ_pos 2) (.slice A k c) k (ocs lo) (by simp [Act.eval]) HW2.out ⟨wr.heap.size, 0, none⟩ 1 1 (ocs [⟨S, ⟨#[]⟩, false⟩]) (by simp [Act.eval]) (ocs_len _) Hns.out (ocs_one _) (Nat.succ_pos 0) hm1 hm2 hbs (wr.heap.size + 1) hbt.symm ?_
           intro g cc w4 ho4 hg4 hat4 hlt4
           have hB4 := (HB.out.fr HF3.out (by simp)).fr (Fr.of_own hg4) (fun hk => by have := (own_blk HW2.out _ hk).1; omega)
           have hF4 : Fr [] w w4 := (HF.out.trans HF3.out).step (Fr.of_own hg4) (fun j hj => .inr (by have := (own_blk HW2.out _ hj).1; omega))
           have hc4 := hB4.cell 0
           have hfz4 := hB4.frozen 0
           simp at hc4)
        | fail)
      all_goals
        have hbs4 := hB4.set_ 0 (.slice (some ⟨g, 0, none⟩) (k + 1) cc)
        have HR5 : Hid (NewR w (w4.setCell ⟨w.heap.size, 0, none⟩ (.slice (some ⟨g, 0, none⟩) (k + 1) cc)) t (some ⟨g, 0, none⟩) (k + 1) cc) := Lib.hid ⟨hbs4, hF4.setCell (p := ⟨w.heap.size, 0, none⟩) (.inr (Nat.le_refl _)) _, lo ++ [⟨S, ⟨#[]⟩, false⟩], by rw [List.length_append, Hlo.out]; rfl, by
          rw [ocs_app]
          exact own_fr ho4 ((Fr.refl [w.heap.size] w4).setCell (p := ⟨w.heap.size, 0, none⟩) (.inl (by simp)) (.slice (some ⟨g, 0, none⟩) (k + 1) cc)) (fun j hj cs hbj => by
            simp at hj
            subst hj
            exact absurd (hB4.eq hbj).1 (by decide)), fun i o hi => by
          rw [List.getElem?_append] at hi
          split at hi
          · exact Hq.out i o hi
          · have : i = lo.length := by
              have := (List.getElem?_eq_some_iff.1 hi).1
              simp at this
              omega
            subst this
            simp at hi
            subst hi
            rw [Hlo.out]
            exact HO.out⟩
        clear ho4 hg4 hat4 hlt4 hB4 hF4 hbs4 hc4 hfz4
        go_wp2_with fail
        go_roundg (N - (k + 1))
        case measure => have := Hk.out; omega
        case rel => exact ⟨k + 1, some ⟨g, 0, none⟩, cc, by have := Hk.out; omega, by go_num, HR5.out⟩
    · have hki : ¬ (k : Int) < (N : Int) := by omega
      obtain rfl : N = k := by omega
      have HD := Lib.hid (hR.done HT.out HNd.out.symm)
      have HF := Lib.hid hR.fr
      clear hk hR HR
      go_wp2_with fail
      go_ret2
      exact ⟨w.heap.size, rfl, HD.out, HF.out, Nat.le_refl _⟩
end Go.Proofs.Ythmnloapjdalpaa
namespace Go.Proofs.Ythmnloapjdalpaa
open Go.RowKit
set_option linter.unusedVariables false
set_option linter.unusedSimpArgs false
theorem place_big (x : Int) (m : Nat) (hm : 0 < m) (hm2 : m ≤ 9223372036854775807) (hx0 : -9223372036854775808 ≤ x) (hx1 : x ≤ 9223372036854775807) (w : World) :
    Calls Try.prog 47 #[.int .i64 x, .int .i64 (m : Int)] w fun e w' => e = .returned (.int .i64 (x % (m : Int))) ∧ w = w' := by
  have hm0 : ¬ (m : Int) = 0 := by omega
  have hb := Int.emod_nonneg x hm0
  have hb2 := Int.emod_lt_of_pos x (show (0 : Int) < m by omega)
  have ht : x.tmod m = if 0 ≤ x ∨ (m : Int) ∣ x then x % m else x % m - m := by
    rw [Int.tmod_eq_emod]
    by_cases h : 0 ≤ x ∨ (m : Int) ∣ x
    · rw [if_pos h, if_pos h]; omega
    · rw [if_neg h, if_neg h]
      simp
  obtain ⟨r, hr⟩ : ∃ r, x % (m : Int) = r := ⟨_, rfl⟩
  rw [hr] at hb hb2 ht ⊢
  by_cases h : 0 ≤ x ∨ (m : Int) ∣ x
  · rw [if_pos h] at ht
    have hn : ¬ r < 0 := by omega
    clear h hr
    go_enter Try.func47, Try.ntmps47
    go_wp2
    go_ret
    exact ⟨rfl, rfl⟩
  · rw [if_neg h] at ht
    have hnz : r ≠ 0 := by
      intro e
      apply h
      right
      exact Int.dvd_of_emod_eq_zero (by rw [hr, e])
    have hn : r - (m : Int) < 0 := by omega
    have hw : IntKind.i64.wrap (r - (m : Int) + (m : Int)) = r := by
      rw [show r - (m : Int) + (m : Int) = r from by omega]
      exact IntWalk.i64_in _ (by omega)
    clear h hr
    go_enter Try.func47, Try.ntmps47
    go_wp2
    go_ret
    exact ⟨rfl, rfl⟩
theorem Try.info36 : (Try.prog.info? 36).map (fun i => (i.zero, i.size, i.bytes)) = some (some (.pointer none), 1, 8) := by kernel_rfl
theorem Try.info61 : (Try.prog.info? 61).map (fun i => (i.zero, i.size, i.bytes)) = some (some (.pointer none), 1, 8) := by kernel_rfl
/-- The pointers. -/
def ptrs (P : Nat → Nat) (N : Nat) : List Value := (List.range N).map fun i => ptr (P i)
theorem ptrs_len (P : Nat → Nat) (N : Nat) : (ptrs P N).length = N := by simp [ptrs]
theorem ptrs_get (P : Nat → Nat) {N k : Nat} (h : k < N) : (ptrs P N)[k]? = some (ptr (P k)) := by simp [ptrs, h]
theorem ptrs_one (P : Nat → Nat) (N : Nat) : ∀ u ∈ ptrs P N, u.oneCell' = true := by
  intro u hu
  unfold ptrs at hu
  obtain ⟨i, -, rfl⟩ := List.mem_map.1 hu
  rfl
theorem ptrs_push (P : Nat → Nat) (N p : Nat) : ptrs (at1 P N p) (N + 1) = ptrs P N ++ [ptr p] := by
  unfold ptrs
  rw [List.range_succ, List.map_append]
  congr 1
  · refine List.map_congr_left fun i hi => ?_
    have := List.mem_range.1 hi
    rw [at1_ne (by omega)]
  · simp [at1_same]
/-- The two rows, and the pairs. -/
structure DoI (w wr : World) (N : Nat) (P Q : Nat → Nat) (Z : Nat → List Nat) (D : Nat → Dk) (gx cx gy cy : Nat) : Prop where
  du : Duos w wr N P Q Z D
  n1 : 1 ≤ N
  xs : wr.ownsRow w.heap.size 36 1 (.slice (some ⟨gx, 0, none⟩) N cx) N (ptrs P N)
  ys : wr.ownsRow w.heap.size 61 1 (.slice (some ⟨gy, 0, none⟩) N cy) N (ptrs Q N)
theorem own_ptr {w : World} {B : Nat} {e : TypeId} {g c N k : Nat} {P : Nat → Nat} (h : w.ownsRow B e 1 (.slice (some ⟨g, 0, none⟩) N c) N (ptrs P N)) (hk : k < N) : w.cell? ⟨g, k, none⟩ = some (ptr (P k)) := by
  have hv : (.slice (some ⟨g, 0, none⟩) N c : Value) ≠ .slice none 0 0 := fun hh => by cases hh
  obtain ⟨g', cap', cs, e1, h1, h2, h2', h3, h4⟩ := own_some h hv
  injection e1 with e1 _ _
  injection e1 with e1
  injection e1 with e1 _ _
  subst e1
  rw [h3.cell]
  exact h4 _ _ (ptrs_get P hk)
theorem own_blk' {w : World} {B : Nat} {e : TypeId} {g c N : Nat} {xs : List Value} (h : w.ownsRow B e 1 (.slice (some ⟨g, 0, none⟩) N c) N xs) : B ≤ g ∧ ∃ cs, Blk w g e cs := own_blk h g (by simp [Value.ownBlock])
section
variable {w wr w' : World} {N : Nat} {P Q : Nat → Nat} {Z : Nat → List Nat} {D : Nat → Dk} {gx cx gy cy : Nat}
theorem DoI.fr (h : DoI w wr N P Q Z D gx cx gy cy) : Fr [] w wr := h.du.fr
theorem DoI.to (h : DoI w wr N P Q Z D gx cx gy cy) (hf : Fr [] wr w') : DoI w w' N P Q Z D gx cx gy cy := ⟨h.du.to hf, h.n1, own_fr h.xs hf (by simp), own_fr h.ys hf (by simp)⟩
theorem DoI.cells (h : DoI w wr N P Q Z D gx cx gy cy) {k : Nat} (hk : k < N) : wr.cell? ⟨gx, k, none⟩ = some (ptr (P k)) ∧ wr.cell? ⟨gy, k, none⟩ = some (ptr (Q k)) := ⟨own_ptr h.xs hk, own_ptr h.ys hk⟩
theorem DoI.turn (h : DoI w wr N P Q Z D gx cx gy cy) {k : Nat} (hk : k < N) {d : Dk} (hp : Prz (Z k) wr w' (P k) (Q k) d d) : ∃ Z' D', DoI w w' N P Q Z' D' gx cx gy cy := by
  obtain ⟨Z', hd, hf⟩ := h.du.turn hk hp
  exact ⟨Z', _, hd, h.n1, own_fr h.xs hf (fun j hj cs hb => h.du.not hk (by decide) (by decide) (by decide) j hj cs _ hb), own_fr h.ys hf (fun j hj cs hb => h.du.not hk (by decide) (by decide) (by decide) j hj cs _ hb)⟩
/-- What a call on the k-th pair is given. -/
theorem DoI.playA (h : DoI w wr N P Q Z D gx cx gy cy) {k : Nat} (hk : k < N) {W : World} (hf : Fr [] wr W) {x : OpD} {cA : Option Addr} {cl cc : Nat} (hF : x.Fine) (hc : Zw w (.slice cA cl cc) x.ch) (h8 : cl * 8 ≤ 140737488355328) : PlayA (Z k) W (P k) (Q k) (D k) x cA cl cc := by
  have hD := h.du.to hf
  obtain ⟨g, m, e, -⟩ := hD.pair k hk
  refine ⟨hD.prz hk, hD.lt hk, by rw [e]; simp, by rw [e]; simp, hF, hc.fr hD.fr (NoZ.nil _), fun j y hj g o hA hg => ?_, h8⟩
  have := hD.old k hk g hg
  obtain ⟨q, o', e2, hq, -⟩ := hc.cell hj
  rw [e2] at hA
  injection hA with hA
  injection hA with hA _ _
  omega
/-- One pair more. -/
theorem Duos.push2 {B p g m q : Nat} {d : Dk} (h : Duos w wr N P Q Z D) (hlt : ∀ i, i < N → ∀ k, k ∈ Z i → k < B) (hB : w.heap.size ≤ B) (ha : DiskAt wr p g m d) (hy : RD wr q d) (h1 : B ≤ p) (h2 : B ≤ g) (h3 : B ≤ m) (h4 : B ≤ q) : Duos w wr (N + 1) (at1 P N p) (at1 Q N q) (at1 Z N [p, g, m, q]) (at1 D N d) := by
  have hall : ∀ k, k ∈ [p, g, m, q] → B ≤ k := by
    intro k hk
    simp at hk
    rcases hk with rfl | rfl | rfl | rfl <;> assumption
  refine ⟨h.fr, fun i hi => ?_, fun i hi k hk => ?_, fun i j hi hj hij k hk => ?_⟩
  · by_cases e : i = N
    · subst e
      simp only [at1_same]
      exact ⟨g, m, rfl, ha, hy⟩
    · simp only [at1_ne e]
      exact h.pair i (by omega)
  · by_cases e : i = N
    · subst e
      rw [at1_same] at hk
      have := hall k hk
      omega
    · rw [at1_ne e] at hk
      exact h.old i (by omega) k hk
  · by_cases e : i = N
    · subst e
      rw [at1_same] at hk
      rw [at1_ne (fun e => hij e.symm)]
      intro hk2
      have := hlt j (by omega) k hk2
      have := hall k hk
      omega
    · rw [at1_ne e] at hk
      by_cases e2 : j = N
      · subst e2
        rw [at1_same]
        intro hk2
        have := hlt i (by omega) k hk
        have := hall k hk2
        omega
      · rw [at1_ne e2]
        exact h.apart i j (by omega) (by omega) hij k hk
/-- A row of another type turns. -/
theorem DiskAt.row {p g m k : Nat} {d : Dk} (h : DiskAt wr p g m d) {t : TypeId} {cs : Array Value} (hb : Blk wr k t cs) (h1 : t ≠ 110) (h2 : t ≠ 5) (h3 : t ≠ 3) (hf : Fr [k] wr w') : DiskAt w' p g m d := by
  have hfar := h.faraway hb h1 h2
  simp at hfar
  exact h.fr hf (hb.noZ h3) (by simp; omega) (by simp; omega) (by simp; omega)
theorem RD.row {q k : Nat} {d : Dk} (h : RD wr q d) {t : TypeId} {cs : Array Value} (hb : Blk wr k t cs) (h1 : t ≠ 127) (h2 : t ≠ 129) (h3 : t ≠ 3) (hf : Fr [k] wr w') : RD w' q d := by
  obtain ⟨cs', hb'⟩ := h.blk
  exact h.fr hf (by simp; exact fun e => h1 (by subst e; exact ((hb.eq hb').1))) (hb.noO h2) (hb.noZ h3)
/-- A clone was made, and lies in no row yet. -/
structure Cl1 (w wr : World) (N B p g m : Nat) (d : Dk) (P Q : Nat → Nat) (Z : Nat → List Nat) (D : Nat → Dk) : Prop where
  du : Duos w wr N P Q Z D
  lt : ∀ i, i < N → ∀ k, k ∈ Z i → k < B
  b : w.heap.size ≤ B
  at_ : DiskAt wr p g m d
  h1 : B ≤ p
  h2 : B ≤ g
  h3 : B ≤ m
  hs : B ≤ wr.heap.size
theorem Cl1.to {B p g m : Nat} {d : Dk} (h : Cl1 w wr N B p g m d P Q Z D) (hf : Fr [] wr w') : Cl1 w w' N B p g m d P Q Z D := ⟨h.du.to hf, h.lt, h.b, h.at_.to hf, h.h1, h.h2, h.h3, Nat.le_trans h.hs hf.size⟩
theorem Cl1.row {B p g m k : Nat} {d : Dk} (h : Cl1 w wr N B p g m d P Q Z D) {t : TypeId} {cs : Array Value} (hb : Blk wr k t cs) (hk : w.heap.size ≤ k) (h1 : t ≠ 110) (h2 : t ≠ 5) (h3 : t ≠ 127) (h4 : t ≠ 129) (h5 : t ≠ 3) (hf : Fr [k] wr w') : Cl1 w w' N B p g m d P Q Z D := ⟨h.du.row hb hk h1 h2 h3 h4 h5 hf, h.lt, h.b, h.at_.row hb h1 h2 h5 hf, h.h1, h.h2, h.h3, Nat.le_trans h.hs hf.size⟩
theorem DoI.cl1 (h : DoI w wr N P Q Z D gx cx gy cy) {p g m : Nat} {d : Dk} (hf : Fr [] wr w') (ha : DiskAt w' p g m d) (h1 : wr.heap.size ≤ p) (h2 : wr.heap.size ≤ g) (h3 : wr.heap.size ≤ m) : Cl1 w w' N wr.heap.size p g m d P Q Z D := ⟨h.du.to hf, fun i hi => h.du.lt hi, h.fr.size, ha, h1, h2, h3, hf.size⟩
/-- A row has grown. -/
theorem grown_row {W W' : World} {e : TypeId} {g c : Nat} {xs : List Value} (h : W.ownsRow w.heap.size e 1 (.slice (some ⟨g, 0, none⟩) N c) N xs) (hg : W.grownBy W' (Value.ownBlock (.slice (some ⟨g, 0, none⟩) N c))) : Fr [g] W W' ∧ w.heap.size ≤ g ∧ ∃ cs, Blk W g e cs := by
  obtain ⟨h1, h2⟩ := own_blk' h
  exact ⟨(Fr.of_own hg).mono (fun k hk _ => by simpa [Value.ownBlock] using hk), h1, h2⟩
end
/-- A clone under way. -/
structure ClA (w W : World) (N bX B p g m : Nat) (cs : Array Value) (d : Dk) (P P' Q : Nat → Nat) (Z : Nat → List Nat) (D : Nat → Dk) (M gx cx gy cy : Nat) : Prop where
  cl : Cl1 w W N B p g m d P Q Z D
  xs : W.ownsRow w.heap.size 36 1 (.slice (some ⟨gx, 0, none⟩) M cx) M (ptrs P' M)
  ys : W.ownsRow w.heap.size 61 1 (.slice (some ⟨gy, 0, none⟩) N cy) N (ptrs Q N)
  bx : Blk W bX 94 cs
section
variable {w W W' : World} {N bX B p g m k r : Nat} {cs : Array Value} {d : Dk} {P P' Q : Nat → Nat} {Z : Nat → List Nat} {D : Nat → Dk} {M gx cx gy cy : Nat}
theorem ClA.to (h : ClA w W N bX B p g m cs d P P' Q Z D M gx cx gy cy) (hf : Fr [] W W') : ClA w W' N bX B p g m cs d P P' Q Z D M gx cx gy cy := ⟨h.cl.to hf, own_fr h.xs hf (by simp), own_fr h.ys hf (by simp), h.bx.fr hf (by simp)⟩
theorem DoI.clA (h : DoI w W N P Q Z D gx cx gy cy) (hb : Blk W bX 94 cs) (hf : Fr [] W W') (ha : DiskAt W' p g m d) (h1 : W.heap.size ≤ p) (h2 : W.heap.size ≤ g) (h3 : W.heap.size ≤ m) : ClA w W' N bX W.heap.size p g m cs d P P Q Z D N gx cx gy cy := ⟨h.cl1 hf ha h1 h2 h3, own_fr h.xs hf (by simp), own_fr h.ys hf (by simp), hb.fr hf (by simp)⟩
/-- What an append onto the rows is given. -/
theorem ClA.size (h : ClA w W N bX B p g m cs d P P' Q Z D M gx cx gy cy) : w.heap.size ≤ W.heap.size := h.cl.du.fr.size
theorem ClA.pushx (h : ClA w W N bX B p g m cs d P P Q Z D N gx cx gy cy) {v : Value} (ho : W'.ownsRow w.heap.size 36 1 v (N + 1) (ptrs P N ++ [ptr p])) (hg : W.grownBy W' (Value.ownBlock (.slice (some ⟨gx, 0, none⟩) N cx))) : ∃ gx' cx', v = .slice (some ⟨gx', 0, none⟩) (N + 1) cx' ∧ ClA w W' N bX B p g m cs d P (at1 P N p) Q Z D (N + 1) gx' cx' gy cy := by
  obtain ⟨hf, hw, cs0, hb⟩ := grown_row h.xs hg
  obtain ⟨gx', cx', rfl⟩ := own_succ ho
  refine ⟨gx', cx', rfl, h.cl.row hb hw (by decide) (by decide) (by decide) (by decide) (by decide) hf, by rw [ptrs_push]; exact ho, own_fr h.ys hf (fun j hj cs2 hb2 => ?_), h.bx.fr hf ?_⟩
  · simp at hj
    subst hj
    exact absurd (hb.eq hb2).1 (by decide)
  · simp
    rintro rfl
    exact absurd (hb.eq h.bx).1 (by decide)
theorem ClA.pushy (h : ClA w W N bX B p g m cs d P (at1 P N p) Q Z D (N + 1) gx cx gy cy) (hr : RD W r d) (hBr : B ≤ r) {v : Value} (ho : W'.ownsRow w.heap.size 61 1 v (N + 1) (ptrs Q N ++ [ptr r])) (hg : W.grownBy W' (Value.ownBlock (.slice (some ⟨gy, 0, none⟩) N cy))) : ∃ gy' cy', v = .slice (some ⟨gy', 0, none⟩) (N + 1) cy' ∧ DoI w W' (N + 1) (at1 P N p) (at1 Q N r) (at1 Z N [p, g, m, r]) (at1 D N d) gx cx gy' cy' ∧ Blk W' bX 94 cs := by
  obtain ⟨hf, hw, cs0, hb⟩ := grown_row h.ys hg
  obtain ⟨gy', cy', rfl⟩ := own_succ ho
  have h' := h.cl.row hb hw (by decide) (by decide) (by decide) (by decide) (by decide) hf
  refine ⟨gy', cy', rfl, ⟨h'.du.push2 h'.lt h'.b h'.at_ (hr.row hb (by decide) (by decide) (by decide) hf) h'.h1 h'.h2 h'.h3 hBr, by omega, own_fr h.xs hf (fun j hj cs2 hb2 => ?_), by rw [ptrs_push]; exact ho⟩, h.bx.fr hf ?_⟩
  · simp at hj
    subst hj
    exact absurd (hb.eq hb2).1 (by decide)
  · simp
    rintro rfl
    exact absurd (hb.eq h.bx).1 (by decide)
theorem ClA.rd (h : ClA w W N bX B p g m cs d P P' Q Z D M gx cx gy cy) (hk : k < N) : RD W (Q k) (D k) := by
  obtain ⟨g', m', -, -, hr⟩ := h.cl.du.pair k hk
  exact hr
end
/-- A row of one, just made. -/
theorem own_made1 (w : World) (base : Nat) (e : TypeId) (x : Value) (hb : base ≤ w.heap.size) : (w.alloc (.cells #[x] e)).ownsRow base e 1 (.slice (some ⟨w.heap.size, 0, none⟩) 1 1) 1 [x] :=
  ⟨by simp, .inr ⟨w.heap.size, 1, #[x], rfl, hb, Blk.new w e #[x], Nat.le_refl _, by simp [maxLen], by simp, by simp⟩⟩
end Go.Proofs.Ythmnloapjdalpaa
