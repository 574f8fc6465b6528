/- The reference's disk: New. -/
import Derived.Test.YthmnloapjdalpaaK7
import Derived.Deep.RegionLaw
namespace Go.Proofs.Ythmnloapjdalpaa
open Go.RowKit
set_option linter.unusedVariables false
set_option linter.unusedSimpArgs false
def RNewP (w : World) (t : ByteArray) (e : Ending) (w' : World) : Prop := ∃ q, e = .returned (.tuple #[ptr q, .int .i64 0]) ∧ RD w' q (newD t) ∧ Fr [] w w' ∧ w.heap.size ≤ q
/-- The row so far. -/
structure NewR (w wr : World) (t : ByteArray) (A : Option Addr) (k c : Nat) : Prop where
  blk : Blk wr w.heap.size 127 #[.slice A k c, .int .i64 0, .slice none 0 0, .bool false]
  fr : Fr [] w wr
  row : ∃ lo, lo.length = k ∧ wr.ownsRow (w.heap.size + 1) 129 3 (.slice A k c) k (ocs lo) ∧ ∀ (i : Nat) (o : One), lo[i]? = some o → OneIs o (newD t) i
theorem newOne {t : ByteArray} {k : Nat} (h : k * 128 + 128 ≤ t.size) : OneIs ⟨t.extract (128 * k) (128 * k + 128), ⟨#[]⟩, false⟩ (newD t) k := by
  refine ⟨?_, rfl, fun s hs => by cases hs⟩
  show t.extract (128 * k) (128 * k + 128) = bs (at8 t) (k * 128) 128
  have := bs_extract (at8 t) 0 t.size (128 * k) (128 * k + 128) (by omega) (by omega)
  rw [bs_all] at this
  rw [this, Nat.zero_add, Nat.mul_comm, Nat.add_sub_cancel_left]
theorem NewR.done {w wr : World} {t : ByteArray} {A : Option Addr} {k c : Nat} (h : NewR w wr t A k c) (ht : newE t = 0) (hk : k = (newD t).n) : RD wr w.heap.size (newD t) := by
  obtain ⟨hb, hf, lo, hlo, ho, hq⟩ := h
  have hok := newD_ok ht
  have h1 := hok.n1
  have ho' : OOwn (w.heap.size + 1) wr (.slice A k c) lo := by unfold OOwn; rw [hlo]; exact ho
  obtain ⟨g, cap, hv, hg, c1, c2, hB⟩ := ho'.ob (fun hh => by rw [hh] at hlo; simp at hlo; omega)
  refine ⟨hok, _, _, lo, hb, ?_, ⟨by rw [hlo, hk], hq⟩, Zs.nil wr⟩
  rw [hv]
  exact hB.os c1 c2
set_option maxRecDepth 100000 in
set_option maxHeartbeats 2000000 in
theorem rNew_ok (t : ByteArray) (w : World) (h : newE t = 0) : Calls Try.prog 35 #[.string t] w (RNewP w t) := by
  obtain ⟨i0, hi0, hz0, hz1, hz2⟩ := info3 Try.info129
  obtain ⟨e1, e2, e3⟩ := newE_ok h
  have HT := Lib.hid h
  have hdv : ((t.size : Nat) : Int).tdiv 128 = ((t.size / 128 : Nat) : Int) := by rw [Int.tdiv_eq_ediv_of_nonneg (by omega)]; omega
  have hNd : (newD t).n = t.size / 128 := rfl
  obtain ⟨N, hN⟩ : ∃ N, t.size / 128 = N := ⟨_, rfl⟩
  rw [hN] at hdv hNd
  have hn1 : 1 ≤ N := by omega
  have hn2 : N ≤ 4096 := by omega
  have hns : N * 128 = t.size := by omega
  have hm : IntKind.i64.wrap ((N : Int) * 128) = (N : Int) * 128 := IntWalk.i64_in _ (by omega)
  have d1 : ¬ (N : Int) < 1 := by omega
  have d2 : (N : Int) * 128 = (t.size : Int) := by omega
  have d3 : ¬ (4096 : Int) < (N : Int) := by omega
  have HNd := Lib.hid hNd
  have Hns := Lib.hid hns
  have Hb0 := Lib.hid (Blk.new w 127 #[.slice none 0 0, .int .i64 0, .slice none 0 0, .bool false])
  have Hf0 := Lib.hid ((Fr.refl [] w).alloc (.cells #[.slice none 0 0, .int .i64 0, .slice none 0 0, .bool false] 127))
  have HS : Hid (NewR w (w.alloc (.cells #[.slice none 0 0, .int .i64 0, .slice none 0 0, .bool false] 127)) t none 0 0) := Lib.hid ⟨Hb0.out, Hf0.out, [], rfl, World.ownsRow_nil _ _ _ _, fun i o hi => by simp at hi⟩
  clear h hN e1 e2 e3 hNd hns
  go_enter Try.func35, Try.ntmps35
  go_wp2_with fail
  go_loopg [6] N (fun gg i wr => ∃ (k : Nat) (A : Option Addr) (c : Nat), k + gg = N ∧ i = .int .i64 (k : Int) ∧ NewR w wr t A k c)
  case atStart => exact ⟨0, none, 0, by omega, rfl, HS.out⟩
  case round =>
    obtain ⟨k, A, c, hk, rfl, hR⟩ := hrel
    have Hk := Lib.hid hk
    have HR := Lib.hid hR
    clear HS Hb0 Hf0
    by_cases hlt : k < N
    · have hki : (k : Int) < (N : Int) := by omega
      have hk0 : (0 : Int) ≤ (k : Int) := by omega
      have hwk : IntKind.i64.wrap ((k : Int) + 1) = (k : Int) + 1 := IntWalk.i64_in _ (by omega)
      have hw1 : IntKind.i64.wrap (128 * (k : Int)) = 128 * (k : Int) := IntWalk.i64_in _ (by omega)
      have hw2 : IntKind.i64.wrap (128 * (k : Int) + 128) = 128 * (k : Int) + 128 := IntWalk.i64_in _ (by omega)
      have hkt : k * 128 + 128 ≤ t.size := by have := Hns.out; omega
      have hsl := fun wx => sl_lh t (128 * k) (128 * k + 128) (128 * (k : Int)) (128 * (k : Int) + 128) (by omega) (by omega) wx (by omega) (by omega)
      have HO := Lib.hid (newOne hkt)
      obtain ⟨hb, hf, lo, hlo, ho, hq⟩ := hR
      have c0 := hb.cell 0
      simp at c0
      have fz := hb.frozen 0
      have Hlt := Lib.hid hb.lt
      generalize t.extract (128 * k) (128 * k + 128) = S at *
      have Hq := Lib.hid hq
      have Hlo := Lib.hid hlo
      have HB := Lib.hid hb
      have HF := Lib.hid hf
      have HW := Lib.hid ho
      have hm1 : k + 1 ≤ maxLen := by simp only [maxLen]; omega
      have hm2 : (k + 1) * 40 ≤ 140737488355328 := by omega
      clear hk hb hf ho hq hlo HR hkt
      have hF3 : Fr [] wr (wr.alloc (.cells #[.string S, .string ⟨#[]⟩, .bool false] 129)).drew := ((Fr.refl [] wr).alloc _).drew
      have Hns : Hid (∀ (j : Nat) (u : Value), (ocs [⟨S, ⟨#[]⟩, false⟩])[j]? = some u → ((wr.alloc (.cells #[.string S, .string ⟨#[]⟩, .bool false] 129)).drew).cell? ((⟨wr.heap.size, 0, none⟩ : Addr).add j) = some u) := Lib.hid (newsO wr ⟨S, ⟨#[]⟩, false⟩)
      have HW2 := Lib.hid (own_fr HW.out hF3 (by simp))
      have c0a := ((Fr.refl [] wr).alloc (.cells #[.string S, .string ⟨#[]⟩, .bool false] 129)).cell_some c0 (by simp)
      have HF3 := Lib.hid hF3
      clear hF3
      have hbs : w.heap.size + 1 ≤ ((wr.alloc (.cells #[.string S, .string ⟨#[]⟩, .bool false] 129)).drew).heap.size := by have := Hlt.out; show _ ≤ (wr.alloc _).heap.size; rw [World.size_alloc]; omega
      have hbt : wr.heap.size + 1 = ((wr.alloc (.cells #[.string S, .string ⟨#[]⟩, .bool false] 129)).drew).heap.size := by show _ = (wr.alloc _).heap.size; rw [World.size_alloc]
      go_wp2_with fail
      go_region_law (first
        | (refine step_append_lies _ rfl (.tmp 34) (.tmp 43) 125 rfl (w.heap.size + 1) 129 i0 (.agg #[.string ⟨#[]⟩, .string ⟨#[]⟩, .bool false]) 3 40 Try.underlying125 hi0 hz0 hz1 hz2 rfl (Nat.succ_pos 2) (.slice A k c) k (ocs lo) (by simp [Act.eval]) HW2.out ⟨wr.heap.size, 0, none⟩ 1 1 (ocs [⟨S, ⟨#[]⟩, false⟩]) (by simp [Act.eval]) (ocs_len _) Hns.out (ocs_one _) (Nat.succ_pos 0) hm1 hm2 hbs (wr.heap.size + 1) hbt.symm ?_
           intro g cc w4 ho4 hg4 hat4 hlt4
           have hB4 := (HB.out.fr HF3.out (by simp)).fr (Fr.of_own hg4) (fun hk => by have := (own_blk HW2.out _ hk).1; omega)
           have hF4 : Fr [] w w4 := (HF.out.trans HF3.out).step (Fr.of_own hg4) (fun j hj => .inr (by have := (own_blk HW2.out _ hj).1; omega))
           have hc4 := hB4.cell 0
           have hfz4 := hB4.frozen 0
           simp at hc4)
        | fail)
      all_goals
        have hbs4 := hB4.set_ 0 (.slice (some ⟨g, 0, none⟩) (k + 1) cc)
        have HR5 : Hid (NewR w (w4.setCell ⟨w.heap.size, 0, none⟩ (.slice (some ⟨g, 0, none⟩) (k + 1) cc)) t (some ⟨g, 0, none⟩) (k + 1) cc) := Lib.hid ⟨hbs4, hF4.setCell (p := ⟨w.heap.size, 0, none⟩) (.inr (Nat.le_refl _)) _, lo ++ [⟨S, ⟨#[]⟩, false⟩], by rw [List.length_append, Hlo.out]; rfl, by
          rw [ocs_app]
          exact own_fr ho4 ((Fr.refl [w.heap.size] w4).setCell (p := ⟨w.heap.size, 0, none⟩) (.inl (by simp)) (.slice (some ⟨g, 0, none⟩) (k + 1) cc)) (fun j hj cs hbj => by
            simp at hj
            subst hj
            exact absurd (hB4.eq hbj).1 (by decide)), fun i o hi => by
          rw [List.getElem?_append] at hi
          split at hi
          · exact Hq.out i o hi
          · have : i = lo.length := by
              have := (List.getElem?_eq_some_iff.1 hi).1
              simp at this
              omega
            subst this
            simp at hi
            subst hi
            rw [Hlo.out]
            exact HO.out⟩
        clear ho4 hg4 hat4 hlt4 hB4 hF4 hbs4 hc4 hfz4
        go_wp2_with fail
        go_roundg (N - (k + 1))
        case measure => have := Hk.out; omega
        case rel => exact ⟨k + 1, some ⟨g, 0, none⟩, cc, by have := Hk.out; omega, by go_num, HR5.out⟩
    · have hki : ¬ (k : Int) < (N : Int) := by omega
      obtain rfl : N = k := by omega
      have HD := Lib.hid (hR.done HT.out HNd.out.symm)
      have HF := Lib.hid hR.fr
      clear hk hR HR
      go_wp2_with fail
      go_ret2
      exact ⟨w.heap.size, rfl, HD.out, HF.out, Nat.le_refl _⟩
end Go.Proofs.Ythmnloapjdalpaa
