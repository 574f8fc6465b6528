/- SchedLies: the walk where the tick is one. -/
import Derived.Test.YtnpdljmgjpngaaaL2
import Derived.StillTailTactics
namespace Go.Proofs.Ytnpdljmgjpngaaa
open Go.RowKit
attribute [local go_sem] Oper.semAt_some
set_option linter.unusedVariables false
set_option linter.unusedSimpArgs false

/-- A call that leaves what was there, and whose results are known. -/
def Tells (f : FuncId) (args : Array Value) (v : Value) (A : Option Addr) (n cap : Nat) (l : List Win) : Prop := ∀ w, WinsIn w (.slice A n cap) l → Calls Try.prog f args w fun e w' => e = .returned v ∧ Fr [] w w'

set_option maxRecDepth 100000 in
set_option maxHeartbeats 4000000 in
theorem lies_core (A : Option Addr) (n cap : Nat) (l : List Win) (t M o M' k' o' L : Int) (k : Nat) (x : Win) (w : World) (h : WinsIn w (.slice A n cap) l)
    (HA : Tells 12 #[.slice A n cap, .int .i64 t] (.tuple #[.agg #[.int .i64 M, .int .i64 k, .int .i64 o], .int .i64 0]) A n cap l)
    (HB : Tells 12 #[.slice A n cap, .int .i64 (t + 1)] (.tuple #[.agg #[.int .i64 M', .int .i64 k', .int .i64 o'], .int .i64 0]) A n cap l)
    (HL : Tells 8 #[.slice A n cap] (.tuple #[.int .i64 L, .int .i64 0]) A n cap l)
    (HC : Tells 11 #[.slice A n cap] (.int .i64 0) A n cap l)
    (hx : l[k]? = some x) (h1 : 0 ≤ t) (h2 : t < 1099511627776) (hkn : (k : Int) < n) (hn : n ≤ 64) (ho0 : 0 ≤ o) (ho1 : o < x.T) (hT : x.T ≤ 255) (hL0 : 0 < L) (hL1 : L ≤ 16320) (hM0 : 0 ≤ M) (hM1 : M ≤ t) (hdiv : t.tdiv L = M)
    (hcase : (o + 1 < x.T ∧ M' = M ∧ k' = k ∧ o' = o + 1) ∨ (o + 1 = x.T ∧ (k : Int) + 1 < n ∧ M' = M ∧ k' = k + 1 ∧ o' = 0) ∨ (o + 1 = x.T ∧ (k : Int) + 1 = n ∧ M' = M + 1 ∧ k' = 0 ∧ o' = 0)) :
    Calls Try.prog 5 #[.slice A n cap, .int .i64 t] w fun e w' => e = .returned (.bool true) ∧ Fr [] w w' := by
  have H := Lib.hid h
  have Hx := Lib.hid hx
  clear h hx
  have hLne : ¬ L = 0 := by omega
  have Hdiv := Lib.hid hdiv
  clear hdiv
  go_enter Try.func5, Try.ntmps5
  go_wp2_with fail
  refine (HA _ H.out).mono ?_
  rintro e w1 ⟨rfl, hf1⟩
  have b1 := Blk.new w1 30 #[.int .i64 M, .int .i64 k, .int .i64 o]
  have g1 := hf1.alloc (.cells #[.int .i64 M, .int .i64 k, .int .i64 o] 30)
  go_wp2_with fail
  refine (HC _ (H.out.fr g1)).mono ?_
  rintro e w2 ⟨rfl, hf2⟩
  have b2 := b1.fr hf2 (by simp)
  have g2 := g1.trans hf2
  go_wp2_with fail
  refine (HB _ (H.out.fr g2)).mono ?_
  rintro e w3 ⟨rfl, hf3⟩
  have b3 := b2.fr hf3 (by simp)
  have q3 := Blk.new w3 30 #[.int .i64 M', .int .i64 k', .int .i64 o']
  have g3 := g2.trans hf3
  obtain ⟨b, off, hA, hbl, c0, c1, c2⟩ := (H.out.fr g3).at_ Hx.out
  subst hA
  clear c0 c1
  have p0 := b3.cell 0
  have p1 := b3.cell 1
  have p2 := b3.cell 2
  have hs1 := b3.lt
  have hbw : b < w3.heap.size := World.block_lt_of_cell? w3 _ c2
  simp at p0 p1 p2
  have d1 : decide ((k : Int) < 0) = false := by simp
  have d2 : decide ((n : Int) ≤ (k : Int)) = false := by simp; omega
  have d2n : decide (n ≤ k) = false := by simp; omega
  have d3 : decide (o < 0) = false := by simp; omega
  have d4 : decide (x.T ≤ o) = false := by simp; omega
  have hm : Try.prog.follows .mixedOrders = true := by kernel_rfl
  clear b1 g1 hf2 b2 hf1 g2 hf3 HA HB hbl
  have hw3 := g3.size
  rcases hcase with ⟨e1, hM', rfl, rfl⟩ | ⟨e1, e2, hM', rfl, rfl⟩ | ⟨e1, e2, hM', rfl, rfl⟩
  · subst hM'
    have Hc := Lib.hid e1
    clear e1
    have dn : (o + 1 == x.T) = false := by rw [beq_eq_false_iff_ne]; have := Hc.out; omega
    have dk : ((k : Int) == (n : Int)) = false := by rw [beq_eq_false_iff_ne]; omega
    have dkn : (k == n) = false := by rw [beq_eq_false_iff_ne]; omega
    go_wp2
    go_quiet (fail)
    have b4 := ((b3.alloc (.cells #[.int .i64 M', .int .i64 k, .int .i64 (o + 1)] 30)).drewN nq).alloc (.cells #[.int .i64 M', .int .i64 k, .int .i64 (o + 1)] 30)
    have q4 := (q3.drewN nq).alloc (.cells #[.int .i64 M', .int .i64 k, .int .i64 (o + 1)] 30)
    have n4 := Blk.new ((w3.alloc (.cells #[.int .i64 M', .int .i64 k, .int .i64 (o + 1)] 30)).drewN nq) 30 #[.int .i64 M', .int .i64 k, .int .i64 (o + 1)]
    have g4 := ((g3.alloc (.cells #[.int .i64 M', .int .i64 k, .int .i64 (o + 1)] 30)).drewN nq).alloc (.cells #[.int .i64 M', .int .i64 k, .int .i64 (o + 1)] 30)
    have c4 : (((w3.alloc (.cells #[.int .i64 M', .int .i64 k, .int .i64 (o + 1)] 30)).drewN nq).alloc (.cells #[.int .i64 M', .int .i64 k, .int .i64 (o + 1)] 30)).cell? ⟨b, off + k * 3 + 2, none⟩ = some (.int .i64 x.T) := ((((Fr.refl [] w3).alloc _).drewN nq).alloc _).cell_some c2 (by simp)
    go_wp2
    have hnz : ((w3.alloc (.cells #[.int .i64 M', .int .i64 k, .int .i64 (o + 1)] 30)).drewN nq).heap.size = w3.heap.size + 1 := by simp [World.drewN]
    rw [hnz] at n4
    obtain ⟨W4, hW4⟩ : ∃ W4, ((w3.alloc (.cells #[.int .i64 M', .int .i64 k, .int .i64 (o + 1)] 30)).drewN nq).alloc (.cells #[.int .i64 M', .int .i64 k, .int .i64 (o + 1)] 30) = W4 := ⟨_, rfl⟩
    rw [hW4] at b4 q4 n4 g4 c4 ⊢
    clear hW4 hnz p0 p1 p2 c2
    have p0 := b4.cell 0
    have p1 := b4.cell 1
    have p2 := b4.cell 2
    have q0 := q4.cell 0
    have q1 := q4.cell 1
    have q2 := q4.cell 2
    have n0 := n4.cell 0
    have n1 := n4.cell 1
    have n2 := n4.cell 2
    have nf := n4.frozen
    simp at p0 p1 p2 q0 q1 q2 n0 n1 n2
    go_quiet (fail)
    go_wp2_with fail
    refine (HL _ (H.out.fr (g4.drewN nq))).mono ?_
    rintro e w5 ⟨rfl, hf5⟩
    have b5 := (b4.drewN nq).fr hf5 (by simp)
    have q5 := (q4.drewN nq).fr hf5 (by simp)
    have n5 := (n4.drewN nq).fr hf5 (by simp)
    have g5 := (g4.drewN nq).trans hf5
    clear p0 p1 p2 q0 q1 q2 n0 n1 n2 nf
    have p0 := b5.cell 0
    have q0 := q5.cell 0
    have q1 := q5.cell 1
    have q2 := q5.cell 2
    have n0 := n5.cell 0
    have n1 := n5.cell 1
    have n2 := n5.cell 2
    simp at p0 q0 q1 q2 n0 n1 n2
    go_wp2_with fail
    have hdv := Hdiv.out
    go_still_tail 12, (by kernel_rfl)
    change wpList _ _ _ _ _ w5.drew
    go_wp2_with fail
    refine (fixed_any _).mono ?_
    rintro e w6 ⟨rfl, hf6⟩
    go_wp2_with fail
    go_ret
    exact ⟨rfl, g5.drew.trans hf6⟩
  · subst hM'
    have Hc := Lib.hid e1
    have He2 := Lib.hid e2
    clear e1 e2
    have dn : (o + 1 == x.T) = true := by rw [beq_iff_eq]; have := Hc.out; omega
    have dk : ((k : Int) + 1 == (n : Int)) = false := by rw [beq_eq_false_iff_ne]; have := He2.out; omega
    go_wp2
    go_quiet (fail)
    have b4 := ((b3.alloc (.cells #[.int .i64 M', .int .i64 (k + 1), .int .i64 0] 30)).drewN nq).alloc (.cells #[.int .i64 M', .int .i64 k, .int .i64 (o + 1)] 30)
    have q4 := (q3.drewN nq).alloc (.cells #[.int .i64 M', .int .i64 k, .int .i64 (o + 1)] 30)
    have n4 := Blk.new ((w3.alloc (.cells #[.int .i64 M', .int .i64 (k + 1), .int .i64 0] 30)).drewN nq) 30 #[.int .i64 M', .int .i64 k, .int .i64 (o + 1)]
    have g4 := ((g3.alloc (.cells #[.int .i64 M', .int .i64 (k + 1), .int .i64 0] 30)).drewN nq).alloc (.cells #[.int .i64 M', .int .i64 k, .int .i64 (o + 1)] 30)
    have c4 : (((w3.alloc (.cells #[.int .i64 M', .int .i64 (k + 1), .int .i64 0] 30)).drewN nq).alloc (.cells #[.int .i64 M', .int .i64 k, .int .i64 (o + 1)] 30)).cell? ⟨b, off + k * 3 + 2, none⟩ = some (.int .i64 x.T) := ((((Fr.refl [] w3).alloc _).drewN nq).alloc _).cell_some c2 (by simp)
    go_wp2
    have hnz : ((w3.alloc (.cells #[.int .i64 M', .int .i64 (k + 1), .int .i64 0] 30)).drewN nq).heap.size = w3.heap.size + 1 := by simp [World.drewN]
    rw [hnz] at n4
    obtain ⟨W4, hW4⟩ : ∃ W4, ((w3.alloc (.cells #[.int .i64 M', .int .i64 (k + 1), .int .i64 0] 30)).drewN nq).alloc (.cells #[.int .i64 M', .int .i64 k, .int .i64 (o + 1)] 30) = W4 := ⟨_, rfl⟩
    rw [hW4] at b4 q4 n4 g4 c4 ⊢
    clear hW4 hnz p0 p1 p2 c2
    have p0 := b4.cell 0
    have p1 := b4.cell 1
    have p2 := b4.cell 2
    have q0 := q4.cell 0
    have q1 := q4.cell 1
    have q2 := q4.cell 2
    have n0 := n4.cell 0
    have n1 := n4.cell 1
    have n2 := n4.cell 2
    have nf := n4.frozen
    simp at p0 p1 p2 q0 q1 q2 n0 n1 n2
    go_quiet (fail)
    go_wp2_with fail
    refine (HL _ (H.out.fr (((g4.drewN nq).setCell (p := ⟨w3.heap.size + 1, 2, none⟩) (.inr (by show w.heap.size ≤ w3.heap.size + 1; omega)) (.int .i64 0)).setCell (p := ⟨w3.heap.size + 1, 1, none⟩) (.inr (by show w.heap.size ≤ w3.heap.size + 1; omega)) (.int .i64 ((k : Int) + 1))))).mono ?_
    rintro e w5 ⟨rfl, hf5⟩
    have b5 := (((b4.drewN nq).far (p := ⟨w3.heap.size + 1, 2, none⟩) (by show w1.heap.size ≠ w3.heap.size + 1; omega) (.int .i64 0)).far (p := ⟨w3.heap.size + 1, 1, none⟩) (by show w1.heap.size ≠ w3.heap.size + 1; omega) (.int .i64 ((k : Int) + 1))).fr hf5 (by simp)
    have q5 := (((q4.drewN nq).far (p := ⟨w3.heap.size + 1, 2, none⟩) (by show w3.heap.size ≠ w3.heap.size + 1; omega) (.int .i64 0)).far (p := ⟨w3.heap.size + 1, 1, none⟩) (by show w3.heap.size ≠ w3.heap.size + 1; omega) (.int .i64 ((k : Int) + 1))).fr hf5 (by simp)
    have n5 := (((n4.drewN nq).set_ 2 (.int .i64 0)).set_ 1 (.int .i64 ((k : Int) + 1))).fr hf5 (by simp)
    have g5 := (((g4.drewN nq).setCell (p := ⟨w3.heap.size + 1, 2, none⟩) (.inr (by show w.heap.size ≤ w3.heap.size + 1; omega)) (.int .i64 0)).setCell (p := ⟨w3.heap.size + 1, 1, none⟩) (.inr (by show w.heap.size ≤ w3.heap.size + 1; omega)) (.int .i64 ((k : Int) + 1))).trans hf5
    clear p0 p1 p2 q0 q1 q2 n0 n1 n2 nf
    have p0 := b5.cell 0
    have q0 := q5.cell 0
    have q1 := q5.cell 1
    have q2 := q5.cell 2
    have n0 := n5.cell 0
    have n1 := n5.cell 1
    have n2 := n5.cell 2
    simp at p0 q0 q1 q2 n0 n1 n2
    go_wp2_with fail
    have hdv := Hdiv.out
    go_still_tail 12, (by kernel_rfl)
    change wpList _ _ _ _ _ w5.drew
    go_wp2_with fail
    refine (fixed_any _).mono ?_
    rintro e w6 ⟨rfl, hf6⟩
    go_wp2_with fail
    go_ret
    exact ⟨rfl, g5.drew.trans hf6⟩
  · subst hM'
    have Hc := Lib.hid e1
    have He2 := Lib.hid e2
    clear e1 e2
    have dn : (o + 1 == x.T) = true := by rw [beq_iff_eq]; have := Hc.out; omega
    have dk : ((k : Int) + 1 == (n : Int)) = true := by rw [beq_iff_eq]; have := He2.out; omega
    go_wp2
    go_quiet (fail)
    have b4 := ((b3.alloc (.cells #[.int .i64 (M + 1), .int .i64 0, .int .i64 0] 30)).drewN nq).alloc (.cells #[.int .i64 M, .int .i64 k, .int .i64 (o + 1)] 30)
    have q4 := (q3.drewN nq).alloc (.cells #[.int .i64 M, .int .i64 k, .int .i64 (o + 1)] 30)
    have n4 := Blk.new ((w3.alloc (.cells #[.int .i64 (M + 1), .int .i64 0, .int .i64 0] 30)).drewN nq) 30 #[.int .i64 M, .int .i64 k, .int .i64 (o + 1)]
    have g4 := ((g3.alloc (.cells #[.int .i64 (M + 1), .int .i64 0, .int .i64 0] 30)).drewN nq).alloc (.cells #[.int .i64 M, .int .i64 k, .int .i64 (o + 1)] 30)
    have c4 : (((w3.alloc (.cells #[.int .i64 (M + 1), .int .i64 0, .int .i64 0] 30)).drewN nq).alloc (.cells #[.int .i64 M, .int .i64 k, .int .i64 (o + 1)] 30)).cell? ⟨b, off + k * 3 + 2, none⟩ = some (.int .i64 x.T) := ((((Fr.refl [] w3).alloc _).drewN nq).alloc _).cell_some c2 (by simp)
    go_wp2
    have hnz : ((w3.alloc (.cells #[.int .i64 (M + 1), .int .i64 0, .int .i64 0] 30)).drewN nq).heap.size = w3.heap.size + 1 := by simp [World.drewN]
    rw [hnz] at n4
    obtain ⟨W4, hW4⟩ : ∃ W4, ((w3.alloc (.cells #[.int .i64 (M + 1), .int .i64 0, .int .i64 0] 30)).drewN nq).alloc (.cells #[.int .i64 M, .int .i64 k, .int .i64 (o + 1)] 30) = W4 := ⟨_, rfl⟩
    rw [hW4] at b4 q4 n4 g4 c4 ⊢
    clear hW4 hnz p0 p1 p2 c2
    have p0 := b4.cell 0
    have p1 := b4.cell 1
    have p2 := b4.cell 2
    have q0 := q4.cell 0
    have q1 := q4.cell 1
    have q2 := q4.cell 2
    have n0 := n4.cell 0
    have n1 := n4.cell 1
    have n2 := n4.cell 2
    have nf := n4.frozen
    simp at p0 p1 p2 q0 q1 q2 n0 n1 n2
    go_quiet (fail)
    go_wp2_with fail
    refine (HL _ (H.out.fr (((((g4.drewN nq).setCell (p := ⟨w3.heap.size + 1, 2, none⟩) (.inr (by show w.heap.size ≤ w3.heap.size + 1; omega)) (.int .i64 0)).setCell (p := ⟨w3.heap.size + 1, 1, none⟩) (.inr (by show w.heap.size ≤ w3.heap.size + 1; omega)) (.int .i64 ((k : Int) + 1))).setCell (p := ⟨w3.heap.size + 1, 1, none⟩) (.inr (by show w.heap.size ≤ w3.heap.size + 1; omega)) (.int .i64 0)).setCell (p := ⟨w3.heap.size + 1, 0, none⟩) (.inr (by show w.heap.size ≤ w3.heap.size + 1; omega)) (.int .i64 (M + 1))))).mono ?_
    rintro e w5 ⟨rfl, hf5⟩
    have b5 := (((((b4.drewN nq).far (p := ⟨w3.heap.size + 1, 2, none⟩) (by show w1.heap.size ≠ w3.heap.size + 1; omega) (.int .i64 0)).far (p := ⟨w3.heap.size + 1, 1, none⟩) (by show w1.heap.size ≠ w3.heap.size + 1; omega) (.int .i64 ((k : Int) + 1))).far (p := ⟨w3.heap.size + 1, 1, none⟩) (by show w1.heap.size ≠ w3.heap.size + 1; omega) (.int .i64 0)).far (p := ⟨w3.heap.size + 1, 0, none⟩) (by show w1.heap.size ≠ w3.heap.size + 1; omega) (.int .i64 (M + 1))).fr hf5 (by simp)
    have q5 := (((((q4.drewN nq).far (p := ⟨w3.heap.size + 1, 2, none⟩) (by show w3.heap.size ≠ w3.heap.size + 1; omega) (.int .i64 0)).far (p := ⟨w3.heap.size + 1, 1, none⟩) (by show w3.heap.size ≠ w3.heap.size + 1; omega) (.int .i64 ((k : Int) + 1))).far (p := ⟨w3.heap.size + 1, 1, none⟩) (by show w3.heap.size ≠ w3.heap.size + 1; omega) (.int .i64 0)).far (p := ⟨w3.heap.size + 1, 0, none⟩) (by show w3.heap.size ≠ w3.heap.size + 1; omega) (.int .i64 (M + 1))).fr hf5 (by simp)
    have n5 := (((((n4.drewN nq).set_ 2 (.int .i64 0)).set_ 1 (.int .i64 ((k : Int) + 1))).set_ 1 (.int .i64 0)).set_ 0 (.int .i64 (M + 1))).fr hf5 (by simp)
    have g5 := (((((g4.drewN nq).setCell (p := ⟨w3.heap.size + 1, 2, none⟩) (.inr (by show w.heap.size ≤ w3.heap.size + 1; omega)) (.int .i64 0)).setCell (p := ⟨w3.heap.size + 1, 1, none⟩) (.inr (by show w.heap.size ≤ w3.heap.size + 1; omega)) (.int .i64 ((k : Int) + 1))).setCell (p := ⟨w3.heap.size + 1, 1, none⟩) (.inr (by show w.heap.size ≤ w3.heap.size + 1; omega)) (.int .i64 0)).setCell (p := ⟨w3.heap.size + 1, 0, none⟩) (.inr (by show w.heap.size ≤ w3.heap.size + 1; omega)) (.int .i64 (M + 1))).trans hf5
    clear p0 p1 p2 q0 q1 q2 n0 n1 n2 nf
    have p0 := b5.cell 0
    have q0 := q5.cell 0
    have q1 := q5.cell 1
    have q2 := q5.cell 2
    have n0 := n5.cell 0
    have n1 := n5.cell 1
    have n2 := n5.cell 2
    simp at p0 q0 q1 q2 n0 n1 n2
    go_wp2_with fail
    have hdv := Hdiv.out
    go_still_tail 12, (by kernel_rfl)
    change wpList _ _ _ _ _ w5.drew
    go_wp2_with fail
    refine (fixed_any _).mono ?_
    rintro e w6 ⟨rfl, hf6⟩
    go_wp2_with fail
    go_ret
    exact ⟨rfl, g5.drew.trans hf6⟩
end Go.Proofs.Ytnpdljmgjpngaaa
