/- SchedLies: the plain law and the walk. -/
import Derived.Test.YtnpdljmgjpngaaaL0
namespace Go.Proofs.Ytnpdljmgjpngaaa
open Go.RowKit
set_option linter.unusedVariables false
set_option linter.unusedSimpArgs false

theorem at_good (A : Option Addr) (n cap : Nat) (l : List Win) (t : Int) (hn : n ≤ 4611686018427387904) (hok : okL l = true) (ht : badT t = false) {k : Nat} (hk : InWin l k (t % tot l l.length)) (w : World) (h : WinsIn w (.slice A n cap) l) :
    Calls Try.prog 12 #[.slice A n cap, .int .i64 t] w fun e w' => e = .returned (.tuple #[.agg #[.int .i64 (t / tot l l.length), .int .i64 k, .int .i64 (t % tot l l.length - tot l k)], .int .i64 0]) ∧ Fr [] w w' := by
  have := At_any A n cap l w t h hn
  rw [atP_of hok ht hk, atM, atE, hok, ht] at this
  exact this
theorem succ_same {L t : Int} (hL : 0 < L) (h : t % L + 1 < L) : (t + 1) / L = t / L ∧ (t + 1) % L = t % L + 1 := by
  have h1 := Int.emod_add_mul_ediv t L
  have r0 := Int.emod_nonneg t (show L ≠ 0 by omega)
  have h2 : t + 1 = (t % L + 1) + L * (t / L) := by omega
  constructor
  · rw [h2, Int.add_mul_ediv_left _ _ (by omega), Int.ediv_eq_zero_of_lt (by omega) h]
    omega
  · rw [h2, Int.add_mul_emod_self_left]
    exact Int.emod_eq_of_lt (by omega) h
theorem succ_next {L t : Int} (hL : 0 < L) (h : t % L + 1 = L) : (t + 1) / L = t / L + 1 ∧ (t + 1) % L = 0 := by
  have h1 := Int.emod_add_mul_ediv t L
  have h2 : t + 1 = L * (t / L + 1) := by rw [Int.mul_add]; omega
  constructor
  · rw [h2, Int.mul_ediv_cancel_left _ (by omega)]
  · rw [h2]; exact Int.mul_emod_right _ _
/-- Where the next tick lies: the three cases. -/
theorem next_tick {l : List Win} (hok : okL l = true) {t : Int} {k : Nat} (hk : InWin l k (t % tot l l.length)) :
    (t % tot l l.length + 1 < tot l (k + 1) ∧ (t + 1) / tot l l.length = t / tot l l.length ∧ InWin l k ((t + 1) % tot l l.length) ∧ (t + 1) % tot l l.length - tot l k = t % tot l l.length - tot l k + 1) ∨
    (t % tot l l.length + 1 = tot l (k + 1) ∧ k + 1 < l.length ∧ (t + 1) / tot l l.length = t / tot l l.length ∧ InWin l (k + 1) ((t + 1) % tot l l.length) ∧ (t + 1) % tot l l.length - tot l (k + 1) = 0) ∨
    (t % tot l l.length + 1 = tot l (k + 1) ∧ k + 1 = l.length ∧ (t + 1) / tot l l.length = t / tot l l.length + 1 ∧ InWin l 0 ((t + 1) % tot l l.length) ∧ (t + 1) % tot l l.length - tot l 0 = 0) := by
  obtain ⟨h1, h2, h3⟩ := hk
  have hl := okL_len hok
  have hL := tot_bd hok l.length (Nat.le_refl _)
  have t0 : tot l 0 = 0 := rfl
  rcases Nat.lt_or_ge (k + 1) l.length with h4 | h4
  · have h5 := tot_lt hok h4 (Nat.le_refl _)
    obtain ⟨e1, e2⟩ := succ_same (L := tot l l.length) (t := t) (by omega) (by omega)
    by_cases h6 : t % tot l l.length + 1 < tot l (k + 1)
    · exact .inl ⟨h6, e1, ⟨h1, by omega, by omega⟩, by omega⟩
    · have h7 := tot_lt hok (show k + 1 < k + 1 + 1 by omega) (by omega)
      exact .inr (.inl ⟨by omega, h4, e1, ⟨h4, by omega, by omega⟩, by omega⟩)
  · have h5 : k + 1 = l.length := by omega
    rw [h5] at h3 ⊢
    by_cases h6 : t % tot l l.length + 1 < tot l l.length
    · obtain ⟨e1, e2⟩ := succ_same (L := tot l l.length) (t := t) (by omega) h6
      exact .inl ⟨h6, e1, ⟨h1, by omega, by rw [h5]; omega⟩, by omega⟩
    · obtain ⟨e1, e2⟩ := succ_next (L := tot l l.length) (t := t) (by omega) (by omega)
      have h7 := tot_lt hok (show 0 < 0 + 1 by omega) (by omega)
      exact .inr (.inr ⟨by omega, rfl, e1, ⟨by omega, by omega, by omega⟩, by omega⟩)

set_option maxRecDepth 100000 in
set_option maxHeartbeats 2000000 in
theorem lies_no (A : Option Addr) (n cap : Nat) (l : List Win) (t : Int) (w : World) (h : WinsIn w (.slice A n cap) l) (hn : n ≤ 4611686018427387904) (hb : okL l = false ∨ t < 0 ∨ 1099511627776 < t) :
    Calls Try.prog 5 #[.slice A n cap, .int .i64 t] w fun e w' => e = .returned (.bool true) ∧ Fr [] w w' := by
  have hA : ∃ er : Int, (er != 0) = true ∧ ∀ w, WinsIn w (.slice A n cap) l → Calls Try.prog 12 #[.slice A n cap, .int .i64 t] w fun e w' => e = .returned (.tuple #[.agg #[.int .i64 0, .int .i64 0, .int .i64 0], .int .i64 er]) ∧ Fr [] w w' := by
    cases hok : okL l with
    | false => exact ⟨130, rfl, fun w h => at_no A n cap l w t h hn hok⟩
    | true =>
      rcases hb with hb | hb
      · rw [hok] at hb; cases hb
      · exact ⟨1, rfl, fun w h => at_arg A n cap l w t h hn hok hb⟩
  obtain ⟨er, her, hA⟩ := hA
  have HA := Lib.hid hA
  have H := Lib.hid h
  clear hA h
  cases hok : okL l with
  | false =>
    have HC := Lib.hid fun w h => rcheck_no A n cap l w h hn hok
    clear hok hb
    go_enter Try.func5, Try.ntmps5
    go_wp2_with fail
    refine (HA.out _ H.out).mono ?_
    rintro e w1 ⟨rfl, hf1⟩
    have b1 := Blk.new w1 30 #[.int .i64 0, .int .i64 0, .int .i64 0]
    have hf2 := hf1.alloc (.cells #[.int .i64 0, .int .i64 0, .int .i64 0] 30)
    go_wp2_with fail
    refine (HC.out _ (H.out.fr hf2)).mono ?_
    rintro e w2 ⟨rfl, hf3⟩
    have b2 := b1.fr hf3 (by simp)
    have c0 := b2.cell 0
    have c1 := b2.cell 1
    have c2 := b2.cell 2
    simp at c0 c1 c2
    go_wp2_with fail
    refine (fixed_any _).mono ?_
    rintro e w3 ⟨rfl, hf4⟩
    go_wp2_with fail
    go_ret
    exact ⟨rfl, (hf2.trans hf3).trans hf4⟩
  | true =>
    have HC := Lib.hid fun w h => rcheck_ok A n cap l w h hn hok
    rcases hb with hb | hb
    · rw [hok] at hb; cases hb
    · clear hok
      rcases hb with hb | hb
      all_goals
        go_enter Try.func5, Try.ntmps5
        go_wp2_with fail
        refine (HA.out _ H.out).mono ?_
        rintro e w1 ⟨rfl, hf1⟩
        have b1 := Blk.new w1 30 #[.int .i64 0, .int .i64 0, .int .i64 0]
        have hf2 := hf1.alloc (.cells #[.int .i64 0, .int .i64 0, .int .i64 0] 30)
        go_wp2_with fail
        refine (HC.out _ (H.out.fr hf2)).mono ?_
        rintro e w2 ⟨rfl, hf3⟩
        have b2 := b1.fr hf3 (by simp)
        have c0 := b2.cell 0
        have c1 := b2.cell 1
        have c2 := b2.cell 2
        simp at c0 c1 c2
        go_wp2_with fail
        refine (fixed_any _).mono ?_
        rintro e w3 ⟨rfl, hf4⟩
        go_wp2_with fail
        go_ret
        exact ⟨rfl, (hf2.trans hf3).trans hf4⟩

set_option maxRecDepth 100000 in
set_option maxHeartbeats 2000000 in
theorem lies_edge (A : Option Addr) (n cap : Nat) (l : List Win) (w : World) (h : WinsIn w (.slice A n cap) l) (hn : n ≤ 4611686018427387904) (hok : okL l = true) :
    Calls Try.prog 5 #[.slice A n cap, .int .i64 1099511627776] w fun e w' => e = .returned (.bool true) ∧ Fr [] w w' := by
  have HA := Lib.hid fun w h => At_any A n cap l w 1099511627776 h hn
  have HC := Lib.hid fun w h => rcheck_ok A n cap l w h hn hok
  have H := Lib.hid h
  have hE : atE l 1099511627776 = 0 := by unfold atE; rw [hok]; decide
  have HE := Lib.hid hE
  clear h hE hok
  go_enter Try.func5, Try.ntmps5
  go_wp2_with fail
  have h1 := HA.out _ H.out
  rw [HE.out] at h1
  refine h1.mono ?_
  clear h1
  rintro e w1 ⟨rfl, hf1⟩
  generalize atM l 1099511627776 = x3
  generalize (atP l 1099511627776).1 = x4
  generalize (atP l 1099511627776).2 = x5
  have b1 := Blk.new w1 30 #[.int .i64 x3, .int .i64 x4, .int .i64 x5]
  have hf2 := hf1.alloc (.cells #[.int .i64 x3, .int .i64 x4, .int .i64 x5] 30)
  go_wp2_with fail
  refine (HC.out _ (H.out.fr hf2)).mono ?_
  rintro e w2 ⟨rfl, hf3⟩
  have b2 := b1.fr hf3 (by simp)
  have c0 := b2.cell 0
  have c1 := b2.cell 1
  have c2 := b2.cell 2
  simp at c0 c1 c2
  go_wp2_with fail
  refine (fixed_any _).mono ?_
  rintro e w3 ⟨rfl, hf4⟩
  go_wp2_with fail
  go_ret
  exact ⟨rfl, (hf2.trans hf3).trans hf4⟩
end Go.Proofs.Ytnpdljmgjpngaaa
