/- The reference's Check. -/
import Derived.Test.YtnpdljmgjpngaaaW1
namespace Go.Proofs.Ytnpdljmgjpngaaa
open Go.RowKit
set_option linter.unusedVariables false
set_option linter.unusedSimpArgs false

theorem chE_bad {l : List Win} {x : Win} {k : Nat} (hx : l[k]? = some x) (h : ¬ (0 ≤ x.K ∧ x.K ≤ 4 ∧ 0 ≤ x.I ∧ x.I ≤ 7 ∧ 1 ≤ x.T ∧ x.T ≤ 255 ∧ ((x.K = 0 ∨ x.K = 4) → x.I = 0))) : (130 : Int) = chE l := by
  have : l.all mayW = false := by
    rw [List.all_eq_false]
    exact ⟨x, List.mem_of_getElem? hx, fun hm => h ((mayW_iff x).1 hm)⟩
  simp [chE, okL, this]
theorem all_step {l : List Win} {x : Win} {k : Nat} (hx : l[k]? = some x) (ha : (l.take k).all mayW = true) (h : 0 ≤ x.K ∧ x.K ≤ 4 ∧ 0 ≤ x.I ∧ x.I ≤ 7 ∧ 1 ≤ x.T ∧ x.T ≤ 255 ∧ ((x.K = 0 ∨ x.K = 4) → x.I = 0)) : (l.take (k + 1)).all mayW = true := by
  rw [List.take_add_one, hx]
  simp only [List.all_append, ha, Option.toList_some, List.all_cons, (mayW_iff x).2 h, List.all_nil, Bool.and_true]

set_option maxHeartbeats 2000000 in
theorem rcheck_any (A : Option Addr) (n cap : Nat) (l : List Win) (w : World) (h : WinsIn w (.slice A n cap) l) (hn : n ≤ 4611686018427387904) :
    Calls Try.prog 11 #[.slice A n cap] w fun e w' => e = .returned (.int .i64 (chE l)) ∧ Fr [] w w' := by
  have H := Lib.hid h
  have hl := Lib.hid h.len
  clear h
  go_enter Try.func11, Try.ntmps11
  go_wp2
  go_loopg [3] n (fun g i wr => ∃ k : Nat, k + g = n ∧ i = .int .i64 k ∧ (l.take k).all mayW = true ∧ Fr [] w wr)
  case atStart => exact ⟨0, by omega, rfl, by simp, Fr.refl _ _⟩
  case round =>
    obtain ⟨k, hk, rfl, hall, hfr⟩ := hrel
    have Hk := Lib.hid hk
    have Hall := Lib.hid hall
    clear hk hall
    by_cases hlt : k < n
    · obtain ⟨x, hx⟩ : ∃ x, l[k]? = some x := ⟨_, List.getElem?_eq_getElem (by have := hl.out; omega)⟩
      obtain ⟨b, off, hA, hbl, c0, c1, c2⟩ := (H.out.fr hfr).at_ hx
      subst hA
      have Hx := Lib.hid hx
      clear hx
      obtain ⟨K, I, T⟩ := x
      simp only at c0 c1 c2
      by_cases h0 : K = 0
      all_goals by_cases h4 : K = 4
      all_goals
        first
          | omega
          | (go_wp2
             all_goals first
               | (go_ret
                  exact ⟨ret_int (chE_bad Hx.out (by simp only; omega)), hfr.alloc _⟩)
               | (go_roundg (n - (k + 1))
                  case measure => have := Hk.out; omega
                  case rel => exact ⟨k + 1, by have := Hk.out; omega, by go_num, all_step Hx.out Hall.out (by simp only; omega), hfr.alloc _⟩))
    · have hkl : k = n := by have := Hk.out; omega
      have ha : l.all mayW = true := by
        have h1 := Hall.out
        rwa [List.take_of_length_le (by have := hl.out; omega)] at h1
      have Ha := Lib.hid ha
      clear ha hkl
      by_cases h1 : n < 1 ∨ 64 < n
      · rcases h1 with h1 | h1
        all_goals
          go_wp2
          go_ret
          refine ⟨ret_int ?_, hfr⟩
          have := hl.out
          unfold chE okL
          rw [if_neg]
          simp
          omega
      · have h2 : ¬ n < 1 := by omega
        have h3 : ¬ 64 < n := by omega
        clear h1
        go_wp2
        go_ret
        refine ⟨ret_int ?_, hfr⟩
        have := hl.out
        unfold chE okL
        rw [if_pos]
        simp [Ha.out]
        omega
end Go.Proofs.Ytnpdljmgjpngaaa
