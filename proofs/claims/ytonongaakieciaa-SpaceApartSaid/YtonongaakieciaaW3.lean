/- The reference's there. -/
import Derived.Test.YtonongaakieciaaW2
import Derived.IntWalk
namespace Go.Proofs.Ytonongaakieciaa
open Go.RowKit
set_option linter.unusedVariables false
set_option linter.unusedSimpArgs false
set_option maxRecDepth 100000 in
set_option maxHeartbeats 1000000 in
theorem there_neg (b m cap : Nat) (A : Option Addr) (t : List Pg) (w : World) (a r : Int) (n : Nat) (ht : Tb w b (.slice A m cap) t) (hm : m ≤ 16) (hn : n ≤ 4096) (ha : a < 0) :
    Calls Try.prog 93 #[.slice A m cap, .int .i64 a, .int .i64 n, .int .i64 r] w fun e w' => e = .returned (.int .i64 (thr t r a n)) ∧ Fr [] w w' := by
  by_cases h0 : n = 0
  · subst h0
    clear ht
    have e := Lib.hid (show thr t r a 0 = 0 from rfl)
    go_enter Try.func93, Try.ntmps93
    go_wp2_with fail
    refine wp_loop_rounds 1 ?_
    rw [rounds_succ]
    go_wp2_with fail
    go_ret
    exact ⟨ret_int (by rw [e.out]), Fr.refl _ _⟩
  · have e := Lib.hid (thr_no (t := t) (right := r) (n := n) (ch1_neg ha) (by omega) (by omega))
    have h1 : (0 : Int) < (n : Int) := by omega
    clear ht h0
    go_enter Try.func93, Try.ntmps93
    go_wp2_with fail
    refine wp_loop_rounds 1 ?_
    rw [rounds_succ]
    go_wp2_with fail
    go_ret
    exact ⟨ret_int (by rw [e.out]), Fr.refl _ _⟩
set_option maxRecDepth 100000 in
set_option maxHeartbeats 2000000 in
theorem there_pos (b m cap : Nat) (A : Option Addr) (t : List Pg) (w : World) (a : Nat) (r : Int) (n : Nat) (ht : Tb w b (.slice A m cap) t) (hm : m ≤ 16) (hn : n ≤ 4096) (ha : a ≤ 9223372036854775807) :
    Calls Try.prog 93 #[.slice A m cap, .int .i64 a, .int .i64 n, .int .i64 r] w fun e w' => e = .returned (.int .i64 (thr t r a n)) ∧ Fr [] w w' := by
  have hl := Lib.hid ht.n_eq
  have H := Lib.hid ht
  clear ht
  go_enter Try.func93, Try.ntmps93
  go_wp2
  go_loopg [9] n (fun g i wr => ∃ k : Nat, k + g = n ∧ i = .int .i64 k ∧ thr t r a n = thr t r ((a + k : Nat) : Int) g ∧ Fr [] w wr)
  case atStart => exact ⟨0, by omega, rfl, rfl, Fr.refl _ _⟩
  case round =>
    have Hgk : ∃ g, g = gk := ⟨_, rfl⟩
    obtain ⟨g, hg⟩ := Hgk
    subst hg
    obtain ⟨k, hk, rfl, hth, hfr⟩ := hrel
    have Hk := Lib.hid hk
    have Ht := Lib.hid hth
    by_cases hlt : k < n
    · have hlt' : (k : Int) < (n : Int) := by omega
      clear hk hth
      by_cases hfar : m * 256 ≤ a + k
      · have e := Lib.hid (show thr t r a n = 81 by rw [Ht.out]; exact thr_no (ch1_far (by have := hl.out; omega)) (by omega) (by have := Hk.out; omega))
        have d1 : 256 * (m : Int) - (k : Int) ≤ (a : Int) := by omega
        go_wp2_with fail
        go_ret
        exact ⟨ret_int (by rw [e.out]), hfr⟩
      · obtain ⟨⟨f, q⟩, hx⟩ : ∃ x, t[(a + k) / 256]? = some x := ⟨_, List.getElem?_eq_getElem (by have := hl.out; omega)⟩
        obtain ⟨off, hA, hbl, c0, c1⟩ := (H.out.fr hfr (by simp)).at_ hx
        subst hA
        have hch := ch1_at (right := r) hx
        simp only at c0 c1 hch
        have d1 : ¬ 256 * (m : Int) - (k : Int) ≤ (a : Int) := by omega
        have d2 : ((a : Int) + (k : Int)) / 256 < (m : Int) := by omega
        have d3 : (0 : Int) ≤ ((a : Int) + (k : Int)) / 256 := by omega
        have d4 : (a : Int) + (k : Int) ≤ 4096 := by omega
        clear hx hfar
        by_cases hf : f < 0
        · rw [if_pos hf] at hch
          have e := Lib.hid (show thr t r a n = 81 by rw [Ht.out]; exact thr_no hch (by omega) (by have := Hk.out; omega))
          clear hch
          go_wp2_with fail
          go_ret
          exact ⟨ret_int (by rw [e.out]), hfr.alloc _⟩
        · rw [if_neg hf] at hch
          have hf' : ¬ f < 0 := hf
          cases hq : (bits .and .i64 q r == 0) with
          | true =>
            rw [if_pos (by simpa using hq)] at hch
            have e := Lib.hid (show thr t r a n = 82 by rw [Ht.out]; exact thr_no hch (by omega) (by have := Hk.out; omega))
            clear hch
            go_wp2_with fail
            go_ret
            exact ⟨ret_int (by rw [e.out]), hfr.alloc _⟩
          | false =>
            rw [if_neg (by simpa using hq)] at hch
            have e := Lib.hid (show thr t r a n = thr t r ((a + (k + 1) : Nat) : Int) (g - 1) by rw [Ht.out, thr_yes hch (by have := Hk.out; omega)]; rfl)
            clear hch
            go_wp2_with fail
            go_roundg (g - 1)
            case measure => have := Hk.out; omega
            case rel => exact ⟨k + 1, by have := Hk.out; omega, by go_num, e.out, hfr.alloc _⟩
    · have hkn : g = 0 := by omega
      have hlt' : ¬ (k : Int) < (n : Int) := by omega
      have e := Lib.hid (show thr t r a n = 0 by rw [Ht.out, hkn]; rfl)
      clear hkn hk hth
      go_wp2_with fail
      go_ret
      exact ⟨ret_int (by rw [e.out]), hfr⟩
theorem there_any (b m cap : Nat) (A : Option Addr) (t : List Pg) (w : World) (a r : Int) (n : Nat) (ht : Tb w b (.slice A m cap) t) (hm : m ≤ 16) (hn : n ≤ 4096) (ha : a ≤ 9223372036854775807) :
    Calls Try.prog 93 #[.slice A m cap, .int .i64 a, .int .i64 n, .int .i64 r] w fun e w' => e = .returned (.int .i64 (thr t r a n)) ∧ Fr [] w w' := by
  by_cases h : a < 0
  · exact there_neg b m cap A t w a r n ht hm hn h
  · obtain ⟨k, rfl⟩ := Int.eq_ofNat_of_zero_le (by omega : 0 ≤ a)
    exact there_pos b m cap A t w k r n ht hm hn (by omega)
end Go.Proofs.Ytonongaakieciaa
