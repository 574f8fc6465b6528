/- Lay with any text; the two tables' frames. -/
import Derived.Test.YtdkihajajdhpnaaB7
import Derived.BigQuiet
import Derived.Deep.QuietTactic
namespace Go.Proofs.Ytdkihajajdhpnaa
open Go.RowKit
set_option linter.unusedVariables false
set_option linter.unusedSimpArgs false
set_option maxHeartbeats 400000 in
theorem Lay_long (p F : Nat) (st : St) (w : World) (f a : Nat) (s : ByteArray) (h : MemAt w p F st) (hs : s.size ≤ maxLen) (hf : f < st.n) (ha : a ≤ 256) (hl : 256 - a < s.size) :
    Calls Try.prog 12 #[ptr p, .int .i64 f, .int .i64 a, .string s] w fun e w' => e = .returned (.int .i64 80) ∧ w = w' := by
  obtain ⟨cap, hc, -, -⟩ := h.hd.cell
  clear h
  obtain ⟨N, hN⟩ : ∃ N, s.size = N := ⟨_, rfl⟩
  rw [hN] at hs hl
  simp only [maxLen] at hs
  have hf2 : ¬ (st.n : Int) ≤ (f : Int) := by omega
  have h4 : ¬ (256 : Int) < (a : Int) := by omega
  have h5 : (256 : Int) - (a : Int) < (N : Int) := by omega
  generalize st.n = M at *
  go_enter Try.func12, Try.ntmps12
  go_wp2
  go_ret
  exact ⟨rfl, rfl⟩
theorem Lay_zero (p F : Nat) (st : St) (w : World) (f : Nat) (s : ByteArray) (h : MemAt w p F st) (hs : s.size ≤ maxLen) (hf : f < st.n) :
    Calls Try.prog 12 #[ptr p, .int .i64 f, .int .i64 0, .string s] w fun e w' => ∃ r, e = .returned (.int .i64 r) ∧ (∃ l : List UInt8, l.length ≤ 256 ∧ MemAt w' p F ⟨st.n, putL st.b (f * 256) l⟩) ∧ Fr [F] w w' := by
  by_cases hl : 256 < s.size
  · refine (Lay_long p F st w f 0 s h hs hf (by omega) (by omega)).mono fun e w' ⟨he, hw⟩ => ?_
    subst hw
    exact ⟨_, he, ⟨[], by simp, h⟩, Fr.refl _ _⟩
  · refine (Lay_ok p F st w f 0 s h hf (by omega)).mono fun e w' ⟨he, hm, hf⟩ => ?_
    rw [Nat.add_zero] at hm
    have hlen : s.data.toList.length ≤ 256 := by have : s.data.toList.length = s.size := rfl; omega
    exact ⟨_, he, ⟨_, hlen, hm⟩, hf⟩
def SharesP (w : World) (x y : List Pg) (e : Ending) (w' : World) : Prop := ∃ b : Bool, e = .returned (.bool b) ∧ (b = false → noSh x y) ∧ Fr [] w w'
set_option maxRecDepth 100000 in
set_option maxHeartbeats 1000000 in
theorem shares_any (xb yb m m' cap cap' : Nat) (A A' : Option Addr) (x y : List Pg) (w : World) (hx : Tb w xb (.slice A m cap) x) (hy : Tb w yb (.slice A' m' cap') y) :
    Calls Try.prog 28 #[.slice A m cap, .slice A' m' cap'] w (SharesP w x y) := by
  have Hx := Lib.hid hx
  have Hy := Lib.hid hy
  have hmx := Lib.hid hx.n_eq
  have hmy := Lib.hid hy.n_eq
  have hlx : m ≤ 9223372036854775807 := by have := hx.len; rw [← hx.n_eq] at this; simpa [maxLen] using this
  have hly : m' ≤ 9223372036854775807 := by have := hy.len; rw [← hy.n_eq] at this; simpa [maxLen] using this
  clear hx hy
  go_enter Try.func28, Try.ntmps28
  go_wp2_with fail
  go_loopg [5] m (fun gg i wr => ∃ k : Nat, k + gg = m ∧ i = .int .i64 k ∧ (∀ j, j < k → ∀ p, x[j]? = some p → ∀ q ∈ y, ¬ (0 ≤ p.f ∧ p.f = q.f)) ∧ Fr [] w wr)
  case atStart => exact ⟨0, by omega, rfl, fun j hj => by omega, Fr.refl _ _⟩
  case round =>
    obtain ⟨k, hk, rfl, hal, hf⟩ := hrel
    have Hk := Lib.hid hk
    have Hal := Lib.hid hal
    have Hf := Lib.hid hf
    obtain ⟨wo, rfl⟩ : ∃ wo : World, wo = wr := ⟨_, rfl⟩
    by_cases hlt : k < m
    · have hki : (k : Int) < (m : Int) := by omega
      have hk0 : (0 : Int) ≤ (k : Int) := by omega
      obtain ⟨pg, hpg⟩ : ∃ q, x[k]? = some q := ⟨_, List.getElem?_eq_getElem (by have := hmx.out; omega)⟩
      have Hpg := Lib.hid hpg
      clear hk hf hal hpg
      go_wp2_with fail
      go_loopg [6] m' (fun gg i wr => ∃ l : Nat, l + gg = m' ∧ i = .int .i64 l ∧ (∀ j, j < l → ∀ q, y[j]? = some q → ¬ (0 ≤ pg.f ∧ pg.f = q.f)) ∧ Fr [] wo wr)
      case atStart => exact ⟨0, by omega, rfl, fun i hi => by omega, Fr.refl _ _⟩
      case round =>
        obtain ⟨l, hl, rfl, hal, hf⟩ := hrel
        have Hl := Lib.hid hl
        have Hal4 := Lib.hid hal
        have Hf4 := Lib.hid hf
        by_cases hlk : l < m'
        · have hli : (l : Int) < (m' : Int) := by omega
          have hl0 : (0 : Int) ≤ (l : Int) := by omega
          obtain ⟨qg, hqg⟩ : ∃ q, y[l]? = some q := ⟨_, List.getElem?_eq_getElem (by have := hmy.out; omega)⟩
          obtain ⟨off, rfl, hbl, c0, c1⟩ := (Hx.out.fr (Hf.out.trans hf) (by simp)).at_ Hpg.out
          obtain ⟨off', rfl, _, d0, d1⟩ := (Hy.out.fr (Hf.out.trans hf) (by simp)).at_ hqg
          have Hal2 : Hid (¬ (0 ≤ pg.f ∧ pg.f = qg.f) → ∀ j, j < l + 1 → ∀ q, y[j]? = some q → ¬ (0 ≤ pg.f ∧ pg.f = q.f)) := Lib.hid fun hn j hj q hq => by
            by_cases hjl : j = l
            · subst hjl
              rw [hqg] at hq
              injection hq with hq
              rw [← hq]
              exact hn
            · exact hal j (by omega) q hq
          clear hl hal hf hqg hbl c1 d1
          generalize pg.f = P at *
          generalize qg.f = Q at *
          by_cases h0 : (0 : Int) ≤ P
          · have hd0 : decide ((0 : Int) ≤ P) = true := by rw [decide_eq_true_iff]; exact h0
            by_cases hpq : P = Q
            · subst hpq
              go_wp2_with fail
              go_quiet (fail)
              go_wp2_with fail
              go_ret
              exact ⟨true, rfl, (fun h => by cases h), Hf.out.trans (Hf4.out.drewN _)⟩
            · have hpq1 : (P == Q) = false := by rw [beq_eq_false_iff_ne]; exact hpq
              have Hn2 := Lib.hid (Hal2.out (fun h => hpq h.2))
              clear hpq
              go_wp2_with fail
              go_quiet (fail)
              go_wp2_with fail
              go_roundg (m' - (l + 1))
              case measure => have := Hl.out; omega
              case rel => exact ⟨l + 1, by have := Hl.out; omega, by go_num, Hn2.out, Hf4.out.drewN _⟩
          · have hd0 : decide ((0 : Int) ≤ P) = false := by rw [decide_eq_false_iff_not]; exact h0
            have Hn2 := Lib.hid (Hal2.out (fun h => h0 h.1))
            go_wp2_with fail
            go_quiet (fail)
            go_wp2_with fail
            go_roundg (m' - (l + 1))
            case measure => have := Hl.out; omega
            case rel => exact ⟨l + 1, by have := Hl.out; omega, by go_num, Hn2.out, Hf4.out.drewN _⟩
        · have hli : ¬ (l : Int) < (m' : Int) := by omega
          obtain rfl : m' = l := by omega
          clear hl hal hf
          go_wp2_with fail
          go_roundg (m - (k + 1))
          case measure => have := Hk.out; omega
          case rel =>
            refine ⟨k + 1, by have := Hk.out; omega, by go_num, fun j hj p hp q hq => ?_, Hf.out.trans Hf4.out⟩
            by_cases hjk : j = k
            · subst hjk
              rw [Hpg.out] at hp
              injection hp with hp
              subst hp
              obtain ⟨i, hi⟩ := List.mem_iff_getElem?.1 hq
              exact Hal4.out i (by have := (List.getElem?_eq_some_iff.1 hi).1; have := hmy.out; omega) q hi
            · exact Hal.out j (by omega) p hp q hq
    · have hki : ¬ (k : Int) < (m : Int) := by omega
      have hkm : k = m := by omega
      have Hns : Hid (noSh x y) := Lib.hid fun p hp q hq => by
        obtain ⟨i, hi⟩ := List.mem_iff_getElem?.1 hp
        exact hal i (by have := (List.getElem?_eq_some_iff.1 hi).1; have := hmx.out; omega) p hi q hq
      clear hk hf hal hkm
      go_wp2_with fail
      go_ret
      exact ⟨false, rfl, (fun _ => Hns.out), Hf.out⟩
end Go.Proofs.Ytdkihajajdhpnaa
