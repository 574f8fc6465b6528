/- Line: LineSends, walked. -/
import Derived.Test.YtjnefafkpaopaaaW15
namespace Go.Proofs.Ytjnefafkpaopaaa
open Go.RowKit
set_option linter.unusedVariables false
set_option linter.unusedSimpArgs false
attribute [local go_sem] st_complex
theorem enc_lt {l : List (Nat × Nat)} {n : Nat} {w : World} {base : Nat} {v : Value} (h : w.ownsRow base 27 1 v n (enc l)) : l.length = n := by
  have := h.1
  rw [enc_len] at this
  omega
/-- A row of the call's own, its block at hand. -/
theorem own_blk27 {w : World} {base n : Nat} {v : Value} {l : List (Nat × Nat)} (h : w.ownsRow base 27 1 v (n + 1) (enc l)) : ∃ g cap cs, v = .slice (some ⟨g, 0, none⟩) (n + 1) cap ∧ base ≤ g ∧ n + 1 ≤ cap ∧ Blk w g 27 cs ∧ n + 1 ≤ cs.size := by
  obtain ⟨g, cap, hv⟩ := own_succ h
  obtain ⟨g', cap', cs, h1, h2, h3, h3', h4, h5⟩ := own_some h (by rw [hv]; intro h; cases h)
  have hl := enc_lt h
  refine ⟨g', cap', cs, h1, h2, h3, h4, ?_⟩
  have hx : n < (enc l).length := by rw [enc_len]; omega
  have := h5 n _ (List.getElem?_eq_getElem hx)
  have := (Array.getElem?_eq_some_iff.1 this).1
  omega
def Sev (w : World) (g n k : Nat) (W : World) : Prop := Fr [] w W ∧ ∃ cs, Blk W g 27 cs ∧ n ≤ cs.size
theorem Sev.set_ {w W : World} {g n k : Nat} (h : Sev w g n k W) (hg : w.heap.size ≤ g) (v : Value) : Sev w g n (k + 1) (W.setCell ⟨g, k, none⟩ v) := by
  obtain ⟨hf, cs, hb, hs⟩ := h
  exact ⟨hf.setCell (.inr hg) _, _, hb.set_ k v, by simpa using hs⟩
theorem Sev.at_ {w W : World} {g n k : Nat} (h : Sev w g n k W) {j : Nat} (hj : j < n) : ∃ v, W.cell? ⟨g, j, none⟩ = some v := by
  obtain ⟨_, cs, hb, hs⟩ := h
  have hj' : j < cs.size := by omega
  exact ⟨cs[j], by rw [hb.cell]; simp [hj']⟩
set_option maxRecDepth 100000 in
set_option maxHeartbeats 1000000 in
theorem sends_long (s : ByteArray) (w : World) (h : 2047 < s.size) (h2 : s.size ≤ 140737488355328) : Calls Try.prog 3 #[.string s] w fun e w' => e = .returned (.bool true) ∧ Fr [] w w' := by
  have H1 := Lib.hid fun W => Send_long s W h h2
  have H2 := Lib.hid fun W => rSend_long s W h h2
  have H3 := Lib.hid fun W => same_rows [] (.slice none 0 0) (.slice none 0 0) 0 W ⟨rfl, .inl ⟨rfl, rfl⟩⟩ ⟨rfl, .inl ⟨rfl, rfl⟩⟩ (by omega)
  have H4 := Lib.hid fun W => fixed_any W
  clear h h2
  go_enter Try.func3, Try.ntmps3
  go_wp2_with fail
  go_loopg [3] 2 (fun gg i wr => ∃ k : Nat, k + gg = 2 ∧ i = .int .i64 k ∧ Fr [] w wr)
  case atStart => exact ⟨0, by omega, rfl, Fr.refl _ _⟩
  case round =>
    obtain ⟨k, hk, rfl, hf⟩ := hrel
    have Hf := Lib.hid hf
    have Hk := Lib.hid hk
    by_cases hlt : k < 2
    · have hlt' : (k : Int) < 2 := by omega
      clear hk hf
      go_wp2_with fail
      refine (H1.out _).mono ?_
      rintro e w1 ⟨rfl, rfl⟩
      go_wp2_with fail
      refine (H2.out _).mono ?_
      rintro e w1 ⟨rfl, rfl⟩
      go_wp2_with fail
      refine (H3.out _).mono ?_
      rintro e w1 ⟨rfl, hf1⟩
      have Hf1 := Lib.hid hf1
      clear hf1
      go_wp2_with fail
      refine wp_loop_rounds 1 ?_
      rw [rounds_succ]
      go_wp2_with fail
      go_roundg (2 - (k + 1))
      case measure => have := Hk.out; omega
      case rel => exact ⟨k + 1, by have := Hk.out; omega, by go_num, Hf.out.trans Hf1.out⟩
    · have hge : ¬ (k : Int) < 2 := by omega
      clear hk hf
      go_wp2_with fail
      refine (H4.out _).mono ?_
      rintro e w1 ⟨rfl, hf1⟩
      go_wp2_with fail
      go_ret
      exact ⟨rfl, Hf.out.trans hf1⟩
set_option maxRecDepth 100000 in
set_option maxHeartbeats 1000000 in
theorem sends_short (s : ByteArray) (w : World) (h : s.size ≤ 2047) : Calls Try.prog 3 #[.string s] w fun e w' => e = .returned (.bool true) ∧ Fr [] w w' := by
  have H1 := Lib.hid fun W => Send_any s W h
  have H2 := Lib.hid fun W => rSend_any s W h
  have hN : s.data.toList.length ≤ 2047 := by simpa using h
  have H4 := Lib.hid fun W => fixed_any W
  obtain ⟨bs, hbs⟩ : ∃ bs, s.data.toList = bs := ⟨_, rfl⟩
  rw [hbs] at H1 H2 hN
  obtain ⟨N, hNN⟩ : ∃ N, 2 * bs.length = N := ⟨_, rfl⟩
  have HNN := Lib.hid hNN
  have hN2 : N ≤ 4094 := by omega
  clear h hbs hNN hN
  go_enter Try.func3, Try.ntmps3
  go_wp2_with fail
  go_loopg [3] 2 (fun gg i wr => ∃ k : Nat, k + gg = 2 ∧ i = .int .i64 k ∧ Fr [] w wr)
  case atStart => exact ⟨0, by omega, rfl, Fr.refl _ _⟩
  case round =>
    obtain ⟨k, hk, rfl, hf⟩ := hrel
    have Hf := Lib.hid hf
    have Hk := Lib.hid hk
    have hsz := hf.size
    by_cases hlt : k < 2
    · have hlt' : (k : Int) < 2 := by omega
      clear hk hf
      go_wp2_with fail
      refine (H1.out _).mono ?_
      rintro e w1 ⟨v1, rfl, hv1, hf1⟩
      rw [HNN.out] at hv1
      obtain ⟨g1, c1, cs1, rfl, hg1, hc1, hb1, hs1⟩ := own_blk27 hv1
      have HV1 := Lib.hid hv1
      have HF1 := Lib.hid hf1
      have HB1 := Lib.hid hb1
      clear hv1 hf1 hb1
      go_wp2_with fail
      refine (H2.out _).mono ?_
      rintro e w2 ⟨v2, rfl, hv2, hf2⟩
      rw [HNN.out] at hv2
      obtain ⟨g2, c2, rfl⟩ := own_succ hv2
      have HV2 := Lib.hid hv2
      have HF2 := Lib.hid hf2
      clear hv2 hf2
      go_wp2_with fail
      refine (same_rows (row bs) _ _ (N + 1) _ ((Sl.of_own HV1.out).fr HF2.out (by simp)) (Sl.of_own HV2.out) (by omega)).mono ?_
      rintro e w3 ⟨rfl, hf3⟩
      have hw3 : Sev w g1 (N + 1) 0 w3 := ⟨((Hf.out.trans HF1.out).trans HF2.out).trans hf3, cs1, (HB1.out.fr HF2.out (by simp)).fr hf3 (by simp), hs1⟩
      have HW3 := Lib.hid hw3
      have hwg : w.heap.size ≤ g1 := by omega
      clear hw3 hf3 HV1 HV2
      go_wp2_with fail
      go_loopg [8] (N + 1) (fun gg i wq => ∃ m : Nat, m + gg = N + 1 ∧ i = .int .i64 m ∧ Sev w g1 (N + 1) m wq)
      case atStart => exact ⟨0, by omega, rfl, HW3.out⟩
      case round =>
        obtain ⟨m, hm, rfl, hq⟩ := hrel
        have Hm := Lib.hid hm
        have HQ := Lib.hid hq
        by_cases hmlt : m < N + 1
        · have hm' : (m : Int) < (N : Int) + 1 := by omega
          obtain ⟨v, hv⟩ := hq.at_ hmlt
          have hfz := hq.2.choose_spec.1.frozen m
          have HS := Lib.hid (hq.set_ hwg (.complex .f64 4619567317775286272 0))
          clear hm hq
          go_wp2_with fail
          go_roundg (N + 1 - (m + 1))
          case measure => have := Hm.out; omega
          case rel => exact ⟨m + 1, by have := Hm.out; omega, by go_num, HS.out⟩
        · have hm' : ¬ (m : Int) < (N : Int) + 1 := by omega
          clear hm hq
          go_wp2_with fail
          go_roundg (2 - (k + 1))
          case measure => have := Hk.out; omega
          case rel => exact ⟨k + 1, by have := Hk.out; omega, by go_num, HQ.out.1⟩
    · have hge : ¬ (k : Int) < 2 := by omega
      clear hk hf
      go_wp2_with fail
      refine (H4.out _).mono ?_
      rintro e w1 ⟨rfl, hf1⟩
      go_wp2_with fail
      go_ret
      exact ⟨rfl, Hf.out.trans hf1⟩
theorem sends_walk (s : ByteArray) (w : World) (h2 : s.size ≤ 140737488355328) : Calls Try.prog 3 #[.string s] w fun e w' => e = .returned (.bool true) ∧ Fr [] w w' := by
  by_cases h : s.size ≤ 2047
  · exact sends_short s w h
  · exact sends_long s w (by omega) h2
end Go.Proofs.Ytjnefafkpaopaaa
