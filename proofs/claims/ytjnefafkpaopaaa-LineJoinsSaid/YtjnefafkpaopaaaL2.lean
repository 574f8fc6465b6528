/- Line: LineJoins, walked. -/
import Derived.Test.YtjnefafkpaopaaaL1
namespace Go.Proofs.Ytjnefafkpaopaaa
open Go.RowKit
set_option linter.unusedVariables false
set_option linter.unusedSimpArgs false
theorem row_app (a b : List UInt8) : row (a ++ b) = row a ++ (row b).drop 1 := by simp [row]
theorem str_app (s t : ByteArray) : (s ++ t).data.toList = s.data.toList ++ t.data.toList ∧ (s ++ t).size = s.size + t.size := by
  refine ⟨?_, ByteArray.size_append⟩
  simp
set_option maxRecDepth 100000 in
set_option maxHeartbeats 400000 in
theorem Send_longer (s : ByteArray) (w : World) (h : 2047 < s.size) (h2 : s.size ≤ 1152921504606846976) : Calls Try.prog 5 #[.string s] w fun e w' => e = .returned (.tuple #[.slice none 0 0, .int .i64 33]) ∧ w = w' := by
  obtain ⟨N, hN⟩ : ∃ N, s.size = N := ⟨_, rfl⟩
  rw [hN] at h h2
  have hb : ¬ (2 * (N : Int) + 1 ≤ 4096) := by omega
  go_enter Try.func5, Try.ntmps5
  go_wp2
  go_ret2
  exact ⟨rfl, rfl⟩
/-- Send of any text: a slice and an error's number. -/
def SendAny (w : World) (e : Ending) (w' : World) : Prop := ∃ A n cap er, e = .returned (.tuple #[.slice A n cap, .int .i64 er]) ∧ Fr [] w w'
theorem Send_some (s : ByteArray) (w : World) (h2 : s.size ≤ 140737488355328) : Calls Try.prog 5 #[.string s] w (SendAny w) := by
  by_cases h : s.size ≤ 2047
  · refine (Send_any s w h).mono ?_
    rintro e w' ⟨v, rfl, hv, hf⟩
    obtain ⟨A, c, rfl⟩ := own_shape hv
    exact ⟨A, _, c, _, rfl, hf⟩
  · refine (Send_long s w (by omega) h2).mono ?_
    rintro e w' ⟨rfl, rfl⟩
    exact ⟨none, 0, 0, 33, rfl, Fr.refl _ _⟩
theorem step_append_own {P : Program} {w : World} {ops : Array Oper} {o : Oper} {a : Act} {K : Act → World → Prop} {Q : Exit → Act → World → Prop} {E : Prop} (hgd : o.guard = none) (s x : Operand) (t : TypeId)
    (ho : o.op = .call { callee := .builtin .append, args := #[s, x], argTypes := #[t, t] })
    (base : Nat) (e : TypeId) (i : TypeInfo) (z : Value) (size bytes : Nat) (ht : P.underlying t = some (.slice e)) (hi : P.info? e = some i) (hz : i.zero = some z)
    (hsize : i.size = size) (hby : i.bytes = bytes) (hzs : z.cells.size = size) (hsz : 0 < size)
    (v : Value) (n : Nat) (xs : List Value) (hs : a.eval s = v) (hown : w.ownsRow base e size v n xs)
    (ad : Addr) (m c : Nat) (news : List Value) (hx : a.eval x = .slice (some ad) m c) (hl : news.length = m * size) (hnews : ∀ j u, news[j]? = some u → w.cell? (ad.add j) = some u) (h1 : ∀ u ∈ news, u.oneCell' = true)
    (h63 : n + m ≤ maxLen) (hbytes : (n + m) * bytes ≤ 140737488355328) (hbase : base ≤ w.heap.size)
    (h : ∀ A cap w', w'.ownsRow base e size (.slice A (n + m) cap) (n + m) (xs ++ news) → w.grownBy w' v.ownBlock → K (a.put o.dst (.slice A (n + m) cap)) w') :
    if Region.wanted o (yielded ops a.tmps) = true then Oper.wp P o a w K Q else E := by
  have hw : Region.wanted o (yielded ops a.tmps) = true := by simp [Region.wanted, hgd]
  rw [if_pos hw]
  refine wp_append_own w s x t ho base e i z size bytes ht hi hz hsize hby hzs hsz v n xs hs hown ad m c news hx hl hnews h1 h63 hbytes hbase ?_
  intro v' w' a b _
  obtain ⟨A, cap, rfl⟩ := own_shape a
  exact h A cap w' a b
theorem own_cells27 {w : World} {base n g cap : Nat} {l : List (Nat × Nat)} (h : w.ownsRow base 27 1 (.slice (some ⟨g, 0, none⟩) n cap) n (enc l)) {W : World} (hf : Fr [] w W) (k : Nat) :
    ∀ (j : Nat) (u : Value), (enc (l.drop k))[j]? = some u → W.cell? ((⟨g, k, none⟩ : Addr).add j) = some u := by
  intro j u hu
  have h1 := h.cells (g := g) rfl (k + j) u (by rw [← hu]; simp [enc])
  rw [addr_add] at h1 ⊢
  rw [Nat.zero_add] at h1
  exact hf.cell_some h1 (by simp)
set_option maxRecDepth 100000 in
set_option maxHeartbeats 1000000 in
theorem joins_long (s t : ByteArray) (w : World) (h : 2047 < s.size + t.size) (hs : s.size ≤ 140737488355328) (ht : t.size ≤ 140737488355328) (hst : s.size + t.size ≤ 1152921504606846976) : Calls Try.prog 4 #[.string s, .string t] w fun e w' => e = .returned (.bool true) ∧ Fr [] w w' := by
  have H1 := Lib.hid fun W => Send_some s W hs
  have H2 := Lib.hid fun W => Send_some t W ht
  have H3 := Lib.hid fun W => Send_longer (s ++ t) W (by rw [(str_app s t).2]; exact h) (by rw [(str_app s t).2]; exact hst)
  have H4 := Lib.hid fun W => fixed_any W
  have hb : (2047 : Int) < (s.size : Int) + (t.size : Int) := by omega
  clear h
  go_enter Try.func4, Try.ntmps4
  go_wp2_with fail
  refine (H1.out _).mono ?_
  rintro e w1 ⟨A1, n1, c1, e1, rfl, hf1⟩
  have HF1 := Lib.hid hf1
  clear hf1
  go_wp2_with fail
  refine (H2.out _).mono ?_
  rintro e w2 ⟨A2, n2, c2, e2, rfl, hf2⟩
  have HF2 := Lib.hid hf2
  clear hf2
  go_wp2_with fail
  refine (H3.out _).mono ?_
  rintro e w3 ⟨rfl, rfl⟩
  go_wp2_with fail
  refine (H4.out _).mono ?_
  rintro e w3 ⟨rfl, hf3⟩
  have HF3 := Lib.hid hf3
  clear hf3
  go_wp2_with fail
  go_ret
  exact ⟨rfl, (HF1.out.trans HF2.out).trans HF3.out⟩
set_option maxRecDepth 100000 in
set_option maxHeartbeats 1000000 in
theorem joins_short (s t : ByteArray) (w : World) (h : s.size + t.size ≤ 2047) : Calls Try.prog 4 #[.string s, .string t] w fun e w' => e = .returned (.bool true) ∧ Fr [] w w' := by
  obtain ⟨i0, hi0, hz0, hz1, hz2⟩ := info3 Try.info27
  have H1 := Lib.hid fun W => Send_any s W (by omega)
  have H2 := Lib.hid fun W => Send_any t W (by omega)
  have H3 := Lib.hid fun W => Send_any (s ++ t) W (by rw [(str_app s t).2]; exact h)
  have H4 := Lib.hid fun W => fixed_any W
  have eS : s.data.toList.length = s.size := rfl
  have eT : t.data.toList.length = t.size := rfl
  have eST : (s ++ t).data.toList.length = s.size + t.size := by rw [(str_app s t).1, List.length_append, eS, eT]
  have hR : row (s ++ t).data.toList = row s.data.toList ++ (row t.data.toList).drop 1 := by rw [(str_app s t).1, row_app]
  obtain ⟨N1, hN1⟩ : ∃ N, s.size = N := ⟨_, rfl⟩
  obtain ⟨N2, hN2⟩ : ∃ N, t.size = N := ⟨_, rfl⟩
  rw [hN1] at eS eST h
  rw [hN2] at eT eST h
  have hl1 := row_len s.data.toList
  have hl2 := row_len t.data.toList
  rw [eS] at hl1
  rw [eT] at hl2
  have HR := Lib.hid hR
  have HE := Lib.hid (And.intro eS (And.intro eT eST))
  have HL := Lib.hid (And.intro hl1 hl2)
  clear hR eS eT eST hl1 hl2
  go_enter Try.func4, Try.ntmps4
  go_wp2_with fail
  refine (H1.out _).mono ?_
  rintro e w1 ⟨v1, rfl, hv1, hf1⟩
  rw [HE.out.1] at hv1
  obtain ⟨g1, c1, rfl⟩ := own_succ hv1
  have HV1 := Lib.hid hv1
  have HF1 := Lib.hid hf1
  clear hv1 hf1
  go_wp2_with fail
  refine (H2.out _).mono ?_
  rintro e w2 ⟨v2, rfl, hv2, hf2⟩
  rw [HE.out.2.1] at hv2
  obtain ⟨g2, c2, cs2, rfl, _, hc2, hc2', _⟩ := own_some hv2 (by obtain ⟨g, c, h⟩ := own_succ hv2; rw [h]; intro h; cases h)
  have HV2 := Lib.hid hv2
  have HF2 := Lib.hid hf2
  clear hv2 hf2
  go_wp2_with fail
  refine (H3.out _).mono ?_
  rintro e w3 ⟨v3, rfl, hv3, hf3⟩
  rw [HE.out.2.2] at hv3
  obtain ⟨g3, c3, rfl⟩ := own_succ hv3
  have HV3 := Lib.hid hv3
  have HF3 := Lib.hid hf3
  clear hv3 hf3
  go_wp2_with fail
  refine (H4.out _).mono ?_
  rintro e w4 ⟨rfl, hf4⟩
  have HF4 := Lib.hid hf4
  have z4 := hf4.size
  have z3 := HF3.out.size
  have z2 := HF2.out.size
  have z1 := HF1.out.size
  clear hf4
  go_wp2_with fail
  have Hn1 := Lib.hid fun W (hf : Fr [] w4 W) => own_cells27 HV1.out (((HF2.out.trans HF3.out).trans HF4.out).trans hf) 0
  have Hn2 := Lib.hid fun W (hf : Fr [] w4 W) => own_cells27 HV2.out ((HF3.out.trans HF4.out).trans hf) 1
  have e3 : 2 * (N1 + N2) + 1 = 2 * N1 + 1 + (2 * N2 + 1 - 1) := by omega
  have Hs3 := Lib.hid fun W (hf : Fr [] w4 W) => (((Sl.of_own HV3.out).fr (HF4.out.trans hf) (by simp)))
  rw [e3] at Hs3
  rw [e3]
  have HF := Lib.hid (((HF1.out.trans HF2.out).trans HF3.out).trans HF4.out)
  have Hown := Lib.hid fun (W : World) (hb : w4.heap.size ≤ W.heap.size) => World.ownsRow_made (base := w4.heap.size) (e := 27) (size := 1) W #[] 0 hb (by simp [maxLen]) (by simp)
  have Hl1 : Hid ((enc (row s.data.toList)).length = (2 * N1 + 1) * 1) := Lib.hid (by rw [enc_len, HL.out.1]; omega)
  have Hl2 : Hid ((enc ((row t.data.toList).drop 1)).length = (2 * N2 + 1 - 1) * 1) := Lib.hid (by rw [enc_len, List.length_drop, HL.out.2]; omega)
  have Hrow : Hid (enc (row s.data.toList) ++ enc ((row t.data.toList).drop 1) = enc (row (s ++ t).data.toList)) := Lib.hid (by rw [HR.out, enc_app])
  have HLe : Hid (2 * N1 + 1 + (2 * N2 + 1 - 1) ≤ 4096) := Lib.hid (by omega)
  have hn21 : 1 ≤ 2 * N2 + 1 := by omega
  clear e3 HV1 HV2 HV3 HF1 HF2 HF3 HF4 HE HL HR
  generalize 2 * N2 + 1 = n2 at *
  generalize 2 * N1 + 1 = n1 at *
  have hi1 : (1 : Int) ≤ (n2 : Int) := by omega
  have hi2 : (n2 : Int) ≤ (c2 : Int) := by omega
  have hb1 : 0 + n1 ≤ maxLen := by simp only [maxLen]; have := HLe.out; omega
  have hb2 : (0 + n1) * 16 ≤ 140737488355328 := by have := HLe.out; omega
  have hb3 : n1 + (n2 - 1) ≤ maxLen := by simp only [maxLen]; have := HLe.out; omega
  have hb4 : (n1 + (n2 - 1)) * 16 ≤ 140737488355328 := by have := HLe.out; omega
  by_cases hc1 : c2 = 1
  · subst hc1
    obtain rfl : n2 = 1 := by omega
    have Hz := Lib.hid (List.eq_nil_of_length_eq_zero (show (enc ((row t.data.toList).drop 1)).length = 0 by rw [Hl2.out]))
    rw [Hz.out, List.append_nil] at Hrow
    simp only [Nat.sub_self, Nat.add_zero] at *
    go_region_law (first
      | (refine step_append_own rfl (.tmp 68) (.tmp 69) 22 rfl w4.heap.size 27 i0 (.complex .f64 0 0) 1 16 Try.underlying22 hi0 hz0 hz1 hz2 rfl (by decide) _ 0 [] (by simp [Act.eval]) (Hown.out _ (Nat.le_refl _)) ⟨g1, 0, none⟩ n1 c1 (enc (row s.data.toList)) (by simp [Act.eval]) Hl1.out (Hn1.out _ (by repeat (first | exact Fr.refl _ _ | refine Fr.alloc ?_ _ | refine Fr.drewN ?_ _ | refine Fr.drew ?_))) (enc_one _) hb1 hb2 (by simp) ?_
         intro A5 c5 w5 hown5 hgrow5
         have hf5 : Fr [] w4 w5 := Fr.own (w := (w4.alloc (.cells #[] 27)).drew) ((Fr.refl _ _).alloc _).drew (Hown.out w4 (Nat.le_refl _)) hgrow5
         simp only [Nat.zero_add, List.nil_append] at hown5)
      | (refine step_append_own rfl (.tmp 70) (.tmp 72) 22 rfl w4.heap.size 27 i0 (.complex .f64 0 0) 1 16 Try.underlying22 hi0 hz0 hz1 hz2 rfl (by decide) _ n1 _ (by simp [Act.eval]) hown5 ⟨g2, 0, none⟩ 0 0 [] (by simp [Act.eval]) rfl (by simp) (by simp) hb3 hb4 hf5.size ?_
         intro A6 c6 w6 hown6 hgrow6
         have hf6 : Fr [] w4 w6 := hf5.own hown5 hgrow6
         simp only [Nat.add_zero, List.append_nil] at hown6
         rw [Hrow.out] at hown6)
      | (go_simp; go_at_call 7; refine (same_rows _ _ _ n1 _ (Hs3.out _ hf6) (Sl.of_own hown6) HLe.out).mono ?_; rintro e w7 ⟨rfl, hf7⟩)
      | fail)
    go_wp2_with fail
    go_ret
    exact ⟨rfl, (HF.out.trans hf6).trans hf7⟩
  · have hc1' : ¬ (c2 : Int) = 1 := by omega
    have hc1'' : ¬ (1 : Int) = (c2 : Int) := by omega
    go_region_law (first
      | (refine step_append_own rfl (.tmp 68) (.tmp 69) 22 rfl w4.heap.size 27 i0 (.complex .f64 0 0) 1 16 Try.underlying22 hi0 hz0 hz1 hz2 rfl (by decide) _ 0 [] (by simp [Act.eval]) (Hown.out _ (Nat.le_refl _)) ⟨g1, 0, none⟩ n1 c1 (enc (row s.data.toList)) (by simp [Act.eval]) Hl1.out (Hn1.out _ (by repeat (first | exact Fr.refl _ _ | refine Fr.alloc ?_ _ | refine Fr.drewN ?_ _ | refine Fr.drew ?_))) (enc_one _) hb1 hb2 (by simp) ?_
         intro A5 c5 w5 hown5 hgrow5
         have hf5 : Fr [] w4 w5 := Fr.own (w := (w4.alloc (.cells #[] 27)).drew) ((Fr.refl _ _).alloc _).drew (Hown.out w4 (Nat.le_refl _)) hgrow5
         simp only [Nat.zero_add, List.nil_append] at hown5)
      | (refine step_append_own rfl (.tmp 70) (.tmp 72) 22 rfl w4.heap.size 27 i0 (.complex .f64 0 0) 1 16 Try.underlying22 hi0 hz0 hz1 hz2 rfl (by decide) _ n1 _ (by simp [Act.eval]) hown5 ⟨g2, 1, none⟩ (n2 - 1) (c2 - 1) (enc ((row t.data.toList).drop 1)) (by simp [Act.eval]) Hl2.out (Hn2.out _ hf5) (enc_one _) hb3 hb4 hf5.size ?_
         intro A6 c6 w6 hown6 hgrow6
         have hf6 : Fr [] w4 w6 := hf5.own hown5 hgrow6
         rw [Hrow.out] at hown6)
      | (go_simp; go_at_call 7; refine (same_rows _ _ _ (n1 + (n2 - 1)) _ (Hs3.out _ hf6) (Sl.of_own hown6) HLe.out).mono ?_; rintro e w7 ⟨rfl, hf7⟩)
      | fail)
    go_wp2_with fail
    go_ret
    exact ⟨rfl, (HF.out.trans hf6).trans hf7⟩
theorem joins_walk (s t : ByteArray) (w : World) (hs : s.size ≤ 140737488355328) (ht : t.size ≤ 140737488355328) : Calls Try.prog 4 #[.string s, .string t] w fun e w' => e = .returned (.bool true) ∧ Fr [] w w' := by
  by_cases h : s.size + t.size ≤ 2047
  · exact joins_short s t w h
  · exact joins_long s t w (by omega) (by omega) (by omega) (by omega)
end Go.Proofs.Ytjnefafkpaopaaa
