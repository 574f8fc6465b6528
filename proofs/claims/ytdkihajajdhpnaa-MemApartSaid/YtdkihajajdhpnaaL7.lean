/- MemApart, walked. -/
import Derived.Test.YtdkihajajdhpnaaW17
import Derived.Deep.RegionHeld3
import Derived.Deep.DrawnRows
namespace Go.Proofs.Ytdkihajajdhpnaa
open Go.RowKit
set_option linter.unusedVariables false
set_option linter.unusedSimpArgs false
theorem box5 {W : World} {b : Nat} {T : TypeId} {v0 v1 v2 v3 v4 : Value} (h : Blk W b T #[v0, v1, v2, v3, v4]) : W.cell? ⟨b, 0, none⟩ = some v0 ∧ W.cell? ⟨b, 1, none⟩ = some v1 ∧ W.cell? ⟨b, 2, none⟩ = some v2 ∧ W.cell? ⟨b, 3, none⟩ = some v3 ∧ W.cell? ⟨b, 4, none⟩ = some v4 := by
  rw [h.cell, h.cell, h.cell, h.cell, h.cell]
  exact ⟨rfl, rfl, rfl, rfl, rfl⟩
theorem box6 {W : World} {b : Nat} {T : TypeId} {v0 v1 v2 v3 v4 v5 : Value} (h : Blk W b T #[v0, v1, v2, v3, v4, v5]) : W.cell? ⟨b, 0, none⟩ = some v0 ∧ W.cell? ⟨b, 1, none⟩ = some v1 ∧ W.cell? ⟨b, 2, none⟩ = some v2 ∧ W.cell? ⟨b, 3, none⟩ = some v3 ∧ W.cell? ⟨b, 4, none⟩ = some v4 ∧ W.cell? ⟨b, 5, none⟩ = some v5 := by
  rw [h.cell, h.cell, h.cell, h.cell, h.cell, h.cell]
  exact ⟨rfl, rfl, rfl, rfl, rfl, rfl⟩
set_option maxRecDepth 100000 in
set_option maxHeartbeats 400000 in
theorem apart_bad (many : Int) (S : ByteArray) (w : World) (h : many < 1 ∨ 160 < many) (A1 A2 As : Option Addr) (m1 c1 m2 c2 ns cs : Nat) :
    Calls Try.prog 7 #[.agg #[.int .i64 many, .slice A1 m1 c1, .slice A2 m2 c2, .slice As ns cs, .string S]] w fun e w' => e = .returned (.bool true) ∧ Fr [] w w' := by
  have Hn := Lib.hid fun W => New_bad many W h
  have Hx := Lib.hid fun W => fixed_any W
  clear h
  obtain ⟨q0, q1, q2, q3, q4⟩ := box5 (Blk.new w 64 #[.int .i64 many, .slice A1 m1 c1, .slice A2 m2 c2, .slice As ns cs, .string S])
  go_enter Try.func7, Try.ntmps7
  go_wp2_with fail
  go_quiet (fail)
  go_wp2_with (first
    | (go_at_call 10; go_must ((with_reducible refine (Hn.out _).mono ?_); rintro e w1 ⟨rfl, rfl⟩))
    | (go_at_call 11; go_must ((with_reducible refine (Hx.out _).mono ?_); rintro e w1 ⟨rfl, hf1⟩))
    | fail)
  go_ret
  exact ⟨rfl, (((Fr.refl [] w).alloc _).drewN _).trans hf1⟩
theorem Tb.of_lay {w : World} {b : Nat} {v : Value} {t : List Pg} (h : Tb w b v t) : ∃ A n cap, v = .slice A n cap ∧ n = t.length := by
  obtain ⟨A, cap, rfl, _⟩ := h.2
  exact ⟨A, _, cap, rfl, rfl⟩
set_option maxRecDepth 100000 in
set_option maxHeartbeats 8000000 in
theorem apart_ok (n : Nat) (S : ByteArray) (w : World) (b1 b2 m1 c1 m2 c2 ns cs : Nat) (A1 A2 As : Option Addr) (t1 t2 : List Pg) (ops : Nat → OpM) (h1 : 1 ≤ n) (h2 : n ≤ 160) (hS : S.size ≤ maxLen)
    (ht1 : Tb w b1 (.slice A1 m1 c1) t1) (hb1 : b1 < w.heap.size ∨ b1 = 0) (ht2 : Tb w b2 (.slice A2 m2 c2) t2) (hb2 : b2 < w.heap.size ∨ b2 = 0) (ho : OpsIn w (.slice As ns cs) ns ops) :
    Calls Try.prog 7 #[.agg #[.int .i64 n, .slice A1 m1 c1, .slice A2 m2 c2, .slice As ns cs, .string S]] w fun e w' => e = .returned (.bool true) ∧ Fr [] w w' := by
  have Hn := Lib.hid fun W => New_any n W h1 h2
  have Hx := Lib.hid fun W => fixed_any W
  have Ht1 := Lib.hid ht1
  have Ht2 := Lib.hid ht2
  have Ho := Lib.hid ho
  have hml2 := Lib.hid ht2.n_eq
  have hm2l : m2 ≤ 9223372036854775807 := by have := ht2.len; rw [← ht2.n_eq] at this; simpa [maxLen] using this
  have hnl := ho.1
  simp only [maxLen] at hnl
  clear ht1 ht2 ho
  obtain ⟨q0, q1, q2, q3, q4⟩ := box5 (Blk.new w 64 #[.int .i64 n, .slice A1 m1 c1, .slice A2 m2 c2, .slice As ns cs, .string S])
  go_enter Try.func7, Try.ntmps7
  go_wp2_with fail
  go_quiet (fail)
  go_wp2_with (first
    | (go_at_call 10; go_must ((with_reducible refine (Hn.out _).mono ?_); rintro e w1 ⟨p, F, rfl, hm1, hf1, hp1, hF1⟩))
    | (go_at_call 11; go_must (
        (with_reducible refine (Hx.out _).mono ?_)
        rintro e w2 ⟨rfl, hf2⟩
        have HM2 := Lib.hid (hm1.to hf2 (by simp) (by simp))
        have HF2 := Lib.hid (((((Fr.refl [] w).alloc (.cells #[.int .i64 n, .slice A1 m1 c1, .slice A2 m2 c2, .slice As ns cs, .string S] 64)).drewN _).trans hf1).trans hf2)
        have hpS : Hid (w.heap.size < p) := Lib.hid (by simp at hp1; omega)
        have hFS : Hid (w.heap.size < F) := Lib.hid (by simp at hF1; omega)
        clear hm1 hf1 hf2 hp1 hF1 q0 q1 q2 q3 q4))
    | fail)
  have Hc1 : Hid (∀ W, Fr [] w2 W → Calls Try.prog 23 #[ptr p, .slice A1 m1 c1] W fun e w' => e = .returned (.int .i64 (chT n t1)) ∧ Fr [] W w') := Lib.hid fun W hW => Check_any b1 p F n m1 c1 A1 t1 W ((Ht1.out.fr HF2.out (by simp)).fr hW (by simp)) (HM2.out.to hW (by simp) (by simp)).hd
  have Hc2 : Hid (∀ W, Fr [] w2 W → Calls Try.prog 23 #[ptr p, .slice A2 m2 c2] W fun e w' => e = .returned (.int .i64 (chT n t2)) ∧ Fr [] W w') := Lib.hid fun W hW => Check_any b2 p F n m2 c2 A2 t2 W ((Ht2.out.fr HF2.out (by simp)).fr hW (by simp)) (HM2.out.to hW (by simp) (by simp)).hd
  have Hsh : Hid (∀ W, Fr [] w2 W → Calls Try.prog 28 #[.slice A1 m1 c1, .slice A2 m2 c2] W (SharesP W t1 t2)) := Lib.hid fun W hW => shares_any b1 b2 m1 m2 c1 c2 A1 A2 t1 t2 W ((Ht1.out.fr HF2.out (by simp)).fr hW (by simp)) ((Ht2.out.fr HF2.out (by simp)).fr hW (by simp))
  cases hT1 : okT n t1 with
  | false =>
    have hc : chT n t1 = 84 := by unfold chT; rw [hT1]; rfl
    rw [hc] at Hc1
    clear hT1 hc
    refine (Hc1.out _ (Fr.refl _ _)).mono ?_
    rintro e w3 ⟨rfl, hf3⟩
    go_wp2_with fail
    go_ret
    exact ⟨rfl, HF2.out.trans hf3⟩
  | true =>
    have hc : chT n t1 = 0 := by unfold chT; rw [hT1]; rfl
    rw [hc] at Hc1
    have HT1 := Lib.hid hT1
    clear hT1 hc
    refine (Hc1.out _ (Fr.refl _ _)).mono ?_
    rintro e w3 ⟨rfl, hf3⟩
    go_wp2_with fail
    cases hT2 : okT n t2 with
    | false =>
      have hc : chT n t2 = 84 := by unfold chT; rw [hT2]; rfl
      rw [hc] at Hc2
      clear hT2 hc
      refine (Hc2.out _ hf3).mono ?_
      rintro e w4 ⟨rfl, hf4⟩
      go_wp2_with fail
      go_ret
      exact ⟨rfl, (HF2.out.trans hf3).trans hf4⟩
    | true =>
      have hc : chT n t2 = 0 := by unfold chT; rw [hT2]; rfl
      rw [hc] at Hc2
      have HT2 := Lib.hid hT2
      clear hT2 hc
      refine (Hc2.out _ hf3).mono ?_
      rintro e w4 ⟨rfl, hf4⟩
      have Hf4 := Lib.hid (hf3.trans hf4)
      clear hf3 hf4
      go_wp2_with fail
      refine (Hsh.out _ Hf4.out).mono ?_
      rintro e w5 ⟨b, rfl, hb, hf5⟩
      have Hf5 := Lib.hid (Hf4.out.trans hf5)
      have Hb := Lib.hid hb
      clear hf5 hb
      cases b with
      | true =>
        go_wp2_with fail
        go_ret
        exact ⟨rfl, HF2.out.trans Hf5.out⟩
      | false =>
        have Hns := Lib.hid (Hb.out rfl)
        have HM5 := Lib.hid (HM2.out.to Hf5.out (by simp) (by simp))
        have HF5 := Lib.hid (HF2.out.trans Hf5.out)
        obtain ⟨st0, hst0⟩ : ∃ st0 : St, st0 = ⟨n, fun _ => 0⟩ := ⟨_, rfl⟩
        rw [← hst0] at HM5
        have Hn0 : Hid (st0.n = n) := Lib.hid (by rw [hst0])
        clear hst0 Hc1 Hc2 Hsh
        go_wp2_with fail
        refine (Clone_any p F st0 w5 HM5.out).mono ?_
        rintro e w6 ⟨px, Fx, rfl, hx6, hf6, hpx, hFx⟩
        have HX6 := Lib.hid hx6
        have HM6 := Lib.hid (HM5.out.to hf6 (by simp) (by simp))
        have HF6 := Lib.hid (HF5.out.trans hf6)
        have Hpx : Hid (p < Fx ∧ F < Fx ∧ w.heap.size < Fx ∧ p < px ∧ F < px ∧ px ≠ Fx) := Lib.hid (by
          have h1 := HM5.out.hd.lt
          have h2 := HM5.out.ltF
          have h3 := hpS.out
          have h4 := hx6.ne
          omega)
        have Hbb : Hid (b1 ≠ F ∧ b2 ≠ F ∧ b1 ≠ Fx ∧ b2 ≠ Fx ∧ b1 < w6.heap.size ∧ b2 < w6.heap.size) := Lib.hid (by
          have h1 := HM6.out.hd.lt
          have h2 := hFS.out
          have h3 := Hpx.out
          have h4 := hpS.out
          omega)
        clear hx6 hf6 hpx hFx
        go_wp2_with fail
        go_loopg [11] m2 (fun gg i wr => ∃ (k : Nat) (st' : St), k + gg = m2 ∧ i = .int .i64 k ∧ Alike8 t1 st0 st' ∧ MemAt wr px Fx st' ∧ Fr [Fx] w6 wr)
        case atStart => exact ⟨0, st0, by omega, rfl, Alike8.refl _ _, HX6.out, Fr.refl _ _⟩
        case round =>
          obtain ⟨k, st', hk, rfl, hal, hM, hf⟩ := hrel
          have Hk := Lib.hid hk
          have Hal := Lib.hid hal
          have HM := Lib.hid hM
          have Hf := Lib.hid hf
          by_cases hlt : k < m2
          · have hki : (k : Int) < (m2 : Int) := by omega
            have hk0 : (0 : Int) ≤ (k : Int) := by omega
            obtain ⟨q, hq⟩ : ∃ q, t2[k]? = some q := ⟨_, List.getElem?_eq_getElem (by have := hml2.out; omega)⟩
            have hq4 := okT_at HT2.out hq
            have hqm := Lib.hid (List.mem_of_getElem? hq)
            obtain ⟨off, rfl, hbl, c0, _⟩ := ((Ht2.out.fr HF6.out (by simp)).fr hf (by have := Hbb.out; simp; omega)).at_ hq
            by_cases h0 : 0 ≤ q.f
            · obtain ⟨f, hqf⟩ := Int.eq_ofNat_of_zero_le h0
              have Hqf := Lib.hid hqf
              have hL := Lib.hid (Lay_zero px Fx st' wr f S hM hS (by have := hal.n; have := Hn0.out; omega))
              rw [hqf] at c0
              have h0f : (0 : Int) ≤ (f : Int) := by omega
              clear hk hal hM hf hq hq4 hbl h0 hqf
              go_wp2_with fail
              refine hL.out.mono ?_
              rintro e w7 ⟨r, rfl, ⟨l, hl, hm7⟩, hf7⟩
              have HM7 := Lib.hid hm7
              have Hf7 := Lib.hid (Hf.out.trans hf7)
              have Hl := Lib.hid hl
              clear hm7 hf7 hl
              go_wp2_with fail
              go_roundg (m2 - (k + 1))
              case measure => have := Hk.out; omega
              case rel =>
                refine ⟨k + 1, ⟨st'.n, putL st'.b (f * 256) l⟩, by have := Hk.out; omega, by go_num, ?_, HM7.out, Hf7.out⟩
                have h := lay_alike Hns.out Hal.out hqm.out (by rw [Hqf.out]; omega) l Hl.out
                rw [Hqf.out, Int.toNat_natCast] at h
                exact h
            · clear hk hal hM hf hq hq4 hbl
              generalize q.f = Q at *
              go_wp2_with fail
              go_roundg (m2 - (k + 1))
              case measure => have := Hk.out; omega
              case rel => exact ⟨k + 1, st', by have := Hk.out; omega, by go_num, Hal.out, HM.out, Hf.out⟩
          · have hki : ¬ (k : Int) < (m2 : Int) := by omega
            obtain ⟨w7, rfl⟩ : ∃ w7 : World, w7 = wr := ⟨_, rfl⟩
            have HM7 := Lib.hid (HM6.out.to hf (by have := Hpx.out; simp; omega) (by have := Hpx.out; simp; omega))
            have HF7 := Lib.hid (HF6.out.late hf (by have := Hpx.out; omega))
            have Hsz7 := Lib.hid hf.size
            have hclone := Lib.hid (Clone_any p F st0 w7 HM7.out)
            clear hk hal hM hf
            go_wp2_with fail
            refine hclone.out.mono ?_
            rintro e w8 ⟨py, Fy, rfl, hy8, hf8, hpy, hFy⟩
            have HF8 := Lib.hid (HF7.out.trans hf8)
            have Hpy : Hid (py ≠ F ∧ py ≠ Fx ∧ Fy ≠ F ∧ Fy ≠ Fx) := Lib.hid (by
              have h1 := HM7.out.ltF
              have h2 := HM.out.ltF
              omega)
            have HN : Hid (ApN ⟨p, F, px, Fx, py, Fy, b1, b2, A1, A2, As, m1, c1, m2, c2, ns, cs, t1, t2, ops⟩) := Lib.hid (by
              have h1 := Hpx.out
              have h2 := Hpy.out
              have h3 := Hbb.out
              have h4 := HM7.out.ne
              have h5 := hFS.out
              refine ⟨⟨h4, ?_, h2.1, ?_, h2.2.2.1, h3.1, h3.2.1⟩, ⟨?_, h1.2.2.2.2.2, h2.2.1, ?_, h2.2.2.2, h3.2.2.1, h3.2.2.2.1⟩, fun h0 b off hA => ?_⟩
              · show px ≠ F; omega
              · show Fx ≠ F; omega
              · show p ≠ Fx; omega
              · show F ≠ Fx; omega
              · obtain ⟨b', off', hA', hb', _⟩ := Ho.out.at_ (i := 0) h0
                rw [hA'] at hA
                injection hA with hA
                injection hA with hA _
                subst hA
                show b' ≠ F ∧ b' ≠ Fx
                omega)
            have HA : Hid (Ap w8 ⟨p, F, px, Fx, py, Fy, b1, b2, A1, A2, As, m1, c1, m2, c2, ns, cs, t1, t2, ops⟩ st0 st' st0) := Lib.hid
              ⟨HM7.out.to hf8 (by simp) (by simp), HM.out.to hf8 (by simp) (by simp), hy8, Ht1.out.fr HF8.out (by simp), Ht2.out.fr HF8.out (by simp), Ho.out.fr HF8.out,
                by have := Hbb.out; have := Hsz7.out; have := hf8.size; show b1 < _; omega, by have := Hbb.out; have := Hsz7.out; have := hf8.size; show b2 < _; omega⟩
            have HK : Hid (Keep8 ⟨p, F, px, Fx, py, Fy, b1, b2, A1, A2, As, m1, c1, m2, c2, ns, cs, t1, t2, ops⟩ n st0 st' st0) := Lib.hid ⟨Hn0.out, Hn0.out, Hal.out, fun _ _ => rfl⟩
            obtain ⟨L, hL⟩ : ∃ L : ApL, L = ⟨p, F, px, Fx, py, Fy, b1, b2, A1, A2, As, m1, c1, m2, c2, ns, cs, t1, t2, ops⟩ := ⟨_, rfl⟩
            have HA' : Hid (Ap w8 L st0 st' st0) := by rw [hL]; exact HA
            have HK' : Hid (Keep8 L n st0 st' st0) := by rw [hL]; exact HK
            have Hsh : Hid (noSh L.t1 L.t2) := by rw [hL]; exact Hns
            have Hlt : Hid (∀ W x y, Ap W L x y st0 → F < W.heap.size ∧ Fx < W.heap.size) := by subst hL; exact Lib.hid fun W x y h => ⟨h.m.ltF, h.x.ltF⟩
            have Hop : Hid (∀ W x y, Ap W L x y st0 → ∀ k, k < ns → ∃ bo off, As = some ⟨bo, off, none⟩ ∧ bo < W.heap.size ∧ OpM.at W bo (off + k * 6) (ops k)) := by subst hL; exact Lib.hid fun W x y h k hk => h.ops.at_ hk
            have HRM : Hid (∀ W x y, Ap W L x y st0 → ∀ a n r, a ≤ 9223372036854775807 → Calls Try.prog 18 #[ptr p, .slice A1 m1 c1, .int .i64 a, .int .i64 n, .int .i64 r] W (ReadP W x t1 a n r)) := by subst hL; exact Lib.hid fun W x y h a n r ha => h.readM a n r ha
            have HRX : Hid (∀ W x y, Ap W L x y st0 → ∀ a n r, a ≤ 9223372036854775807 → Calls Try.prog 18 #[ptr px, .slice A1 m1 c1, .int .i64 a, .int .i64 n, .int .i64 r] W (ReadP W y t1 a n r)) := by subst hL; exact Lib.hid fun W x y h a n r ha => h.readX a n r ha
            have HRM2 : Hid (∀ W x y, Ap W L x y st0 → ∀ a n r, a ≤ 9223372036854775807 → Calls Try.prog 18 #[ptr p, .slice A2 m2 c2, .int .i64 a, .int .i64 n, .int .i64 r] W (ReadP W x t2 a n r)) := by subst hL; exact Lib.hid fun W x y h a n r ha => h.readM2 a n r ha
            have HRY2 : Hid (∀ W x y, Ap W L x y st0 → ∀ a n r, a ≤ 9223372036854775807 → Calls Try.prog 18 #[ptr py, .slice A2 m2 c2, .int .i64 a, .int .i64 n, .int .i64 r] W (ReadP W st0 t2 a n r)) := by subst hL; exact Lib.hid fun W x y h a n r ha => h.readY2 a n r ha
            have HLM : Hid (∀ W x y, Ap W L x y st0 → ∀ a k r, a ≤ 9223372036854775807 → Calls Try.prog 16 #[ptr p, .slice A1 m1 c1, .int .i64 a, .int .i64 k, .int .i64 r] W fun e w' => e = .returned (.tuple #[.int .i64 (ldR x t1 a k r).1, .int .i64 (ldR x t1 a k r).2]) ∧ Fr [] W w') := by subst hL; exact Lib.hid fun W x y h a k r ha => h.loadM a k r ha
            have HLX : Hid (∀ W x y, Ap W L x y st0 → ∀ a k r, a ≤ 9223372036854775807 → Calls Try.prog 16 #[ptr px, .slice A1 m1 c1, .int .i64 a, .int .i64 k, .int .i64 r] W fun e w' => e = .returned (.tuple #[.int .i64 (ldR y t1 a k r).1, .int .i64 (ldR y t1 a k r).2]) ∧ Fr [] W w') := by subst hL; exact Lib.hid fun W x y h a k r ha => h.loadX a k r ha
            have HWM : Hid (∀ W x y, Ap W L x y st0 → ∀ a s, a ≤ 9223372036854775807 → Calls Try.prog 14 #[ptr p, .slice A1 m1 c1, .int .i64 a, .string s] W (WrP W L (wrS x t1 a s) y st0 F (wrE x t1 a s))) := by subst hL; exact Lib.hid fun W x y h a s ha => h.writeM HN.out a s ha
            have HWX : Hid (∀ W x y, Ap W L x y st0 → ∀ a s, a ≤ 9223372036854775807 → Calls Try.prog 14 #[ptr px, .slice A1 m1 c1, .int .i64 a, .string s] W (WrP W L x (wrS y t1 a s) st0 Fx (wrE y t1 a s))) := by subst hL; exact Lib.hid fun W x y h a s ha => h.writeX HN.out a s ha
            have HSM : Hid (∀ W x y, Ap W L x y st0 → ∀ a k n, a ≤ 9223372036854775807 → Calls Try.prog 29 #[ptr p, .slice A1 m1 c1, .int .i64 a, .int .i64 k, .int .i64 n] W (WrP W L (stS x t1 a k n) y st0 F (stE x t1 a k n))) := by subst hL; exact Lib.hid fun W x y h a k n ha => h.storeM HN.out a k n ha
            have HSX : Hid (∀ W x y, Ap W L x y st0 → ∀ a k n, a ≤ 9223372036854775807 → Calls Try.prog 29 #[ptr px, .slice A1 m1 c1, .int .i64 a, .int .i64 k, .int .i64 n] W (WrP W L x (stS y t1 a k n) st0 Fx (stE y t1 a k n))) := by subst hL; exact Lib.hid fun W x y h a k n ha => h.storeX HN.out a k n ha
            have Ht1L : Hid (L.t1 = t1 ∧ L.t2 = t2) := by rw [hL]; exact Lib.hid ⟨rfl, rfl⟩
            clear HA HK hL HN
            have Hfs : Hid (w.heap.size ≤ F ∧ w.heap.size ≤ Fx) := Lib.hid (by have := hFS.out; have := Hpx.out; omega)
            clear hf8 hy8 hpy hFy Hf Hal HM HM7 HF7
            go_wp2_with fail
            go_loopg [13] ns (fun gg i wr => ∃ (k : Nat) (st st' : St), k + gg = ns ∧ i = .int .i64 k ∧ Keep8 L n st st' st0 ∧ Ap wr L st st' st0 ∧ Fr [] w wr)
            case atStart => exact ⟨0, _, _, by omega, rfl, HK'.out, HA'.out, HF8.out⟩
            case round =>
              obtain ⟨k, st, st'', hk, rfl, hkp, hap, hf⟩ := hrel
              clear HA' HK' HF8
              have Hk := Lib.hid hk
              have HKp := Lib.hid hkp
              have HAp := Lib.hid hap
              have Hf := Lib.hid hf
              by_cases hlt : k < ns
              · have hki : (k : Int) < (ns : Int) := by omega
                have hk0 : (0 : Int) ≤ (k : Int) := by omega
                obtain ⟨bo, off, rfl, hbl, j0, j1, j2, j3, j4, j5⟩ := Hop.out _ _ _ hap k hlt
                obtain ⟨oOn, oK, oa, ob, oc, oS, k0, k1, k2, k3, k4, k5, hao, hao2, hbo⟩ : ∃ (oOn oK oa ob oc : Int) (oS : ByteArray), wr.cell? ⟨bo, off + k * 6, none⟩ = some (.int .i64 oOn) ∧ wr.cell? ⟨bo, off + k * 6 + 1, none⟩ = some (.int .i64 oK) ∧ wr.cell? ⟨bo, off + k * 6 + 2, none⟩ = some (.int .i64 oa) ∧
                    wr.cell? ⟨bo, off + k * 6 + 3, none⟩ = some (.int .i64 ob) ∧ wr.cell? ⟨bo, off + k * 6 + 4, none⟩ = some (.int .i64 oc) ∧ wr.cell? ⟨bo, off + k * 6 + 5, none⟩ = some (.string oS) ∧ oa ≤ 9223372036854775807 ∧ -9223372036854775808 ≤ oa ∧ bo < wr.heap.size :=
                  ⟨_, _, _, _, _, _, j0, j1, j2, j3, j4, j5, by have := bounds_i64 (ops k).hA; omega, by have := bounds_i64 (ops k).hA; omega, hbl⟩
                clear j0 j1 j2 j3 j4 j5
                have hbx := Blk.new wr 54 #[.int .i64 oOn, .int .i64 oK, .int .i64 oa, .int .i64 ob, .int .i64 oc, .string oS]
                have hA1 := hap.fr ((Fr.refl [] wr).alloc (.cells #[.int .i64 oOn, .int .i64 oK, .int .i64 oa, .int .i64 ob, .int .i64 oc, .string oS] 54))
                have hF1 := hf.alloc (.cells #[.int .i64 oOn, .int .i64 oK, .int .i64 oa, .int .i64 ob, .int .i64 oc, .string oS] 54)
                obtain ⟨x0, x1, x2, x3, x4, x5⟩ := box6 hbx
                have Hbx := Lib.hid hbx
                have HA1 := Lib.hid hA1
                have HF1 := Lib.hid hF1
                have hale := hkp.alike
                rw [Ht1L.out.1] at hale
                have HWE := Lib.hid (wrE_alike hale oa oS)
                have HSE := Lib.hid (stE_alike hale oa ob oc)
                have hkw := hkp.wr Hsh.out oa oS
                have hks := hkp.sto Hsh.out oa ob oc
                rw [Ht1L.out.1] at hkw hks
                have HKw := Lib.hid hkw
                have HKs := Lib.hid hks
                have HRD := Lib.hid (rd_alike hale oa ob oc)
                have HLD := Lib.hid (ld_alike hale oa ob oc)
                have Hoo := Lib.hid (And.intro hao (And.intro hao2 hbo))
                have hne : Hid (wr.heap.size ≠ F ∧ wr.heap.size ≠ Fx) := Lib.hid (by have := Hlt.out _ _ _ hap; omega)
                clear hk hkp hap hf hbl hbx hA1 hF1 hao hao2 hbo hale hkw hks
                by_cases c0 : oK = 0
                · subst c0
                  have h9 := HRM.out _ _ _ HA1.out oa ob oc Hoo.out.1
                  have h10 := Lib.hid fun W (h : Ap W L st st'' st0) => HRX.out W _ _ h oa ob oc Hoo.out.1
                  unfold ReadP at h9 h10
                  rw [← HRD.out] at h10
                  generalize rdR st t1 oa ob oc = R at *
                  obtain ⟨rl, re⟩ := R
                  simp only at h9 h10
                  generalize (⟨rl.toArray⟩ : ByteArray) = S2 at *
                  have H9 := Lib.hid h9
                  clear h9
                  go_wp2_with fail
                  refine H9.out.mono ?_
                  rintro e w9 ⟨rfl, hf9⟩
                  obtain ⟨x0, x1, x2, x3, x4, x5⟩ := box6 (Hbx.out.fr hf9 (by simp))
                  have HA9 := Lib.hid (HA1.out.fr hf9)
                  have HF9 := Lib.hid (HF1.out.trans hf9)
                  clear hf9
                  go_wp2_with fail
                  refine (h10.out _ HA9.out).mono ?_
                  rintro e w10 ⟨rfl, hf10⟩
                  have HA10 := Lib.hid (HA9.out.fr hf10)
                  have HF10 := Lib.hid (HF9.out.trans hf10)
                  clear hf10
                  go_wp2_with fail
                  go_roundg (ns - (k + 1))
                  case measure => have := Hk.out; omega
                  case rel => exact ⟨k + 1, st, st'', by have := Hk.out; omega, by go_num, HKp.out, HA10.out, HF10.out⟩
                · have c0b : (oK == 0) = false := by rw [beq_eq_false_iff_ne]; exact c0
                  clear c0
                  by_cases c1 : oK = 1
                  · subst c1
                    have hA0 : Ap (wr.alloc (.cells #[.int .i64 oOn, .int .i64 1, .int .i64 oa, .int .i64 ob, .int .i64 oc, .string oS] 54)).drew L st st'' st0 := HA1.out.fr ((Fr.refl [] _).drew)
                    have hF0 : Fr [] w (wr.alloc (.cells #[.int .i64 oOn, .int .i64 1, .int .i64 oa, .int .i64 ob, .int .i64 oc, .string oS] 54)).drew := HF1.out.drew
                    have KM := Lib.hid fun W y (h : Ap W L st y st0) => HWM.out W _ _ h oa oS Hoo.out.1
                    have KX := Lib.hid fun W x (h : Ap W L x st'' st0) => HWX.out W _ _ h oa oS Hoo.out.1
                    rw [← HWE.out] at KX
                    generalize wrE st t1 oa oS = e0 at *
                    generalize wrS st t1 oa oS = sM at *
                    generalize wrS st'' t1 oa oS = sX at *
                    have tok : True := trivial
                    go_wp2_with fail
                    go_region_held3 (fun w' => w'.cell? ⟨wr.heap.size, 2, none⟩ = some (.int .i64 oa) ∧ w'.cell? ⟨wr.heap.size, 5, none⟩ = some (.string oS))
                      (first
                        | exact ⟨x2, x5⟩
                        | exact kk
                        | exact ll)
                      ((first
                        | (go_at_call 14; have _t := tok; (with_reducible refine (KM.out _ _ hA0).mono ?_); rintro e w3 ⟨rfl, hA3, hf3⟩; have kk := (⟨hf3.cell_some (p := ⟨wr.heap.size, 2, none⟩) x2 (by simp; exact hne.out.1), hf3.cell_some (p := ⟨wr.heap.size, 5, none⟩) x5 (by simp; exact hne.out.1)⟩ : _ ∧ _); clear tok)
                        | (go_at_call 14; (with_reducible refine (KX.out _ _ hA3).mono ?_); rintro e w4 ⟨rfl, hA4, hf4⟩; have hF4 := (hF0.late hf3 Hfs.out.1).late hf4 Hfs.out.2; have ll := (⟨hf4.cell_some (p := ⟨wr.heap.size, 2, none⟩) kk.1 (by simp; exact hne.out.2), hf4.cell_some (p := ⟨wr.heap.size, 5, none⟩) kk.2 (by simp; exact hne.out.2)⟩ : _ ∧ _))
                        | (go_at_call 14; have _t := tok; (with_reducible refine (KX.out _ _ hA0).mono ?_); rintro e w3 ⟨rfl, hB3, hf3⟩; have kk := (⟨hf3.cell_some (p := ⟨wr.heap.size, 2, none⟩) x2 (by simp; exact hne.out.2), hf3.cell_some (p := ⟨wr.heap.size, 5, none⟩) x5 (by simp; exact hne.out.2)⟩ : _ ∧ _); clear tok)
                        | (go_at_call 14; (with_reducible refine (KM.out _ _ hB3).mono ?_); rintro e w4 ⟨rfl, hA4, hf4⟩; have hF4 := (hF0.late hf3 Hfs.out.2).late hf4 Hfs.out.1; have ll := (⟨hf4.cell_some (p := ⟨wr.heap.size, 2, none⟩) kk.1 (by simp; exact hne.out.1), hf4.cell_some (p := ⟨wr.heap.size, 5, none⟩) kk.2 (by simp; exact hne.out.1)⟩ : _ ∧ _))))
                    all_goals
                      have HA4 := Lib.hid hA4
                      have HF4 := Lib.hid hF4
                      clear hA4 hF4
                      go_wp2_with fail
                      go_roundg (ns - (k + 1))
                      case measure => have := Hk.out; omega
                      case rel => exact ⟨k + 1, _, _, by have := Hk.out; omega, by go_num, HKw.out, HA4.out, HF4.out⟩
                  · have c1b : (oK == 1) = false := by rw [beq_eq_false_iff_ne]; exact c1
                    clear c1
                    by_cases c2 : oK = 2
                    · subst c2
                      have h9 := HLM.out _ _ _ HA1.out oa ob oc Hoo.out.1
                      have h10 := Lib.hid fun W (h : Ap W L st st'' st0) => HLX.out W _ _ h oa ob oc Hoo.out.1
                      rw [← HLD.out] at h10
                      generalize ldR st t1 oa ob oc = R at *
                      obtain ⟨rl, re⟩ := R
                      simp only at h9 h10
                      have H9 := Lib.hid h9
                      clear h9
                      go_wp2_with fail
                      refine H9.out.mono ?_
                      rintro e w9 ⟨rfl, hf9⟩
                      obtain ⟨x0, x1, x2, x3, x4, x5⟩ := box6 (Hbx.out.fr hf9 (by simp))
                      have HA9 := Lib.hid (HA1.out.fr hf9)
                      have HF9 := Lib.hid (HF1.out.trans hf9)
                      clear hf9
                      go_wp2_with fail
                      refine (h10.out _ HA9.out).mono ?_
                      rintro e w10 ⟨rfl, hf10⟩
                      have HA10 := Lib.hid (HA9.out.fr hf10)
                      have HF10 := Lib.hid (HF9.out.trans hf10)
                      clear hf10
                      go_wp2_with fail
                      go_roundg (ns - (k + 1))
                      case measure => have := Hk.out; omega
                      case rel => exact ⟨k + 1, st, st'', by have := Hk.out; omega, by go_num, HKp.out, HA10.out, HF10.out⟩
                    · have c2b : (oK == 2) = false := by rw [beq_eq_false_iff_ne]; exact c2
                      clear c2
                      by_cases c3 : oK = 3
                      · subst c3
                        have hA0 : Ap (wr.alloc (.cells #[.int .i64 oOn, .int .i64 3, .int .i64 oa, .int .i64 ob, .int .i64 oc, .string oS] 54)).drew L st st'' st0 := HA1.out.fr ((Fr.refl [] _).drew)
                        have hF0 : Fr [] w (wr.alloc (.cells #[.int .i64 oOn, .int .i64 3, .int .i64 oa, .int .i64 ob, .int .i64 oc, .string oS] 54)).drew := HF1.out.drew
                        have KM := Lib.hid fun W y (h : Ap W L st y st0) => HSM.out W _ _ h oa ob oc Hoo.out.1
                        have KX := Lib.hid fun W x (h : Ap W L x st'' st0) => HSX.out W _ _ h oa ob oc Hoo.out.1
                        rw [← HSE.out] at KX
                        generalize stE st t1 oa ob oc = e0 at *
                        generalize stS st t1 oa ob oc = sM at *
                        generalize stS st'' t1 oa ob oc = sX at *
                        have tok : True := trivial
                        go_wp2_with fail
                        go_region_held3 (fun w' => w'.cell? ⟨wr.heap.size, 2, none⟩ = some (.int .i64 oa) ∧ w'.cell? ⟨wr.heap.size, 3, none⟩ = some (.int .i64 ob) ∧ w'.cell? ⟨wr.heap.size, 4, none⟩ = some (.int .i64 oc))
                          (first
                            | exact ⟨x2, x3, x4⟩
                            | exact kk
                            | exact ll)
                          ((first
                            | (go_at_call 29; have _t := tok; (with_reducible refine (KM.out _ _ hA0).mono ?_); rintro e w3 ⟨rfl, hA3, hf3⟩; have kk := (⟨hf3.cell_some (p := ⟨wr.heap.size, 2, none⟩) x2 (by simp; exact hne.out.1), hf3.cell_some (p := ⟨wr.heap.size, 3, none⟩) x3 (by simp; exact hne.out.1), hf3.cell_some (p := ⟨wr.heap.size, 4, none⟩) x4 (by simp; exact hne.out.1)⟩ : _ ∧ _ ∧ _); clear tok)
                            | (go_at_call 29; (with_reducible refine (KX.out _ _ hA3).mono ?_); rintro e w4 ⟨rfl, hA4, hf4⟩; have hF4 := (hF0.late hf3 Hfs.out.1).late hf4 Hfs.out.2; have ll := (⟨hf4.cell_some (p := ⟨wr.heap.size, 2, none⟩) kk.1 (by simp; exact hne.out.2), hf4.cell_some (p := ⟨wr.heap.size, 3, none⟩) kk.2.1 (by simp; exact hne.out.2), hf4.cell_some (p := ⟨wr.heap.size, 4, none⟩) kk.2.2 (by simp; exact hne.out.2)⟩ : _ ∧ _ ∧ _))
                            | (go_at_call 29; have _t := tok; (with_reducible refine (KX.out _ _ hA0).mono ?_); rintro e w3 ⟨rfl, hB3, hf3⟩; have kk := (⟨hf3.cell_some (p := ⟨wr.heap.size, 2, none⟩) x2 (by simp; exact hne.out.2), hf3.cell_some (p := ⟨wr.heap.size, 3, none⟩) x3 (by simp; exact hne.out.2), hf3.cell_some (p := ⟨wr.heap.size, 4, none⟩) x4 (by simp; exact hne.out.2)⟩ : _ ∧ _ ∧ _); clear tok)
                            | (go_at_call 29; (with_reducible refine (KM.out _ _ hB3).mono ?_); rintro e w4 ⟨rfl, hA4, hf4⟩; have hF4 := (hF0.late hf3 Hfs.out.2).late hf4 Hfs.out.1; have ll := (⟨hf4.cell_some (p := ⟨wr.heap.size, 2, none⟩) kk.1 (by simp; exact hne.out.1), hf4.cell_some (p := ⟨wr.heap.size, 3, none⟩) kk.2.1 (by simp; exact hne.out.1), hf4.cell_some (p := ⟨wr.heap.size, 4, none⟩) kk.2.2 (by simp; exact hne.out.1)⟩ : _ ∧ _ ∧ _))))
                        all_goals
                          have HA4 := Lib.hid hA4
                          have HF4 := Lib.hid hF4
                          clear hA4 hF4
                          go_wp2_with fail
                          go_roundg (ns - (k + 1))
                          case measure => have := Hk.out; omega
                          case rel => exact ⟨k + 1, _, _, by have := Hk.out; omega, by go_num, HKs.out, HA4.out, HF4.out⟩
                      · have c3b : (oK == 3) = false := by rw [beq_eq_false_iff_ne]; exact c3
                        clear c3
                        go_wp2_with fail
                        go_roundg (ns - (k + 1))
                        case measure => have := Hk.out; omega
                        case rel => exact ⟨k + 1, st, st'', by have := Hk.out; omega, by go_num, HKp.out, HA1.out, HF1.out⟩
              · have hki : ¬ (k : Int) < (ns : Int) := by omega
                obtain ⟨w9, rfl⟩ : ∃ w9 : World, w9 = wr := ⟨_, rfl⟩
                have h2a := hkp.two
                rw [Ht1L.out.2] at h2a
                have H2a := Lib.hid h2a
                clear hk hkp hap hf h2a
                go_wp2_with fail
                obtain ⟨K2, hK2⟩ : ∃ K2 : Nat, K2 = m2 * 256 + 2 := ⟨_, rfl⟩
                have hm16 : m2 ≤ 16 := by have := hml2.out; have := okT_len HT2.out; omega
                go_loopg [23] K2 (fun gg i wr => ∃ k : Nat, k + gg = K2 ∧ i = .int .i64 ((k : Int) - 1) ∧ Fr [] w9 wr)
                case atStart => exact ⟨0, by omega, rfl, Fr.refl _ _⟩
                case round =>
                  obtain ⟨k9, hk9, rfl, hf9⟩ := hrel
                  have Hk9 := Lib.hid hk9
                  have Hf9 := Lib.hid hf9
                  obtain ⟨wo, rfl⟩ : ∃ wo : World, wo = wr := ⟨_, rfl⟩
                  by_cases hlt9 : k9 < K2
                  · have hki9 : (k9 : Int) - 1 ≤ 256 * (m2 : Int) := by omega
                    have HR1 := Lib.hid fun W (h : Ap W L st st'' st0) r => HRM2.out W _ _ h ((k9 : Int) - 1) 1 r (by omega)
                    have HR2 := Lib.hid fun W (h : Ap W L st st'' st0) r => HRY2.out W _ _ h ((k9 : Int) - 1) 1 r (by omega)
                    clear hk9 hf9
                    go_wp2_with fail
                    go_loopg [24] 2 (fun gg i wr => ∃ k : Nat, k + gg = 2 ∧ i = .int .i64 (1 + 3 * (k : Int)) ∧ Fr [] wo wr)
                    case atStart => exact ⟨0, by omega, rfl, Fr.refl _ _⟩
                    case round =>
                      obtain ⟨k10, hk10, rfl, hf10⟩ := hrel
                      have Hk10 := Lib.hid hk10
                      have Hf10 := Lib.hid hf10
                      by_cases hlt10 : k10 < 2
                      · have hki10 : 1 + 3 * (k10 : Int) ≤ 4 := by omega
                        have hk100 : (0 : Int) ≤ (k10 : Int) := by omega
                        have hA := HAp.out.fr (Hf9.out.trans hf10)
                        have h9 := HR1.out _ hA (1 + 3 * (k10 : Int))
                        have h10 := Lib.hid fun W (h : Ap W L st st'' st0) => HR2.out W h (1 + 3 * (k10 : Int))
                        have hra := rd_alike H2a.out ((k9 : Int) - 1) 1 (1 + 3 * (k10 : Int))
                        unfold ReadP at h9 h10
                        rw [← hra] at h10
                        generalize rdR st t2 ((k9 : Int) - 1) 1 (1 + 3 * (k10 : Int)) = R at *
                        obtain ⟨rl, re⟩ := R
                        simp only at h9 h10
                        generalize (⟨rl.toArray⟩ : ByteArray) = S2 at *
                        have H9 := Lib.hid h9
                        have HA := Lib.hid hA
                        clear h9 hra hk10 hf10 hA
                        go_wp2_with fail
                        refine H9.out.mono ?_
                        rintro e w11 ⟨rfl, hf11⟩
                        have HA11 := Lib.hid (HA.out.fr hf11)
                        have Hf11 := Lib.hid (Hf10.out.trans hf11)
                        clear hf11
                        go_wp2_with fail
                        refine (h10.out _ HA11.out).mono ?_
                        rintro e w12 ⟨rfl, hf12⟩
                        have Hf12 := Lib.hid (Hf11.out.trans hf12)
                        clear hf12
                        go_wp2_with fail
                        go_roundg (2 - (k10 + 1))
                        case measure => have := Hk10.out; omega
                        case rel => exact ⟨k10 + 1, by have := Hk10.out; omega, by first | (simp; done) | (simp; omega), Hf12.out⟩
                      · have hki10 : ¬ 1 + 3 * (k10 : Int) ≤ 4 := by omega
                        clear hk10 hf10
                        go_wp2_with fail
                        go_roundg (K2 - (k9 + 1))
                        case measure => have := Hk9.out; omega
                        case rel => exact ⟨k9 + 1, by have := Hk9.out; omega, by first | (simp; done) | (simp; omega), Hf9.out.trans Hf10.out⟩
                  · have hki9 : ¬ (k9 : Int) - 1 ≤ 256 * (m2 : Int) := by omega
                    clear hk9 hf9
                    go_wp2_with fail
                    go_ret
                    exact ⟨rfl, Hf.out.trans Hf9.out⟩
theorem apart_walk (many : Int) (S : ByteArray) (w : World) (b1 b2 m1 c1 m2 c2 ns cs : Nat) (A1 A2 As : Option Addr) (t1 t2 : List Pg) (ops : Nat → OpM) (hS : S.size ≤ maxLen)
    (ht1 : Tb w b1 (.slice A1 m1 c1) t1) (hb1 : b1 < w.heap.size ∨ b1 = 0) (ht2 : Tb w b2 (.slice A2 m2 c2) t2) (hb2 : b2 < w.heap.size ∨ b2 = 0) (ho : OpsIn w (.slice As ns cs) ns ops) :
    Calls Try.prog 7 #[.agg #[.int .i64 many, .slice A1 m1 c1, .slice A2 m2 c2, .slice As ns cs, .string S]] w fun e w' => e = .returned (.bool true) ∧ Fr [] w w' := by
  by_cases h : many < 1 ∨ 160 < many
  · exact apart_bad many S w h A1 A2 As m1 c1 m2 c2 ns cs
  · obtain ⟨n, rfl⟩ := Int.eq_ofNat_of_zero_le (by omega : 0 ≤ many)
    exact apart_ok n S w b1 b2 m1 c1 m2 c2 ns cs A1 A2 As t1 t2 ops (by omega) (by omega) hS ht1 hb1 ht2 hb2 ho
end Go.Proofs.Ytdkihajajdhpnaa
