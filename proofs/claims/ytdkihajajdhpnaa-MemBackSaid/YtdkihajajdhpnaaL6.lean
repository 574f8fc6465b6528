/- MemBack, walked. -/
import Derived.Test.YtdkihajajdhpnaaB6
import Derived.BigQuiet
import Derived.Deep.QuietTactic
namespace Go.Proofs.Ytdkihajajdhpnaa
open Go.RowKit
set_option linter.unusedVariables false
set_option linter.unusedSimpArgs false
theorem box2b {W : World} {b : Nat} {T : TypeId} {v0 v1 : Value} (h : Blk W b T #[v0, v1]) : W.cell? ⟨b, 0, none⟩ = some v0 ∧ W.cell? ⟨b, 1, none⟩ = some v1 := by
  rw [h.cell, h.cell]
  exact ⟨rfl, rfl⟩
set_option maxRecDepth 100000 in
set_option maxHeartbeats 400000 in
theorem back_bad (many at_ : Int) (S : ByteArray) (w : World) (h : many < 1 ∨ 160 < many) (A : Option Addr) (m cap : Nat) :
    Calls Try.prog 3 #[.int .i64 many, .slice A m cap, .agg #[.int .i64 at_, .string S]] w fun e w' => e = .returned (.bool true) ∧ Fr [] w w' := by
  have Hn := Lib.hid fun W => New_bad many W h
  have Hx := Lib.hid fun W => fixed_any W
  clear h
  obtain ⟨q0, q1⟩ := box2b (Blk.new w 24 #[.int .i64 at_, .string S])
  go_enter Try.func3, Try.ntmps3
  go_wp2_with fail
  go_quiet (fail)
  go_wp2_with (first
    | (go_at_call 10; go_must ((with_reducible refine (Hn.out _).mono ?_); rintro e w1 ⟨rfl, rfl⟩))
    | (go_at_call 11; go_must ((with_reducible refine (Hx.out _).mono ?_); rintro e w1 ⟨rfl, hf1⟩))
    | fail)
  go_ret
  exact ⟨rfl, (((Fr.refl [] w).alloc _).drewN _).trans hf1⟩
theorem frS_at {st : St} {f i : Nat} (hi : i < 256) (h : i < (frS st f).size) : (frS st f)[i] = st.b (f * 256 + i) := by
  have h1 := frB_at st f i hi
  have h2 := (List.getElem?_eq_some_iff.1 h1).2
  have h3 : (frS st f)[i] = (frS st f).data[i] := rfl
  rw [h3, ← h2]
  simp [frS]
theorem framesL_at {st : St} {n i : Nat} (hi : i < n) : (framesL st n)[i]? = some (frS st i) := by simp [framesL, hi]
theorem framesL_len (st : St) (n : Nat) : (framesL st n).length = n := by simp [framesL]
set_option maxRecDepth 100000 in
set_option maxHeartbeats 8000000 in
theorem back_ok (n : Nat) (at_ : Int) (S : ByteArray) (tb m cap : Nat) (A : Option Addr) (t : List Pg) (w : World) (h1 : 1 ≤ n) (h2 : n ≤ 160) (ht : Tb w tb (.slice A m cap) t) (htb : tb < w.heap.size ∨ tb = 0)
    (hat : -9223372036854775808 ≤ at_ ∧ at_ ≤ 9223372036854775807) :
    Calls Try.prog 3 #[.int .i64 n, .slice A m cap, .agg #[.int .i64 at_, .string S]] w fun e w' => e = .returned (.bool true) ∧ Fr [] w w' := by
  have Hn := Lib.hid fun W => New_any n W h1 h2
  have Hx := Lib.hid fun W => fixed_any W
  have Ht := Lib.hid ht
  have hmt := Lib.hid ht.n_eq
  have hml : m ≤ 9223372036854775807 := by have := ht.len; rw [← ht.n_eq] at this; simpa [maxLen] using this
  clear ht
  obtain ⟨q0, q1⟩ := box2b (Blk.new w 24 #[.int .i64 at_, .string S])
  go_enter Try.func3, Try.ntmps3
  go_wp2_with fail
  go_quiet (fail)
  go_wp2_with (first
    | (go_at_call 10; go_must ((with_reducible refine (Hn.out _).mono ?_); rintro e w1 ⟨p, F, rfl, hm1, hf1, hp1, hF1⟩))
    | (go_at_call 11; go_must ((with_reducible refine (Hx.out _).mono ?_); rintro e w2 ⟨rfl, hf2⟩))
    | fail)
  have HM2 := Lib.hid (hm1.to hf2 (by simp) (by simp))
  have HF2 := Lib.hid (((((Fr.refl [] w).alloc (.cells #[.int .i64 at_, .string S] 24)).drewN _).trans hf1).trans hf2)
  have hpS : Hid (w.heap.size < p) := Lib.hid (by simp at hp1; omega)
  have hFS : Hid (w.heap.size < F) := Lib.hid (by simp at hF1; omega)
  clear hm1 hf1 hf2 hp1 hF1 q0 q1
  go_loopg [11] m (fun gg i wr => ∃ k : Nat, k + gg = m ∧ i = .int .i64 k ∧ apart t k ∧ Fr [] w2 wr)
  case atStart => exact ⟨0, by omega, rfl, fun i hi => by omega, Fr.refl _ _⟩
  case round =>
    obtain ⟨k, hk, rfl, hap, hf⟩ := hrel
    have Hk := Lib.hid hk
    have Hap := Lib.hid hap
    have Hf := Lib.hid hf
    obtain ⟨wo, rfl⟩ : ∃ wo : World, wo = wr := ⟨_, rfl⟩
    have HTo := Lib.hid ((Ht.out.fr HF2.out (by simp)).fr hf (by simp))
    have HFo := Lib.hid (HF2.out.trans hf)
    have HMo := Lib.hid (HM2.out.to hf (by simp) (by simp))
    by_cases hlt : k < m
    · have hki : (k : Int) < (m : Int) := by omega
      have hk0 : (0 : Int) ≤ (k : Int) := by omega
      obtain ⟨pg, hpg⟩ : ∃ q, t[k]? = some q := ⟨_, List.getElem?_eq_getElem (by have := hmt.out; omega)⟩
      have Hpg := Lib.hid hpg
      clear hk hf hap hpg
      go_wp2_with fail
      go_loopg [12] k (fun gg i wr => ∃ l : Nat, l + gg = k ∧ i = .int .i64 l ∧ (∀ j, j < l → ∀ q, t[j]? = some q → ¬ (0 ≤ pg.f ∧ pg.f = q.f)) ∧ Fr [] wo wr)
      case atStart => exact ⟨0, by omega, rfl, fun i hi => by omega, Fr.refl _ _⟩
      case round =>
        obtain ⟨l, hl, rfl, hal, hf⟩ := hrel
        have Hl := Lib.hid hl
        have Hal := Lib.hid hal
        have Hf4 := Lib.hid hf
        by_cases hlk : l < k
        · have hli : (l : Int) < (k : Int) := by omega
          have hl0 : (0 : Int) ≤ (l : Int) := by omega
          have hlm : (l : Int) < (m : Int) := by omega
          obtain ⟨qg, hqg⟩ : ∃ q, t[l]? = some q := ⟨_, List.getElem?_eq_getElem (by have := hmt.out; omega)⟩
          obtain ⟨off, rfl, hbl, c0, c1⟩ := (HTo.out.fr hf (by simp)).at_ Hpg.out
          obtain ⟨off', e', _, d0, d1⟩ := (HTo.out.fr hf (by simp)).at_ hqg
          injection e' with e'
          injection e' with _ e'
          subst e'
          have Hqg := Lib.hid hqg
          have Hal2 : Hid (¬ (0 ≤ pg.f ∧ pg.f = qg.f) → ∀ j, j < l + 1 → ∀ q, t[j]? = some q → ¬ (0 ≤ pg.f ∧ pg.f = q.f)) := Lib.hid fun hn j hj q hq => by
            by_cases hjl : j = l
            · subst hjl
              rw [hqg] at hq
              injection hq with hq
              rw [← hq]
              exact hn
            · exact hal j (by omega) q hq
          clear hl hal hf hqg hbl c1 d1
          generalize pg.f = P at *
          generalize qg.f = Q at *
          by_cases h0 : (0 : Int) ≤ P
          · have hd0 : decide ((0 : Int) ≤ P) = true := by rw [decide_eq_true_iff]; exact h0
            by_cases hpq : P = Q
            · subst hpq
              go_wp2_with fail
              go_quiet (fail)
              go_wp2_with fail
              go_ret
              exact ⟨rfl, HFo.out.trans (Hf4.out.drewN _)⟩
            · have hpq1 : (P == Q) = false := by rw [beq_eq_false_iff_ne]; exact hpq
              have Hn2 := Lib.hid (Hal2.out (fun h => hpq h.2))
              clear hpq
              go_wp2_with fail
              go_quiet (fail)
              go_wp2_with fail
              go_roundg (k - (l + 1))
              case measure => have := Hl.out; omega
              case rel => exact ⟨l + 1, by have := Hl.out; omega, by go_num, Hn2.out, Hf4.out.drewN _⟩
          · have hd0 : decide ((0 : Int) ≤ P) = false := by rw [decide_eq_false_iff_not]; exact h0
            have Hn2 := Lib.hid (Hal2.out (fun h => h0 h.1))
            go_wp2_with fail
            go_quiet (fail)
            go_wp2_with fail
            go_roundg (k - (l + 1))
            case measure => have := Hl.out; omega
            case rel => exact ⟨l + 1, by have := Hl.out; omega, by go_num, Hn2.out, Hf4.out.drewN _⟩
        · have hli : ¬ (l : Int) < (k : Int) := by omega
          obtain rfl : k = l := by omega
          clear hl hal hf
          go_wp2_with fail
          go_roundg (m - (k + 1))
          case measure => have := Hk.out; omega
          case rel =>
            refine ⟨k + 1, by have := Hk.out; omega, by go_num, fun i hi j hj p q hp hq => ?_, Hf.out.trans Hf4.out⟩
            by_cases hik : i = k
            · subst hik
              rw [Hpg.out] at hp
              injection hp with hp
              subst hp
              exact Hal.out j hj q hq
            · exact Hap.out i (by omega) j hj p q hp hq
    · have hki : ¬ (k : Int) < (m : Int) := by omega
      have hkm : k = t.length := by have := hmt.out; omega
      rw [hkm] at hap
      have HAp := Lib.hid hap
      have Hl : Hid (Calls Try.prog 12 #[ptr p, .int .i64 0, .int .i64 3, .string ⟨#[98, 101, 102, 111, 114, 101]⟩] wo fun e w' => e = .returned (.int .i64 0) ∧ (∃ st', st'.n = n ∧ MemAt w' p F st') ∧ Fr [F] wo w') :=
        Lib.hid ((Lay_ok p F _ _ 0 3 _ HMo.out (by show 0 < n; omega) (by show 3 + 6 ≤ 256; omega)).mono fun e w' ⟨h1, h2, h3⟩ => ⟨h1, ⟨⟨n, putL _ (0 * 256 + 3) _⟩, rfl, h2⟩, h3⟩)
      have hwN : Hid (tb < wo.heap.size) := Lib.hid (by have := hpS.out; have := HMo.out.hd.lt; omega)
      have Hne : Hid (tb ≠ F) := Lib.hid (by have := hFS.out; omega)
      clear hk hf hap hkm hlt Hk Hap
      go_wp2_with fail
      refine Hl.out.mono ?_
      rintro e w3 ⟨rfl, ⟨st, hst, hm3⟩, hf3⟩
      have HM3 := Lib.hid hm3
      have HF3 := Lib.hid (HFo.out.step hf3 (by have := hFS.out; simp; omega))
      have HT3 := Lib.hid (HTo.out.fr hf3 (by simpa using Hne.out))
      have Hst := Lib.hid hst
      have Hfs := Lib.hid (frames_any p F st w3 hm3)
      have hsz3 := hf3.size
      clear hm3 hf3 hst
      go_wp2_with fail
      refine Hfs.out.mono ?_
      rintro e w4 ⟨v4, rfl, ho4, hf4⟩
      rw [Hst.out] at ho4
      obtain ⟨A4, c4, rfl⟩ := own_shape ho4
      have HO4 := Lib.hid ho4
      have HM4 := Lib.hid (HM3.out.to hf4 (by simp) (by simp))
      have HT4 := Lib.hid (HT3.out.fr hf4 (by simp))
      have HF4 := Lib.hid (HF3.out.trans hf4)
      have HW : Hid (Calls Try.prog 14 #[ptr p, .slice A m cap, .int .i64 at_, .string S] w4 (WriteP w4 p F st t at_ S)) := Lib.hid (Write_any tb p F m cap st A t at_ S w4 HT4.out HM4.out (by omega) (by have := hwN.out; have := hf4.size; omega))
      have hsz4 := hf4.size
      clear ho4 hf4
      go_wp2_with fail
      refine HW.out.mono ?_
      rintro e w5 ⟨rfl, hm5, hf5⟩
      have HM5 := Lib.hid hm5
      have HS5 := Lib.hid ((Sl.of_own HO4.out).fr hf5 (fun k hk => by simp at hk; subst hk; exact HM4.out.noTxt))
      have HT5 := Lib.hid (HT4.out.fr hf5 (by simpa using Hne.out))
      have HF5 := Lib.hid (HF4.out.step hf5 (by have := hFS.out; simp; omega))
      have Hn5 : Hid ((wrS st t at_ S).n = n) := Lib.hid (by rw [wrS_n]; exact Hst.out)
      have Hfs5 := Lib.hid (frames_any p F (wrS st t at_ S) w5 hm5)
      have hsz5 := hf5.size
      obtain ⟨E, hE⟩ : ∃ E, wrE st t at_ S = E := ⟨_, rfl⟩
      have HE := Lib.hid hE
      rw [hE]
      clear hm5 hf5 hE
      by_cases hE0 : E = 0
      · subst hE0
        obtain ⟨hT, hs4, hch, hwS⟩ := wr_done HE.out
        obtain ⟨b', hb'⟩ : ∃ b', wrB t st.b at_ S.data.toList = b' := ⟨_, rfl⟩
        rw [hwS, hb', Hst.out] at Hfs5 HM5
        have Hb' := Lib.hid hb'
        have hT' : Hid (okT n t = true) := Lib.hid (by rw [← Hst.out]; exact hT)
        have Hch := Lib.hid hch
        have hcg : Hid (chg st.b b' (n * 256) ≤ S.size) := Lib.hid (by rw [← hb']; exact chg_wr t _ S.data.toList st.b at_)
        have hback : Hid (∀ i (hi : i < S.size), b' (loc t (at_ + (i : Nat))) = S[i]) := Lib.hid fun i hi => by
          rw [← hb']
          refine wrB_back hT'.out HAp.out S.data.toList st.b at_ (fun i hi => hch i (by simpa using hi)) i S[i] ?_
          have : S[i] = S.data[i] := rfl
          rw [this]
          simp [hi]
        clear hT hch hwS hb' Hn5 HE
        go_wp2_with fail
        refine Hfs5.out.mono ?_
        rintro e w6 ⟨v6, rfl, ho6, hf6⟩
        obtain ⟨A6, c6, rfl⟩ := own_shape ho6
        have HS6 := Lib.hid (Sl.of_own ho6)
        have HM6 := Lib.hid (HM5.out.to hf6 (by simp) (by simp))
        have HT6 := Lib.hid (HT5.out.fr hf6 (by simp))
        have HF6 := Lib.hid (HF5.out.trans hf6)
        have HS46 := Lib.hid (HS5.out.fr hf6 (by simp))
        have hsz6 := hf6.size
        clear ho6 hf6
        go_wp2_with fail
        go_loopg [15, 17] n (fun gg x i wr => ∃ k : Nat, k + gg = n ∧ i = .int .i64 k ∧ x = .int .i64 (chg st.b b' (k * 256) : Nat) ∧ Fr [] w6 wr)
        case atStart => exact ⟨0, by omega, rfl, rfl, Fr.refl _ _⟩
        case round =>
          obtain ⟨k, hk, rfl, rfl, hf⟩ := hrel
          have Hk := Lib.hid hk
          have Hf := Lib.hid hf
          obtain ⟨w7, rfl⟩ : ∃ w7 : World, w7 = wr := ⟨_, rfl⟩
          by_cases hlt : k < n
          · have hki : (k : Int) < (n : Int) := by omega
            have hk0 : (0 : Int) ≤ (k : Int) := by omega
            obtain ⟨g4, o4, c4', e4, cell4⟩ := (HS46.out.fr hf (by simp)).str_at (framesL_at (st := st) hlt)
            obtain ⟨g6, o6, c6', e6, cell6⟩ := (HS6.out.fr hf (by simp)).str_at (framesL_at (st := ⟨n, b'⟩) hlt)
            injection e4 with e4 _ e4'
            injection e6 with e6 _ e6'
            subst e4; subst e4'; subst e6; subst e6'
            have Hc4 := Lib.hid cell4
            have Hc6 := Lib.hid cell6
            have hs40 := frS_size st k
            have hs60 := frS_size ⟨n, b'⟩ k
            have Hby4 : Hid (∀ i (hi : i < 256) (h : i < (frS st k).size), (frS st k)[i] = st.b (k * 256 + i)) := Lib.hid fun i hi h => frS_at hi h
            have Hby6 : Hid (∀ i (hi : i < 256) (h : i < (frS ⟨n, b'⟩ k).size), (frS ⟨n, b'⟩ k)[i] = b' (k * 256 + i)) := Lib.hid fun i hi h => frS_at hi h
            generalize frS st k = F4 at *
            generalize frS ⟨n, b'⟩ k = F6 at *
            clear hk hf cell4 cell6
            go_wp2_with fail
            go_loopg [15, 18] 256 (fun gg x i wr => ∃ l : Nat, l + gg = 256 ∧ i = .int .i64 l ∧ x = .int .i64 (chg st.b b' (k * 256 + l) : Nat) ∧ Fr [] w7 wr)
            case atStart => exact ⟨0, by omega, rfl, rfl, Fr.refl _ _⟩
            case round =>
              obtain ⟨l, hl, rfl, rfl, hf⟩ := hrel
              have Hl := Lib.hid hl
              have Hf7 := Lib.hid hf
              by_cases hlk : l < 256
              · have hli : (l : Int) < 256 := by omega
                have hl0 : (0 : Int) ≤ (l : Int) := by omega
                have hl6 : l < F6.size := by omega
                have hl4 : l < F4.size := by omega
                have y4 := Hby4.out l hlk hl4
                have y6 := Hby6.out l hlk hl6
                have hcell4 := hf.cell_some Hc4.out (by simp)
                have hcell6 := hf.cell_some Hc6.out (by simp)
                have hcc := chg_le st.b b' (k * 256 + l)
                have hcs := chg_succ st.b b' (k * 256 + l)
                have hX : chg st.b b' (k * 256 + l) ≤ 40960 := by omega
                have HX : Hid (∀ X', X' = chg st.b b' (k * 256 + l) + (if b' (k * 256 + l) = st.b (k * 256 + l) then 0 else 1) → chg st.b b' (k * 256 + (l + 1)) = X') := Lib.hid fun X' hX' => by rw [hX', ← hcs, Nat.add_assoc]
                generalize chg st.b b' (k * 256 + l) = X at *
                generalize b' (k * 256 + l) = B6 at *
                generalize st.b (k * 256 + l) = B4 at *
                clear hl hf hcc hcs
                by_cases hB : B6 = B4
                · subst hB
                  have HX2 := Lib.hid (HX.out X (by simp))
                  go_wp2_with fail
                  go_quiet (fail)
                  go_wp2_with fail
                  go_roundg (256 - (l + 1))
                  case measure => have := Hl.out; omega
                  case rel => exact ⟨l + 1, by have := Hl.out; omega, by go_num, by rw [HX2.out], Hf7.out.drewN _⟩
                · have HX2 := Lib.hid (HX.out (X + 1) (by rw [if_neg hB]))
                  have hBn : ¬ B6.toNat = B4.toNat := fun h => hB (UInt8.toNat_inj.1 h)
                  have hBi : (((B6.toNat : Nat) : Int) != ((B4.toNat : Nat) : Int)) = true := by rw [bne_iff_ne]; omega
                  go_wp2_with fail
                  go_quiet (fail)
                  go_wp2_with fail
                  go_roundg (256 - (l + 1))
                  case measure => have := Hl.out; omega
                  case rel => exact ⟨l + 1, by have := Hl.out; omega, by go_num, by rw [HX2.out]; go_num, Hf7.out.drewN _⟩
              · have hli : ¬ (l : Int) < 256 := by omega
                obtain rfl : l = 256 := by omega
                clear hl hf
                go_wp2_with fail
                go_roundg (n - (k + 1))
                case measure => have := Hk.out; omega
                case rel => exact ⟨k + 1, by have := Hk.out; omega, by go_num, by rw [Nat.add_mul, Nat.one_mul], Hf.out.trans Hf7.out⟩
          · have hki : ¬ (k : Int) < (n : Int) := by omega
            obtain rfl : n = k := by omega
            have hX : chg st.b b' (n * 256) ≤ S.size := hcg.out
            generalize chg st.b b' (n * 256) = X at *
            clear hk hf
            go_wp2_with fail
            go_loopg [19] S.size (fun gg i wr => ∃ k : Nat, k + gg = S.size ∧ i = .int .i64 k ∧ Fr [] w7 wr)
            case atStart => exact ⟨0, by omega, rfl, Fr.refl _ _⟩
            case round =>
              obtain ⟨k, hk, rfl, hf⟩ := hrel
              have Hk := Lib.hid hk
              have Hf7 := Lib.hid hf
              by_cases hlk : k < S.size
              · have hki : (k : Int) < (S.size : Int) := by omega
                have hk0 : (0 : Int) ≤ (k : Int) := by omega
                obtain ⟨a, _, ha, -⟩ := ch1_wr hT'.out (Hch.out 0 (by omega))
                obtain ⟨q, pg, hq, hql, hpg, f0, f1, r0, r7, -, hloc⟩ := ch1_wr hT'.out (Hch.out k hlk)
                obtain rfl : at_ = (a : Int) := by omega
                obtain rfl : q = a + k := by omega
                have ht16 := okT_len hT'.out
                obtain ⟨f, hpf⟩ := Int.eq_ofNat_of_zero_le f0
                have hTk := (HT6.out.fr Hf.out (by simp)).fr hf (by simp)
                obtain ⟨off, rfl, hbl, c0, c1⟩ := hTk.at_ hpg
                have hMk := (HM6.out.to Hf.out (by simp) (by simp)).to hf (by simp) (by simp)
                have hld := ld_one (st := ⟨n, b'⟩) hT'.out hpg f0
                have hby := hback.out k hlk
                have e0 : ((a + k : Nat) : Int) = (a : Int) + (k : Int) := by omega
                rw [e0] at hld
                have hLd := Load_any tb p F m cap ⟨n, b'⟩ (some ⟨tb, off, none⟩) t ((a : Int) + (k : Int)) 1 1 (wr.alloc (.cells #[.int .i64 pg.f, .int .i64 pg.r] 31)) (hTk.fr ((Fr.refl [] wr).alloc _) (by simp)) (hMk.to ((Fr.refl [] wr).alloc _) (by simp) (by simp)) (by omega) (by simp; omega)
                have hfn : f < n := by omega
                obtain ⟨g6, o6, c6', e6, cell6⟩ := ((HS6.out.fr Hf.out (by simp)).fr hf (by simp)).str_at (framesL_at (st := ⟨n, b'⟩) hfn)
                injection e6 with e6 _ e6'
                subst e6; subst e6'
                have y6 := frS_at (st := ⟨n, b'⟩) (f := f) (i := (a + k) % 256) (by omega) (by rw [frS_size]; omega)
                have hlb : b' (f * 256 + (a + k) % 256) = S[k] := by
                  rw [← hby, hloc, hpf]
                  rfl
                have y6' : (frS ⟨n, b'⟩ f)[(a + k) % 256]'(by rw [frS_size]; omega) = S[k] := y6.trans hlb
                have hld' : ldR ⟨n, b'⟩ t ((a : Int) + (k : Int)) 1 1 = if bits .and .i64 pg.r 1 = 0 then (0, 82) else (((S[k]).toNat : Int), 0) := by
                  rw [hld]
                  show (if bits .and .i64 pg.r 1 = 0 then ((0 : Int), (82 : Int)) else (((b' (loc t ((a : Int) + (k : Int)))).toNat : Int), 0)) = _
                  rw [hby]
                rw [hld', hpf] at hLd
                rw [hpf] at c0
                have hd0 : (0 : Int) ≤ (a : Int) + (k : Int) := by omega
                have hd1 : (a : Int) + (k : Int) < 4096 := by omega
                have hm0 := hmt.out
                have hd2 : ((a : Int) + (k : Int)) / 256 < (m : Int) := by omega
                have hd3 : (0 : Int) ≤ ((a : Int) + (k : Int)) / 256 := by omega
                have hd4 : (0 : Int) ≤ ((a : Int) + (k : Int)) % 256 := by omega
                have hd5 : ((a : Int) + (k : Int)) % 256 < 256 := by omega
                have hf0 : (0 : Int) ≤ (f : Int) := by omega
                have hf1 : (f : Int) < (n : Int) := by omega
                have HLd := Lib.hid hLd
                obtain ⟨cc, hcc⟩ : ∃ cc, S[k] = cc := ⟨_, rfl⟩
                rw [hcc] at y6' HLd
                obtain ⟨F6, hF6, hs60, z6⟩ : ∃ F6, frS ⟨n, b'⟩ f = F6 ∧ F6.size = 256 ∧ (∀ h : (a + k) % 256 < F6.size, F6[(a + k) % 256] = cc) := ⟨_, rfl, frS_size _ _, fun _ => y6'⟩
                rw [hF6] at cell6
                have Hc6 := Lib.hid cell6
                have hk6 : (a + k) % 256 < F6.size := by omega
                have z6' := z6 hk6
                generalize pg.r = rr at *
                have hbx := Blk.new wr 31 #[.int .i64 f, .int .i64 rr]
                have Hbx := Lib.hid hbx
                clear hk hf hq hql hpg hloc hpf hTk hbl hMk hld hby e0 hLd cell6 y6 y6' hF6 z6 hlb hld' hm0 hbx ht16 r0 r7 f0 f1
                by_cases hr : bits .and .i64 rr 1 = 0
                · rw [if_pos hr] at HLd
                  go_wp2_with fail
                  refine HLd.out.mono ?_
                  rintro e w8 ⟨rfl, hf8⟩
                  obtain ⟨p0, p1⟩ := box2b (Hbx.out.fr hf8 (by simp))
                  have hcell6 := (Hf7.out.trans (((Fr.refl [] wr).alloc _).trans hf8))
                  have cell6 := ((((Fr.refl [] wr).alloc _).trans hf8).cell_some Hc6.out (by simp))
                  have Hf8 := Lib.hid hcell6
                  clear hf8 hcell6
                  go_wp2_with fail
                  have hsum : IntKind.i64.wrap ((a : Int) + (k : Int)) = (a : Int) + (k : Int) := IntWalk.i64_in _ (by omega)
                  have hmd : ((a : Int) + (k : Int)).tmod 256 = ((a : Int) + (k : Int)) % 256 := Int.tmod_eq_emod_of_nonneg hd0
                  have hmt' : (((a : Int) + (k : Int)) % 256).toNat = (a + k) % 256 := by omega
                  go_quiet (fail)
                  go_wp2_with fail
                  go_roundg (S.size - (k + 1))
                  case measure => have := Hk.out; omega
                  case rel => exact ⟨k + 1, by have := Hk.out; omega, by go_num, Hf8.out.drewN _⟩
                · rw [if_neg hr] at HLd
                  have hr1 : (bits .and .i64 rr 1 != 0) = true := by rw [bne_iff_ne]; exact hr
                  have hr2 : (bits .and .i64 rr 1 == 0) = false := by rw [beq_eq_false_iff_ne]; exact hr
                  have hccl := cc.toNat_lt
                  have hwc : IntKind.i64.wrap ((cc.toNat : Nat) : Int) = ((cc.toNat : Nat) : Int) := IntWalk.i64_in _ (by omega)
                  clear hr
                  go_wp2_with fail
                  refine HLd.out.mono ?_
                  rintro e w8 ⟨rfl, hf8⟩
                  obtain ⟨p0, p1⟩ := box2b (Hbx.out.fr hf8 (by simp))
                  have hcell6 := (Hf7.out.trans (((Fr.refl [] wr).alloc _).trans hf8))
                  have cell6 := ((((Fr.refl [] wr).alloc _).trans hf8).cell_some Hc6.out (by simp))
                  have Hf8 := Lib.hid hcell6
                  clear hf8 hcell6
                  go_wp2_with fail
                  have hsum : IntKind.i64.wrap ((a : Int) + (k : Int)) = (a : Int) + (k : Int) := IntWalk.i64_in _ (by omega)
                  have hmd : ((a : Int) + (k : Int)).tmod 256 = ((a : Int) + (k : Int)) % 256 := Int.tmod_eq_emod_of_nonneg hd0
                  have hmt' : (((a : Int) + (k : Int)) % 256).toNat = (a + k) % 256 := by omega
                  go_quiet (fail)
                  go_wp2_with fail
                  go_roundg (S.size - (k + 1))
                  case measure => have := Hk.out; omega
                  case rel => exact ⟨k + 1, by have := Hk.out; omega, by go_num, Hf8.out.drewN _⟩
              · have hki : ¬ (k : Int) < (S.size : Int) := by omega
                have hX2 : (X : Int) ≤ (S.size : Int) := by omega
                clear hk hf
                go_wp2_with fail
                go_ret
                exact ⟨rfl, (HF6.out.trans Hf.out).trans Hf7.out⟩
      · have hE1 : (E != 0) = true := by rw [bne_iff_ne]; exact hE0
        have hwS : wrS st t at_ S = st := by unfold wrS; rw [if_neg (by rw [HE.out]; exact hE0)]
        rw [hwS] at Hfs5
        clear hE0 hwS
        go_wp2_with fail
        refine Hfs5.out.mono ?_
        rintro e w6 ⟨v6, rfl, ho6, hf6⟩
        rw [Hst.out] at ho6
        have HC := Lib.hid (same_strs _ _ _ n w6 (Sl.of_own ho6) (HS5.out.fr hf6 (by simp)) (by omega))
        obtain ⟨A6, c6, rfl⟩ := own_shape ho6
        have HF6 := Lib.hid (HF5.out.trans hf6)
        clear ho6 hf6
        go_wp2_with fail
        refine HC.out.mono ?_
        rintro e w7 ⟨rfl, hf7⟩
        go_wp2_with fail
        go_ret
        exact ⟨rfl, HF6.out.trans hf7⟩
theorem back_walk (many at_ : Int) (S : ByteArray) (tb m cap : Nat) (A : Option Addr) (t : List Pg) (w : World) (ht : Tb w tb (.slice A m cap) t) (htb : tb < w.heap.size ∨ tb = 0)
    (hat : -9223372036854775808 ≤ at_ ∧ at_ ≤ 9223372036854775807) :
    Calls Try.prog 3 #[.int .i64 many, .slice A m cap, .agg #[.int .i64 at_, .string S]] w fun e w' => e = .returned (.bool true) ∧ Fr [] w w' := by
  by_cases h : many < 1 ∨ 160 < many
  · exact back_bad many at_ S w h A m cap
  · obtain ⟨n, rfl⟩ := Int.eq_ofNat_of_zero_le (by omega : 0 ≤ many)
    exact back_ok n at_ S tb m cap A t w (by omega) (by omega) ht htb hat
end Go.Proofs.Ytdkihajajdhpnaa
