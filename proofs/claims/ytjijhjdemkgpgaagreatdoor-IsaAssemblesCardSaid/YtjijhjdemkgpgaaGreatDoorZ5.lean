/- The document's Decode. -/
import Derived.Test.YtjijhjdemkgpgaaGreatDoorZ4
import Derived.Test.YtjijhjdemkgpgaaGreatDoorI13
namespace Go.Proofs.YtjijhjdemkgpgaaGreatDoor
open Go.RowKit
set_option linter.unusedVariables false
set_option linter.unusedSimpArgs false
set_option maxRecDepth 100000
theorem resZ {tmps : Array Value} {w : World} {g : Nat} {e : Value} {cs : Array Value} (h2 : tmps.getD 2 undef = .pointer (some ⟨g, 0, none⟩)) (h3 : tmps.getD 3 undef = e) (hb : Blk w g 23 cs) (hs : cs.size = 4) : (results Tryz.f11 tmps).run Tryz.prog w = .ok (.tuple #[.agg cs, e]) w := by
  have h1 : (asAddr (tmps.getD 2 undef)).run Tryz.prog w = .ok ⟨g, 0, none⟩ w := by rw [h2]; rfl
  rw [results_cell_tmp Tryz.results11, h1, h3]
  have h4 := run_loadVar_row (P := Tryz.prog) w g 23 23 cs (0, 0) _ hb Tryz.underlying23 rfl (by rw [hs]; kernel_rfl)
  simp [Result.andThen, h4]
theorem rDecode_long (s : ByteArray) (h : s.size ≠ 4) (w : World) : Calls Tryz.prog 11 #[.string s] w fun e w' => e = .returned (.tuple #[In0.v, .int .i64 91]) ∧ Fr [] w w' := by
  have hz2 : ((s.size : Int) == 4) = false := beq_eq_false_iff_ne.2 (by omega)
  have HF := Lib.hid (fun o => (Fr.refl [] w).alloc o)
  unfold In0
  clear h
  go_enter Tryz.func11, Tryz.ntmps11
  go_wp2
  exact bodyPost_ret (v := .tuple #[.agg #[.int .i64 0, .int .i64 0, .int .i64 0, .int .i64 0], .int .i64 91]) (by simp [results, Tryz.results11, go_sem]) rfl ⟨rfl, HF.out _⟩
set_option maxHeartbeats 8000000 in
theorem rDecode_four (s : ByteArray) (c0 c1 c2 c3 : Nat) (h : s.size = 4) (h0 : ∀ h, (s[0]'h).toNat = c0) (h1 : ∀ h, (s[1]'h).toNat = c1) (h2 : ∀ h, (s[2]'h).toNat = c2) (h3 : ∀ h, (s[3]'h).toNat = c3) (b0 : c0 < 256) (b1 : c1 < 256) (b2 : c2 < 256) (b3 : c3 < 256) (w : World) :
    Calls Tryz.prog 11 #[.string s] w fun e w' => e = .returned (.tuple #[(decB c0 c1 c2 c3).1.v, .int .i64 (decB c0 c1 c2 c3).2]) ∧ Fr [] w w' := by
  have hz : (s.size : Int) = 4 := by omega
  have h4 : 0 < s.size := by omega
  have h5 : 1 < s.size := by omega
  have h6 : 2 < s.size := by omega
  have h7 : 3 < s.size := by omega
  have hq1 : (c1 : Int) / 16 = ((c1 / 16 : Nat) : Int) := by omega
  have hq2 : (c1 : Int) % 16 = ((c1 % 16 : Nat) : Int) := by omega
  have hA : c1 / 16 < 16 := by omega
  have hB : c1 % 16 < 16 := by omega
  obtain ⟨A, hAe⟩ : ∃ A, c1 / 16 = A := ⟨_, rfl⟩
  obtain ⟨B, hBe⟩ : ∃ B, c1 % 16 = B := ⟨_, rfl⟩
  obtain ⟨N, hNe⟩ : ∃ N, c2 * 256 + c3 = N := ⟨_, rfl⟩
  have hN1 : IntKind.i64.wrap (256 * (c2 : Int)) = 256 * (c2 : Int) := IntWalk.i64_in _ (by omega)
  have hN2 : 256 * (c2 : Int) + (c3 : Int) = (N : Int) := by omega
  have hN3 : IntKind.i64.wrap (N : Int) = (N : Int) := IntWalk.i64_in _ (by omega)
  have hNb : N < 65536 := by omega
  have HV : Hid (∀ k, mkI k c1 c2 c3 = ⟨k, A, B, imB k N⟩) := Lib.hid (fun k => by unfold mkI; rw [hAe, hBe, hNe])
  rw [hAe] at hq1 hA
  rw [hBe] at hq2 hB
  have HBn := Lib.hid hNb
  clear hAe hBe hNe b1 b2 b3
  obtain ⟨RV, hRV⟩ : ∃ RV, RV = decB c0 c1 c2 c3 := ⟨_, rfl⟩
  rw [← hRV]
  have HRV := Lib.hid hRV
  clear hRV
  go_enter Tryz.func11, Tryz.ntmps11
  go_upto_region 3 with (fail)
  go_cut [4] (fun v4 wx => ∃ g, v4 = .pointer (some ⟨g, 0, none⟩) ∧ Blk wx g 23 #[.int .i64 (c0 : Int), .int .i64 (A : Int), .int .i64 (B : Int), .int .i64 (N : Int)] ∧ Blk wx w.heap.size 23 Z4 ∧ Fr [] w wx ∧ w.heap.size < g)
  case first =>
    go_region
    all_goals
      go_wp2_with fail
      go_meet
      refine ⟨_, rfl, ?_, ?_, ?_, ?_⟩
      · exact (Blk.new' (by simp)).drew
      · exact ((Blk.new w 23 Z4).fr ((Fr.refl [] _).alloc _) (by simp)).drew
      · exact (((Fr.refl [] w).alloc _).alloc _).drew
      · exact Nat.lt_succ_self _
  case rest =>
    obtain ⟨g, rfl, hbg, hr0, hfx, hlt⟩ := hcut
    have HBg := Lib.hid hbg
    have HR0 := Lib.hid hr0
    have HFx := Lib.hid hfx
    have HLt := Lib.hid hlt
    have k0 := (hbg.cell 0).trans rfl
    have k1 := (hbg.cell 1).trans rfl
    have k2 := (hbg.cell 2).trans rfl
    have k3 := (hbg.cell 3).trans rfl
    have kf := hbg.frozen
    clear hbg hr0 hfx hlt h0 h1 h2 h3 h h4 h5 h6 h7 hz hq1 hq2 hN1 hN2 hN3 hNb hA hB
    by_cases hc : c0 < 30
    · have HNm := Lib.hid (fun W => rName_any c0 hc W)
      have HFm := Lib.hid (fun W => rForm_any c0 hc W)
      have hne := nm_some c0 hc
      have hne2 : ((nm c0).toList == []) = false := by
        cases h : (nm c0).toList with
        | nil => rw [h] at hne; cases hne
        | cons a b => rfl
      have hs8 : (fm c0).size ≤ 4096 := (fm_us c0 hc).2.2
      have HS := Lib.hid (fun W => (show Calls Tryz.prog 27 #[.string (fm c0), .int .u8 115] W fun e w' => e = .returned (.bool (hasC (fm c0) 115)) ∧ W = w' from rHas_any (fm c0) 115 hs8 W))
      have HC := Lib.hid (fun W => rCheck_in (mkI c0 c1 c2 c3) c0 hc rfl W)
      have hD : decB c0 c1 c2 c3 = if okI (mkI c0 c1 c2 c3) c0 = true then (mkI c0 c1 c2 c3, 0) else (In0, 91) := by
        unfold decB
        by_cases ho : okI (mkI c0 c1 c2 c3) c0 = true
        · rw [if_pos ho, if_pos ⟨hc, ho⟩]
        · rw [if_neg ho, if_neg (fun h => ho h.2)]
      have HRV := Lib.hid (HRV.out.trans hD)
      rw [HV.out] at HC HRV
      unfold imB at HC HRV
      obtain ⟨C3, hC3⟩ : ∃ C3, hasC (fm c0) 115 = C3 := ⟨_, rfl⟩
      rw [hC3] at HS HC HRV
      clear hD hs8
      by_cases hi : C3 = true ∧ 32768 ≤ N
      · rw [if_pos hi] at HC HRV
        obtain ⟨rfl, hN32⟩ := hi
        have hgt : (32767 : Int) < (N : Int) := by omega
        have hwM : IntKind.i64.wrap ((N : Int) - 65536) = (N : Int) - 65536 := IntWalk.i64_in _ (by have := HBn.out; omega)
        obtain ⟨K, hK⟩ : ∃ K, okI ⟨(c0 : Int), (A : Int), (B : Int), (N : Int) - 65536⟩ c0 = K := ⟨_, rfl⟩
        rw [hK] at HC HRV
        clear hC3 hK hN32
        generalize fm c0 = F at *
        generalize nm c0 = NM at *
        cases K with
        | false =>
          simp only [Bool.false_eq_true, if_false] at HC HRV
          go_wp2_with (first
            | (go_at_call 26; refine (HNm.out _).mono ?_; rintro e w1 ⟨rfl, hf⟩; have HB1 := Lib.hid (HBg.out.fr hf (by simp)); have HR1 := Lib.hid (HR0.out.fr hf (by simp)); have H1 := Lib.hid (HFx.out.trans hf); clear hf k0 k1 k2 k3 kf; have k0 := (HB1.out.cell 0).trans rfl; have k1 := (HB1.out.cell 1).trans rfl; have k2 := (HB1.out.cell 2).trans rfl; have k3 := (HB1.out.cell 3).trans rfl; have kf := HB1.out.frozen)
            | (go_at_call 28; refine (HFm.out _).mono ?_; rintro e w2 ⟨rfl, rfl⟩)
            | (go_at_call 27; refine (HS.out _).mono ?_; rintro e w2 ⟨rfl, rfl⟩)
            | (go_at_call 16; refine (HC.out _).mono ?_; rintro e w3 ⟨rfl, hf⟩; have HB3 := Lib.hid (show Blk w3 g 23 #[.int .i64 (c0 : Int), .int .i64 (A : Int), .int .i64 (B : Int), .int .i64 ((N : Int) - 65536)] from (HB1.out.set_ 3 (.int .i64 ((N : Int) - 65536))).fr hf (by simp)); have HR3 := Lib.hid (show Blk w3 w.heap.size 23 Z4 from (HR1.out.far (p := ⟨g, 3, none⟩) (by have := HLt.out; simp; omega) (.int .i64 ((N : Int) - 65536))).fr hf (by simp)); have H3 := Lib.hid (show Fr [] w w3 from (H1.out.setCell (p := ⟨g, 3, none⟩) (.inr (by have := HLt.out; simp; omega)) (.int .i64 ((N : Int) - 65536))).trans hf); clear hf k0 k1 k2 k3 kf; have k0 := (HB3.out.cell 0).trans rfl; have k1 := (HB3.out.cell 1).trans rfl; have k2 := (HB3.out.cell 2).trans rfl; have k3 := (HB3.out.cell 3).trans rfl; have kf := HB3.out.frozen; have j0 := (HR3.out.cell 0).trans rfl; have j1 := (HR3.out.cell 1).trans rfl; have j2 := (HR3.out.cell 2).trans rfl; have j3 := (HR3.out.cell 3).trans rfl; have jf := HR3.out.frozen)
            | fail)
          exact bodyPost_ret (v := .tuple #[.agg #[.int .i64 0, .int .i64 0, .int .i64 0, .int .i64 0], .int .i64 91]) (resZ rfl rfl (HR3.out.set4 _ _ _ _) rfl) rfl ⟨by first | (rw [HRV.out]; done) | (rw [HRV.out]; rfl), H3.out.set4 (.inr (Nat.le_refl _)) _ _ _ _⟩
        | true =>
          simp only [if_true] at HC HRV
          go_wp2_with (first
            | (go_at_call 26; refine (HNm.out _).mono ?_; rintro e w1 ⟨rfl, hf⟩; have HB1 := Lib.hid (HBg.out.fr hf (by simp)); have HR1 := Lib.hid (HR0.out.fr hf (by simp)); have H1 := Lib.hid (HFx.out.trans hf); clear hf k0 k1 k2 k3 kf; have k0 := (HB1.out.cell 0).trans rfl; have k1 := (HB1.out.cell 1).trans rfl; have k2 := (HB1.out.cell 2).trans rfl; have k3 := (HB1.out.cell 3).trans rfl; have kf := HB1.out.frozen)
            | (go_at_call 28; refine (HFm.out _).mono ?_; rintro e w2 ⟨rfl, rfl⟩)
            | (go_at_call 27; refine (HS.out _).mono ?_; rintro e w2 ⟨rfl, rfl⟩)
            | (go_at_call 16; refine (HC.out _).mono ?_; rintro e w3 ⟨rfl, hf⟩; have HB3 := Lib.hid (show Blk w3 g 23 #[.int .i64 (c0 : Int), .int .i64 (A : Int), .int .i64 (B : Int), .int .i64 ((N : Int) - 65536)] from (HB1.out.set_ 3 (.int .i64 ((N : Int) - 65536))).fr hf (by simp)); have HR3 := Lib.hid (show Blk w3 w.heap.size 23 Z4 from (HR1.out.far (p := ⟨g, 3, none⟩) (by have := HLt.out; simp; omega) (.int .i64 ((N : Int) - 65536))).fr hf (by simp)); have H3 := Lib.hid (show Fr [] w w3 from (H1.out.setCell (p := ⟨g, 3, none⟩) (.inr (by have := HLt.out; simp; omega)) (.int .i64 ((N : Int) - 65536))).trans hf); clear hf k0 k1 k2 k3 kf; have k0 := (HB3.out.cell 0).trans rfl; have k1 := (HB3.out.cell 1).trans rfl; have k2 := (HB3.out.cell 2).trans rfl; have k3 := (HB3.out.cell 3).trans rfl; have kf := HB3.out.frozen; have j0 := (HR3.out.cell 0).trans rfl; have j1 := (HR3.out.cell 1).trans rfl; have j2 := (HR3.out.cell 2).trans rfl; have j3 := (HR3.out.cell 3).trans rfl; have jf := HR3.out.frozen)
            | fail)
          exact bodyPost_ret (v := .tuple #[.agg #[.int .i64 (c0 : Int), .int .i64 (A : Int), .int .i64 (B : Int), .int .i64 ((N : Int) - 65536)], .int .i64 0]) (resZ rfl rfl (HR3.out.set4 _ _ _ _) rfl) rfl ⟨by first | (rw [HRV.out]; done) | (rw [HRV.out]; rfl), H3.out.set4 (.inr (Nat.le_refl _)) _ _ _ _⟩
      · rw [if_neg hi] at HC HRV
        obtain ⟨K, hK⟩ : ∃ K, okI ⟨(c0 : Int), (A : Int), (B : Int), (N : Int)⟩ c0 = K := ⟨_, rfl⟩
        rw [hK] at HC HRV
        clear hC3 hK
        generalize fm c0 = F at *
        generalize nm c0 = NM at *
        cases C3 with
        | false =>
          clear hi
          cases K with
          | false =>
            simp only [Bool.false_eq_true, if_false] at HC HRV
            go_wp2_with (first
              | (go_at_call 26; refine (HNm.out _).mono ?_; rintro e w1 ⟨rfl, hf⟩; have HB1 := Lib.hid (HBg.out.fr hf (by simp)); have HR1 := Lib.hid (HR0.out.fr hf (by simp)); have H1 := Lib.hid (HFx.out.trans hf); clear hf k0 k1 k2 k3 kf; have k0 := (HB1.out.cell 0).trans rfl; have k1 := (HB1.out.cell 1).trans rfl; have k2 := (HB1.out.cell 2).trans rfl; have k3 := (HB1.out.cell 3).trans rfl; have kf := HB1.out.frozen)
              | (go_at_call 28; refine (HFm.out _).mono ?_; rintro e w2 ⟨rfl, rfl⟩)
              | (go_at_call 27; refine (HS.out _).mono ?_; rintro e w2 ⟨rfl, rfl⟩)
              | (go_at_call 16; refine (HC.out _).mono ?_; rintro e w3 ⟨rfl, hf⟩; have HB3 := Lib.hid (HB1.out.fr hf (by simp)); have HR3 := Lib.hid (HR1.out.fr hf (by simp)); have H3 := Lib.hid (H1.out.trans hf); clear hf k0 k1 k2 k3 kf; have k0 := (HB3.out.cell 0).trans rfl; have k1 := (HB3.out.cell 1).trans rfl; have k2 := (HB3.out.cell 2).trans rfl; have k3 := (HB3.out.cell 3).trans rfl; have kf := HB3.out.frozen; have j0 := (HR3.out.cell 0).trans rfl; have j1 := (HR3.out.cell 1).trans rfl; have j2 := (HR3.out.cell 2).trans rfl; have j3 := (HR3.out.cell 3).trans rfl; have jf := HR3.out.frozen)
              | fail)
            exact bodyPost_ret (v := .tuple #[.agg #[.int .i64 0, .int .i64 0, .int .i64 0, .int .i64 0], .int .i64 91]) (resZ rfl rfl (HR3.out.set4 _ _ _ _) rfl) rfl ⟨by first | (rw [HRV.out]; done) | (rw [HRV.out]; rfl), H3.out.set4 (.inr (Nat.le_refl _)) _ _ _ _⟩
          | true =>
            simp only [if_true] at HC HRV
            go_wp2_with (first
              | (go_at_call 26; refine (HNm.out _).mono ?_; rintro e w1 ⟨rfl, hf⟩; have HB1 := Lib.hid (HBg.out.fr hf (by simp)); have HR1 := Lib.hid (HR0.out.fr hf (by simp)); have H1 := Lib.hid (HFx.out.trans hf); clear hf k0 k1 k2 k3 kf; have k0 := (HB1.out.cell 0).trans rfl; have k1 := (HB1.out.cell 1).trans rfl; have k2 := (HB1.out.cell 2).trans rfl; have k3 := (HB1.out.cell 3).trans rfl; have kf := HB1.out.frozen)
              | (go_at_call 28; refine (HFm.out _).mono ?_; rintro e w2 ⟨rfl, rfl⟩)
              | (go_at_call 27; refine (HS.out _).mono ?_; rintro e w2 ⟨rfl, rfl⟩)
              | (go_at_call 16; refine (HC.out _).mono ?_; rintro e w3 ⟨rfl, hf⟩; have HB3 := Lib.hid (HB1.out.fr hf (by simp)); have HR3 := Lib.hid (HR1.out.fr hf (by simp)); have H3 := Lib.hid (H1.out.trans hf); clear hf k0 k1 k2 k3 kf; have k0 := (HB3.out.cell 0).trans rfl; have k1 := (HB3.out.cell 1).trans rfl; have k2 := (HB3.out.cell 2).trans rfl; have k3 := (HB3.out.cell 3).trans rfl; have kf := HB3.out.frozen; have j0 := (HR3.out.cell 0).trans rfl; have j1 := (HR3.out.cell 1).trans rfl; have j2 := (HR3.out.cell 2).trans rfl; have j3 := (HR3.out.cell 3).trans rfl; have jf := HR3.out.frozen)
              | fail)
            exact bodyPost_ret (v := .tuple #[.agg #[.int .i64 (c0 : Int), .int .i64 (A : Int), .int .i64 (B : Int), .int .i64 (N : Int)], .int .i64 0]) (resZ rfl rfl (HR3.out.set4 _ _ _ _) rfl) rfl ⟨by first | (rw [HRV.out]; done) | (rw [HRV.out]; rfl), H3.out.set4 (.inr (Nat.le_refl _)) _ _ _ _⟩
        | true =>
          have hgt : ¬ (32767 : Int) < (N : Int) := by
            intro h
            exact hi ⟨rfl, by omega⟩
          clear hi
          cases K with
          | false =>
            simp only [Bool.false_eq_true, if_false] at HC HRV
            go_wp2_with (first
              | (go_at_call 26; refine (HNm.out _).mono ?_; rintro e w1 ⟨rfl, hf⟩; have HB1 := Lib.hid (HBg.out.fr hf (by simp)); have HR1 := Lib.hid (HR0.out.fr hf (by simp)); have H1 := Lib.hid (HFx.out.trans hf); clear hf k0 k1 k2 k3 kf; have k0 := (HB1.out.cell 0).trans rfl; have k1 := (HB1.out.cell 1).trans rfl; have k2 := (HB1.out.cell 2).trans rfl; have k3 := (HB1.out.cell 3).trans rfl; have kf := HB1.out.frozen)
              | (go_at_call 28; refine (HFm.out _).mono ?_; rintro e w2 ⟨rfl, rfl⟩)
              | (go_at_call 27; refine (HS.out _).mono ?_; rintro e w2 ⟨rfl, rfl⟩)
              | (go_at_call 16; refine (HC.out _).mono ?_; rintro e w3 ⟨rfl, hf⟩; have HB3 := Lib.hid (HB1.out.fr hf (by simp)); have HR3 := Lib.hid (HR1.out.fr hf (by simp)); have H3 := Lib.hid (H1.out.trans hf); clear hf k0 k1 k2 k3 kf; have k0 := (HB3.out.cell 0).trans rfl; have k1 := (HB3.out.cell 1).trans rfl; have k2 := (HB3.out.cell 2).trans rfl; have k3 := (HB3.out.cell 3).trans rfl; have kf := HB3.out.frozen; have j0 := (HR3.out.cell 0).trans rfl; have j1 := (HR3.out.cell 1).trans rfl; have j2 := (HR3.out.cell 2).trans rfl; have j3 := (HR3.out.cell 3).trans rfl; have jf := HR3.out.frozen)
              | fail)
            exact bodyPost_ret (v := .tuple #[.agg #[.int .i64 0, .int .i64 0, .int .i64 0, .int .i64 0], .int .i64 91]) (resZ rfl rfl (HR3.out.set4 _ _ _ _) rfl) rfl ⟨by first | (rw [HRV.out]; done) | (rw [HRV.out]; rfl), H3.out.set4 (.inr (Nat.le_refl _)) _ _ _ _⟩
          | true =>
            simp only [if_true] at HC HRV
            go_wp2_with (first
              | (go_at_call 26; refine (HNm.out _).mono ?_; rintro e w1 ⟨rfl, hf⟩; have HB1 := Lib.hid (HBg.out.fr hf (by simp)); have HR1 := Lib.hid (HR0.out.fr hf (by simp)); have H1 := Lib.hid (HFx.out.trans hf); clear hf k0 k1 k2 k3 kf; have k0 := (HB1.out.cell 0).trans rfl; have k1 := (HB1.out.cell 1).trans rfl; have k2 := (HB1.out.cell 2).trans rfl; have k3 := (HB1.out.cell 3).trans rfl; have kf := HB1.out.frozen)
              | (go_at_call 28; refine (HFm.out _).mono ?_; rintro e w2 ⟨rfl, rfl⟩)
              | (go_at_call 27; refine (HS.out _).mono ?_; rintro e w2 ⟨rfl, rfl⟩)
              | (go_at_call 16; refine (HC.out _).mono ?_; rintro e w3 ⟨rfl, hf⟩; have HB3 := Lib.hid (HB1.out.fr hf (by simp)); have HR3 := Lib.hid (HR1.out.fr hf (by simp)); have H3 := Lib.hid (H1.out.trans hf); clear hf k0 k1 k2 k3 kf; have k0 := (HB3.out.cell 0).trans rfl; have k1 := (HB3.out.cell 1).trans rfl; have k2 := (HB3.out.cell 2).trans rfl; have k3 := (HB3.out.cell 3).trans rfl; have kf := HB3.out.frozen; have j0 := (HR3.out.cell 0).trans rfl; have j1 := (HR3.out.cell 1).trans rfl; have j2 := (HR3.out.cell 2).trans rfl; have j3 := (HR3.out.cell 3).trans rfl; have jf := HR3.out.frozen)
              | fail)
            exact bodyPost_ret (v := .tuple #[.agg #[.int .i64 (c0 : Int), .int .i64 (A : Int), .int .i64 (B : Int), .int .i64 (N : Int)], .int .i64 0]) (resZ rfl rfl (HR3.out.set4 _ _ _ _) rfl) rfl ⟨by first | (rw [HRV.out]; done) | (rw [HRV.out]; rfl), H3.out.set4 (.inr (Nat.le_refl _)) _ _ _ _⟩
    · have hD : decB c0 c1 c2 c3 = (In0, 91) := by
        unfold decB
        rw [if_neg (fun h => hc h.1)]
      have HRV := Lib.hid (HRV.out.trans hD)
      have HNm := Lib.hid (fun W => rName_no (c0 : Int) (.inr (by omega)) W)
      have HC : Hid (∀ W, Calls Tryz.prog 16 #[.agg #[.int .i64 (c0 : Int), .int .i64 (A : Int), .int .i64 (B : Int), .int .i64 (N : Int)]] W fun e w' => e = .returned (.int .i64 90) ∧ Fr [] W w') := Lib.hid (fun W => rCheck_no ⟨(c0 : Int), (A : Int), (B : Int), (N : Int)⟩ (.inr (by show (30 : Int) ≤ (c0 : Int); omega)) W)
      have HFm := HNm
      have HS := HNm
      clear hD
      go_wp2_with (first
        | (go_at_call 26; refine (HNm.out _).mono ?_; rintro e w1 ⟨rfl, hf⟩; have HB1 := Lib.hid (HBg.out.fr hf (by simp)); have HR1 := Lib.hid (HR0.out.fr hf (by simp)); have H1 := Lib.hid (HFx.out.trans hf); clear hf k0 k1 k2 k3 kf; have k0 := (HB1.out.cell 0).trans rfl; have k1 := (HB1.out.cell 1).trans rfl; have k2 := (HB1.out.cell 2).trans rfl; have k3 := (HB1.out.cell 3).trans rfl; have kf := HB1.out.frozen)
        | (go_at_call 28; refine (HFm.out _).mono ?_; rintro e w2 ⟨rfl, rfl⟩)
        | (go_at_call 27; refine (HS.out _).mono ?_; rintro e w2 ⟨rfl, rfl⟩)
        | (go_at_call 16; refine (HC.out _).mono ?_; rintro e w3 ⟨rfl, hf⟩; have HB3 := Lib.hid (HB1.out.fr hf (by simp)); have HR3 := Lib.hid (HR1.out.fr hf (by simp)); have H3 := Lib.hid (H1.out.trans hf); clear hf k0 k1 k2 k3 kf; have k0 := (HB3.out.cell 0).trans rfl; have k1 := (HB3.out.cell 1).trans rfl; have k2 := (HB3.out.cell 2).trans rfl; have k3 := (HB3.out.cell 3).trans rfl; have kf := HB3.out.frozen; have j0 := (HR3.out.cell 0).trans rfl; have j1 := (HR3.out.cell 1).trans rfl; have j2 := (HR3.out.cell 2).trans rfl; have j3 := (HR3.out.cell 3).trans rfl; have jf := HR3.out.frozen)
        | fail)
      exact bodyPost_ret (v := .tuple #[.agg #[.int .i64 0, .int .i64 0, .int .i64 0, .int .i64 0], .int .i64 91]) (resZ rfl rfl (HR3.out.set4 _ _ _ _) rfl) rfl ⟨by first | (rw [HRV.out]; done) | (rw [HRV.out]; rfl), H3.out.set4 (.inr (Nat.le_refl _)) _ _ _ _⟩
theorem rDecode_any (s : ByteArray) (w : World) : Calls Tryz.prog 11 #[.string s] w fun e w' => e = .returned (.tuple #[(decI s).1.v, .int .i64 (decI s).2]) ∧ Fr [] w w' := by
  have long : ∀ s : ByteArray, s.size ≠ 4 → decI s = (In0, 91) → Calls Tryz.prog 11 #[.string s] w fun e w' => e = .returned (.tuple #[(decI s).1.v, .int .i64 (decI s).2]) ∧ Fr [] w w' := by
    intro s h1 h2
    rw [h2]
    exact rDecode_long s h1 w
  obtain ⟨⟨l⟩⟩ := s
  match l with
  | [] => exact long _ (by decide) rfl
  | [_] => exact long _ (by simp [ByteArray.size]) rfl
  | [_, _] => exact long _ (by simp [ByteArray.size]) rfl
  | [_, _, _] => exact long _ (by simp [ByteArray.size]) rfl
  | [c0, c1, c2, c3] => exact rDecode_four ⟨⟨[c0, c1, c2, c3]⟩⟩ c0.toNat c1.toNat c2.toNat c3.toNat rfl (fun _ => rfl) (fun _ => rfl) (fun _ => rfl) (fun _ => rfl) (UInt8.toNat_lt c0) (UInt8.toNat_lt c1) (UInt8.toNat_lt c2) (UInt8.toNat_lt c3) w
  | _ :: _ :: _ :: _ :: _ :: _ => exact long _ (by simp [ByteArray.size]) rfl
end Go.Proofs.YtjijhjdemkgpgaaGreatDoor
