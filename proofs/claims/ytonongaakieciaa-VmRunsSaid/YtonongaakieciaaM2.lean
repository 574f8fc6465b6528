/- The document's instructions: Decode. -/
import Derived.Test.YtonongaakieciaaF5
import Derived.RegionTactic
namespace Go.Proofs.Ytonongaakieciaa
open Go.RowKit
set_option linter.unusedVariables false
set_option linter.unusedSimpArgs false
set_option maxRecDepth 100000
set_option maxHeartbeats 4000000 in
theorem rICheck_no (i : In) (hk : i.op < 0 ∨ 30 ≤ i.op) (w : World) : Calls Try.prog 80 #[i.v] w fun e w' => e = .returned (.int .i64 90) ∧ Fr [] w w' := by
  have HN := Lib.hid (fun W => rName_no i.op hk W)
  obtain ⟨op, a, b, m⟩ := i
  simp only at HN
  have H0 : Hid (Fr [] w (w.alloc (.cells #[.int .i64 op, .int .i64 a, .int .i64 b, .int .i64 m] 53))) := Lib.hid ((Fr.refl [] w).alloc _)
  clear hk
  go_enter Try.func80, Try.ntmps80
  go_wp2_with (first
    | (go_at_call 110; refine (HN.out _).mono ?_; rintro e w1 ⟨rfl, hf⟩; have H1 := Lib.hid (H0.out.trans hf); clear hf)
    | fail)
  go_ret
  exact ⟨rfl, H1.out⟩
theorem res82 {tmps : Array Value} {w : World} {g : Nat} {e : Value} {cs : Array Value} (h2 : tmps.getD 2 undef = .pointer (some ⟨g, 0, none⟩)) (h3 : tmps.getD 3 undef = e) (hb : Blk w g 53 cs) (hs : cs.size = 4) : (results Try.f82 tmps).run Try.prog w = .ok (.tuple #[.agg cs, e]) w := by
  have h1 : (asAddr (tmps.getD 2 undef)).run Try.prog w = .ok ⟨g, 0, none⟩ w := by rw [h2]; rfl
  rw [results_cell_tmp Try.results82, h1, h3]
  have h4 := run_loadVar_row (P := Try.prog) w g 53 53 cs (0, 0) _ hb Try.underlying53 rfl (by rw [hs]; kernel_rfl)
  simp [Result.andThen, h4]
set_option maxHeartbeats 4000000 in
theorem rDecode_long (s : ByteArray) (h : s.size ≠ 4) (w : World) : Calls Try.prog 82 #[.string s] w fun e w' => e = .returned (.tuple #[In0.v, .int .i64 91]) ∧ Fr [] w w' := by
  have hb : ((s.size : Int) == 4) = false := beq_eq_false_iff_ne.2 (by omega)
  have hb2 : ((s.size : Int) != 4) = true := bne_iff_ne.2 (by omega)
  have HF := Lib.hid (fun o => (Fr.refl [] w).alloc o)
  unfold In0
  go_enter Try.func82, Try.ntmps82
  go_wp2
  exact bodyPost_ret (v := .tuple #[.agg #[.int .i64 0, .int .i64 0, .int .i64 0, .int .i64 0], .int .i64 91]) (by simp [results, Try.results82, go_sem]) rfl ⟨rfl, HF.out _⟩
set_option maxHeartbeats 8000000 in
theorem rDecode_no (s : ByteArray) (c0 c1 c2 c3 : Nat) (h : s.size = 4) (h0 : ∀ h, (s[0]'h).toNat = c0) (h1 : ∀ h, (s[1]'h).toNat = c1) (h2 : ∀ h, (s[2]'h).toNat = c2) (h3 : ∀ h, (s[3]'h).toNat = c3) (hc : 30 ≤ c0) (b0 : c0 < 256) (b1 : c1 < 256) (b2 : c2 < 256) (b3 : c3 < 256) (w : World) : Calls Try.prog 82 #[.string s] w fun e w' => e = .returned (.tuple #[In0.v, .int .i64 91]) ∧ Fr [] w w' := by
  have hz : (s.size : Int) = 4 := by omega
  have h4 : 0 < s.size := by omega
  have h5 : 1 < s.size := by omega
  have h6 : 2 < s.size := by omega
  have h7 : 3 < s.size := by omega
  have hq1 : (c1 : Int) / 16 = ((c1 / 16 : Nat) : Int) := by omega
  have hq2 : (c1 : Int) % 16 = ((c1 % 16 : Nat) : Int) := by omega
  have hNN : 256 * (c2 : Int) + (c3 : Int) = ((c2 * 256 + c3 : Nat) : Int) := by omega
  have HNm := Lib.hid (fun W => rName_no (c0 : Int) (.inr (by omega)) W)
  have HC := Lib.hid (fun (a b m : Int) W => rICheck_no ⟨c0, a, b, m⟩ (.inr (by show (30 : Int) ≤ (c0 : Int); omega)) W)
  have hN : c2 * 256 + c3 < 65536 := by omega
  generalize c2 * 256 + c3 = N at *
  have hA : c1 / 16 < 16 := by omega
  have hB : c1 % 16 < 16 := by omega
  generalize c1 / 16 = A at *
  generalize c1 % 16 = B at *
  have HCk := Lib.hid (fun W => HC.out (A : Int) (B : Int) (N : Int) W)
  clear hc HC
  unfold In0
  go_enter Try.func82, Try.ntmps82
  go_wp2_with fail
  go_region
  go_wp2_with (first
    | (go_at_call 110; refine (HNm.out _).mono ?_; rintro e w1 ⟨rfl, hf⟩; have HB := Lib.hid (show Blk w1 (w.heap.size + 1) 53 #[.int .i64 (c0 : Int), .int .i64 (A : Int), .int .i64 (B : Int), .int .i64 (N : Int)] from (Blk.new' (by simp)).drew.fr hf (by simp)); have HR := Lib.hid (show Blk w1 w.heap.size 53 Z4 from ((Blk.new w 53 _).alloc _).drew.fr hf (by simp)); have H1 := Lib.hid (show Fr [] w w1 from (((Fr.refl [] w).alloc _).alloc _).drew.trans hf); clear hf; have k0 : w1.cell? ⟨w.heap.size + 1, 0, none⟩ = some (.int .i64 (c0 : Int)) := HB.out.cell 0; have k1 : w1.cell? ⟨w.heap.size + 1, 1, none⟩ = some (.int .i64 (A : Int)) := HB.out.cell 1; have k2 : w1.cell? ⟨w.heap.size + 1, 2, none⟩ = some (.int .i64 (B : Int)) := HB.out.cell 2; have k3 : w1.cell? ⟨w.heap.size + 1, 3, none⟩ = some (.int .i64 (N : Int)) := HB.out.cell 3; have kf := HB.out.frozen)
    | (go_at_call 80; refine (HCk.out _).mono ?_; rintro e w3 ⟨rfl, hf⟩; have HB3 := Lib.hid (HB.out.fr hf (by simp)); have HR3 := Lib.hid (HR.out.fr hf (by simp)); have H3 := Lib.hid (H1.out.trans hf); clear hf k0 k1 k2 k3 kf; have k0 : w3.cell? ⟨w.heap.size + 1, 0, none⟩ = some (.int .i64 (c0 : Int)) := HB3.out.cell 0; have k1 : w3.cell? ⟨w.heap.size + 1, 1, none⟩ = some (.int .i64 (A : Int)) := HB3.out.cell 1; have k2 : w3.cell? ⟨w.heap.size + 1, 2, none⟩ = some (.int .i64 (B : Int)) := HB3.out.cell 2; have k3 : w3.cell? ⟨w.heap.size + 1, 3, none⟩ = some (.int .i64 (N : Int)) := HB3.out.cell 3; have j0 : w3.cell? ⟨w.heap.size, 0, none⟩ = some (.int .i64 0) := HR3.out.cell 0; have j1 : w3.cell? ⟨w.heap.size, 1, none⟩ = some (.int .i64 0) := HR3.out.cell 1; have j2 : w3.cell? ⟨w.heap.size, 2, none⟩ = some (.int .i64 0) := HR3.out.cell 2; have j3 : w3.cell? ⟨w.heap.size, 3, none⟩ = some (.int .i64 0) := HR3.out.cell 3; have jf := HR3.out.frozen)
    | fail)
  exact bodyPost_ret (v := .tuple #[.agg #[.int .i64 0, .int .i64 0, .int .i64 0, .int .i64 0], .int .i64 91]) (res82 rfl rfl (HR3.out.set4 _ _ _ _) rfl) rfl ⟨rfl, H3.out.set4 (.inr (Nat.le_refl _)) _ _ _ _⟩
set_option maxHeartbeats 8000000 in
theorem rDecode_four (s : ByteArray) (c0 c1 c2 c3 : Nat) (h : s.size = 4) (h0 : ∀ h, (s[0]'h).toNat = c0) (h1 : ∀ h, (s[1]'h).toNat = c1) (h2 : ∀ h, (s[2]'h).toNat = c2) (h3 : ∀ h, (s[3]'h).toNat = c3) (hc : c0 < 30) (b1 : c1 < 256) (b2 : c2 < 256) (b3 : c3 < 256) (w : World) :
    Calls Try.prog 82 #[.string s] w fun e w' => e = .returned (.tuple #[(if okI (mkI c0 c1 c2 c3) c0 = true then mkI c0 c1 c2 c3 else In0).v, .int .i64 (if okI (mkI c0 c1 c2 c3) c0 = true then 0 else 91)]) ∧ Fr [] w w' := by
  have hz : (s.size : Int) = 4 := by omega
  have b0 : c0 < 256 := by omega
  have h4 : 0 < s.size := by omega
  have h5 : 1 < s.size := by omega
  have h6 : 2 < s.size := by omega
  have h7 : 3 < s.size := by omega
  have hq1 : (c1 : Int) / 16 = ((c1 / 16 : Nat) : Int) := by omega
  have hq2 : (c1 : Int) % 16 = ((c1 % 16 : Nat) : Int) := by omega
  have hNN : 256 * (c2 : Int) + (c3 : Int) = ((c2 * 256 + c3 : Nat) : Int) := by omega
  have HNm := Lib.hid (fun W => rName_any c0 hc W)
  have hne := nm_ne c0 hc
  have HFm := Lib.hid (fun W => rForm_any c0 hc W)
  have HS := Lib.hid (fun W => (show Calls Try.prog 112 #[.string (fm c0), .int .u8 115] W fun e w' => e = .returned (.bool (hasC (fm c0) 115)) ∧ W = w' from rHas_any (fm c0) 115 (fm_us c0 hc).2.2 W))
  have HC := Lib.hid (fun W => rCheck_in (mkI c0 c1 c2 c3) c0 hc rfl W)
  unfold mkI imB at *
  have hN : c2 * 256 + c3 < 65536 := by omega
  generalize c2 * 256 + c3 = N at *
  have hA : c1 / 16 < 16 := by omega
  have hB : c1 % 16 < 16 := by omega
  generalize c1 / 16 = A at *
  generalize c1 % 16 = B at *
  obtain ⟨C3, hC3⟩ : ∃ C3, hasC (fm c0) 115 = C3 := ⟨_, rfl⟩
  rw [hC3] at HS HC ⊢
  generalize nm c0 = NM at *
  cases C3 with
  | false =>
    simp only [Bool.false_eq_true, false_and, if_false] at HC ⊢
    obtain ⟨K, hK⟩ : ∃ K, okI ⟨(c0 : Int), (A : Int), (B : Int), (N : Int)⟩ c0 = K := ⟨_, rfl⟩
    rw [hK] at HC ⊢
    clear hC3 hK
    generalize fm c0 = Fo at *
    cases K with
    | false =>
      simp only [Bool.false_eq_true, if_false] at HC ⊢
      go_enter Try.func82, Try.ntmps82
      go_wp2_with fail
      go_region
      go_wp2_with (first
        | (go_at_call 110; refine (HNm.out _).mono ?_; rintro e w1 ⟨rfl, hf⟩; have HB := Lib.hid (show Blk w1 (w.heap.size + 1) 53 #[.int .i64 (c0 : Int), .int .i64 (A : Int), .int .i64 (B : Int), .int .i64 (N : Int)] from (Blk.new' (by simp)).drew.fr hf (by simp)); have HR := Lib.hid (show Blk w1 w.heap.size 53 Z4 from ((Blk.new w 53 _).alloc _).drew.fr hf (by simp)); have H1 := Lib.hid (show Fr [] w w1 from (((Fr.refl [] w).alloc _).alloc _).drew.trans hf); clear hf; have k0 : w1.cell? ⟨w.heap.size + 1, 0, none⟩ = some (.int .i64 (c0 : Int)) := HB.out.cell 0; have k1 : w1.cell? ⟨w.heap.size + 1, 1, none⟩ = some (.int .i64 (A : Int)) := HB.out.cell 1; have k2 : w1.cell? ⟨w.heap.size + 1, 2, none⟩ = some (.int .i64 (B : Int)) := HB.out.cell 2; have k3 : w1.cell? ⟨w.heap.size + 1, 3, none⟩ = some (.int .i64 (N : Int)) := HB.out.cell 3; have kf := HB.out.frozen)
        | (go_at_call 111; refine (HFm.out _).mono ?_; rintro e w2 ⟨rfl, rfl⟩)
        | (go_at_call 112; refine (HS.out _).mono ?_; rintro e w2 ⟨rfl, rfl⟩)
        | (go_at_call 80; refine (HC.out _).mono ?_; rintro e w3 ⟨rfl, hf⟩; have HB3 := Lib.hid (HB.out.fr hf (by simp)); have HR3 := Lib.hid (HR.out.fr hf (by simp)); have H3 := Lib.hid (H1.out.trans hf); clear hf k0 k1 k2 k3 kf; have k0 : w3.cell? ⟨w.heap.size + 1, 0, none⟩ = some (.int .i64 (c0 : Int)) := HB3.out.cell 0; have k1 : w3.cell? ⟨w.heap.size + 1, 1, none⟩ = some (.int .i64 (A : Int)) := HB3.out.cell 1; have k2 : w3.cell? ⟨w.heap.size + 1, 2, none⟩ = some (.int .i64 (B : Int)) := HB3.out.cell 2; have k3 : w3.cell? ⟨w.heap.size + 1, 3, none⟩ = some (.int .i64 (N : Int)) := HB3.out.cell 3; have j0 : w3.cell? ⟨w.heap.size, 0, none⟩ = some (.int .i64 0) := HR3.out.cell 0; have j1 : w3.cell? ⟨w.heap.size, 1, none⟩ = some (.int .i64 0) := HR3.out.cell 1; have j2 : w3.cell? ⟨w.heap.size, 2, none⟩ = some (.int .i64 0) := HR3.out.cell 2; have j3 : w3.cell? ⟨w.heap.size, 3, none⟩ = some (.int .i64 0) := HR3.out.cell 3; have jf := HR3.out.frozen)
        | fail)
      exact bodyPost_ret (v := .tuple #[.agg #[.int .i64 0, .int .i64 0, .int .i64 0, .int .i64 0], .int .i64 91]) (res82 rfl rfl (HR3.out.set4 _ _ _ _) rfl) rfl ⟨rfl, H3.out.set4 (.inr (Nat.le_refl _)) _ _ _ _⟩
    | true =>
      simp only [if_true] at HC ⊢
      go_enter Try.func82, Try.ntmps82
      go_wp2_with fail
      go_region
      go_wp2_with (first
        | (go_at_call 110; refine (HNm.out _).mono ?_; rintro e w1 ⟨rfl, hf⟩; have HB := Lib.hid (show Blk w1 (w.heap.size + 1) 53 #[.int .i64 (c0 : Int), .int .i64 (A : Int), .int .i64 (B : Int), .int .i64 (N : Int)] from (Blk.new' (by simp)).drew.fr hf (by simp)); have HR := Lib.hid (show Blk w1 w.heap.size 53 Z4 from ((Blk.new w 53 _).alloc _).drew.fr hf (by simp)); have H1 := Lib.hid (show Fr [] w w1 from (((Fr.refl [] w).alloc _).alloc _).drew.trans hf); clear hf; have k0 : w1.cell? ⟨w.heap.size + 1, 0, none⟩ = some (.int .i64 (c0 : Int)) := HB.out.cell 0; have k1 : w1.cell? ⟨w.heap.size + 1, 1, none⟩ = some (.int .i64 (A : Int)) := HB.out.cell 1; have k2 : w1.cell? ⟨w.heap.size + 1, 2, none⟩ = some (.int .i64 (B : Int)) := HB.out.cell 2; have k3 : w1.cell? ⟨w.heap.size + 1, 3, none⟩ = some (.int .i64 (N : Int)) := HB.out.cell 3; have kf := HB.out.frozen)
        | (go_at_call 111; refine (HFm.out _).mono ?_; rintro e w2 ⟨rfl, rfl⟩)
        | (go_at_call 112; refine (HS.out _).mono ?_; rintro e w2 ⟨rfl, rfl⟩)
        | (go_at_call 80; refine (HC.out _).mono ?_; rintro e w3 ⟨rfl, hf⟩; have HB3 := Lib.hid (HB.out.fr hf (by simp)); have HR3 := Lib.hid (HR.out.fr hf (by simp)); have H3 := Lib.hid (H1.out.trans hf); clear hf k0 k1 k2 k3 kf; have k0 : w3.cell? ⟨w.heap.size + 1, 0, none⟩ = some (.int .i64 (c0 : Int)) := HB3.out.cell 0; have k1 : w3.cell? ⟨w.heap.size + 1, 1, none⟩ = some (.int .i64 (A : Int)) := HB3.out.cell 1; have k2 : w3.cell? ⟨w.heap.size + 1, 2, none⟩ = some (.int .i64 (B : Int)) := HB3.out.cell 2; have k3 : w3.cell? ⟨w.heap.size + 1, 3, none⟩ = some (.int .i64 (N : Int)) := HB3.out.cell 3; have j0 : w3.cell? ⟨w.heap.size, 0, none⟩ = some (.int .i64 0) := HR3.out.cell 0; have j1 : w3.cell? ⟨w.heap.size, 1, none⟩ = some (.int .i64 0) := HR3.out.cell 1; have j2 : w3.cell? ⟨w.heap.size, 2, none⟩ = some (.int .i64 0) := HR3.out.cell 2; have j3 : w3.cell? ⟨w.heap.size, 3, none⟩ = some (.int .i64 0) := HR3.out.cell 3; have jf := HR3.out.frozen)
        | fail)
      exact bodyPost_ret (v := .tuple #[.agg #[.int .i64 (c0 : Int), .int .i64 (A : Int), .int .i64 (B : Int), .int .i64 (N : Int)], .int .i64 0]) (res82 rfl rfl (HR3.out.set4 _ _ _ _) rfl) rfl ⟨rfl, H3.out.set4 (.inr (Nat.le_refl _)) _ _ _ _⟩
  | true =>
    by_cases hbig : 32768 ≤ N
    · obtain ⟨M, hM⟩ : ∃ M : Int, (N : Int) - 65536 = M := ⟨_, rfl⟩
      simp only [true_and, if_pos hbig] at HC ⊢
      rw [hM] at HC ⊢
      have hgt : (32767 : Int) < (N : Int) := by omega
      have hMb : -32768 ≤ M ∧ M ≤ 32767 := by omega
      obtain ⟨K, hK⟩ : ∃ K, okI ⟨(c0 : Int), (A : Int), (B : Int), M⟩ c0 = K := ⟨_, rfl⟩
      rw [hK] at HC ⊢
      clear hC3 hK
      generalize fm c0 = Fo at *
      cases K with
      | false =>
        simp only [Bool.false_eq_true, if_false] at HC ⊢
        go_enter Try.func82, Try.ntmps82
        go_wp2_with fail
        go_region
        go_wp2_with (first
          | (go_at_call 110; refine (HNm.out _).mono ?_; rintro e w1 ⟨rfl, hf⟩; have HB := Lib.hid (show Blk w1 (w.heap.size + 1) 53 #[.int .i64 (c0 : Int), .int .i64 (A : Int), .int .i64 (B : Int), .int .i64 (N : Int)] from (Blk.new' (by simp)).drew.fr hf (by simp)); have HR := Lib.hid (show Blk w1 w.heap.size 53 Z4 from ((Blk.new w 53 _).alloc _).drew.fr hf (by simp)); have H1 := Lib.hid (show Fr [] w w1 from (((Fr.refl [] w).alloc _).alloc _).drew.trans hf); clear hf; have k0 : w1.cell? ⟨w.heap.size + 1, 0, none⟩ = some (.int .i64 (c0 : Int)) := HB.out.cell 0; have k1 : w1.cell? ⟨w.heap.size + 1, 1, none⟩ = some (.int .i64 (A : Int)) := HB.out.cell 1; have k2 : w1.cell? ⟨w.heap.size + 1, 2, none⟩ = some (.int .i64 (B : Int)) := HB.out.cell 2; have k3 : w1.cell? ⟨w.heap.size + 1, 3, none⟩ = some (.int .i64 (N : Int)) := HB.out.cell 3; have kf := HB.out.frozen)
          | (go_at_call 111; refine (HFm.out _).mono ?_; rintro e w2 ⟨rfl, rfl⟩)
          | (go_at_call 112; refine (HS.out _).mono ?_; rintro e w2 ⟨rfl, rfl⟩)
          | (go_at_call 80; refine (HC.out _).mono ?_; rintro e w3 ⟨rfl, hf⟩; have HB3 := Lib.hid (show Blk w3 (w.heap.size + 1) 53 #[.int .i64 (c0 : Int), .int .i64 (A : Int), .int .i64 (B : Int), .int .i64 M] from (HB.out.set_ 3 (.int .i64 M)).fr hf (by simp)); have HR3 := Lib.hid (show Blk w3 w.heap.size 53 Z4 from (HR.out.far (p := ⟨w.heap.size + 1, 3, none⟩) (by simp) (.int .i64 M)).fr hf (by simp)); have H3 := Lib.hid (show Fr [] w w3 from (H1.out.setCell (p := ⟨w.heap.size + 1, 3, none⟩) (.inr (by simp)) (.int .i64 M)).trans hf); clear hf k0 k1 k2 k3 kf; have k0 : w3.cell? ⟨w.heap.size + 1, 0, none⟩ = some (.int .i64 (c0 : Int)) := HB3.out.cell 0; have k1 : w3.cell? ⟨w.heap.size + 1, 1, none⟩ = some (.int .i64 (A : Int)) := HB3.out.cell 1; have k2 : w3.cell? ⟨w.heap.size + 1, 2, none⟩ = some (.int .i64 (B : Int)) := HB3.out.cell 2; have k3 : w3.cell? ⟨w.heap.size + 1, 3, none⟩ = some (.int .i64 M) := HB3.out.cell 3; have j0 : w3.cell? ⟨w.heap.size, 0, none⟩ = some (.int .i64 0) := HR3.out.cell 0; have j1 : w3.cell? ⟨w.heap.size, 1, none⟩ = some (.int .i64 0) := HR3.out.cell 1; have j2 : w3.cell? ⟨w.heap.size, 2, none⟩ = some (.int .i64 0) := HR3.out.cell 2; have j3 : w3.cell? ⟨w.heap.size, 3, none⟩ = some (.int .i64 0) := HR3.out.cell 3; have jf := HR3.out.frozen)
          | fail)
        exact bodyPost_ret (v := .tuple #[.agg #[.int .i64 0, .int .i64 0, .int .i64 0, .int .i64 0], .int .i64 91]) (res82 rfl rfl (HR3.out.set4 _ _ _ _) rfl) rfl ⟨rfl, H3.out.set4 (.inr (Nat.le_refl _)) _ _ _ _⟩
      | true =>
        simp only [if_true] at HC ⊢
        go_enter Try.func82, Try.ntmps82
        go_wp2_with fail
        go_region
        go_wp2_with (first
          | (go_at_call 110; refine (HNm.out _).mono ?_; rintro e w1 ⟨rfl, hf⟩; have HB := Lib.hid (show Blk w1 (w.heap.size + 1) 53 #[.int .i64 (c0 : Int), .int .i64 (A : Int), .int .i64 (B : Int), .int .i64 (N : Int)] from (Blk.new' (by simp)).drew.fr hf (by simp)); have HR := Lib.hid (show Blk w1 w.heap.size 53 Z4 from ((Blk.new w 53 _).alloc _).drew.fr hf (by simp)); have H1 := Lib.hid (show Fr [] w w1 from (((Fr.refl [] w).alloc _).alloc _).drew.trans hf); clear hf; have k0 : w1.cell? ⟨w.heap.size + 1, 0, none⟩ = some (.int .i64 (c0 : Int)) := HB.out.cell 0; have k1 : w1.cell? ⟨w.heap.size + 1, 1, none⟩ = some (.int .i64 (A : Int)) := HB.out.cell 1; have k2 : w1.cell? ⟨w.heap.size + 1, 2, none⟩ = some (.int .i64 (B : Int)) := HB.out.cell 2; have k3 : w1.cell? ⟨w.heap.size + 1, 3, none⟩ = some (.int .i64 (N : Int)) := HB.out.cell 3; have kf := HB.out.frozen)
          | (go_at_call 111; refine (HFm.out _).mono ?_; rintro e w2 ⟨rfl, rfl⟩)
          | (go_at_call 112; refine (HS.out _).mono ?_; rintro e w2 ⟨rfl, rfl⟩)
          | (go_at_call 80; refine (HC.out _).mono ?_; rintro e w3 ⟨rfl, hf⟩; have HB3 := Lib.hid (show Blk w3 (w.heap.size + 1) 53 #[.int .i64 (c0 : Int), .int .i64 (A : Int), .int .i64 (B : Int), .int .i64 M] from (HB.out.set_ 3 (.int .i64 M)).fr hf (by simp)); have HR3 := Lib.hid (show Blk w3 w.heap.size 53 Z4 from (HR.out.far (p := ⟨w.heap.size + 1, 3, none⟩) (by simp) (.int .i64 M)).fr hf (by simp)); have H3 := Lib.hid (show Fr [] w w3 from (H1.out.setCell (p := ⟨w.heap.size + 1, 3, none⟩) (.inr (by simp)) (.int .i64 M)).trans hf); clear hf k0 k1 k2 k3 kf; have k0 : w3.cell? ⟨w.heap.size + 1, 0, none⟩ = some (.int .i64 (c0 : Int)) := HB3.out.cell 0; have k1 : w3.cell? ⟨w.heap.size + 1, 1, none⟩ = some (.int .i64 (A : Int)) := HB3.out.cell 1; have k2 : w3.cell? ⟨w.heap.size + 1, 2, none⟩ = some (.int .i64 (B : Int)) := HB3.out.cell 2; have k3 : w3.cell? ⟨w.heap.size + 1, 3, none⟩ = some (.int .i64 M) := HB3.out.cell 3; have j0 : w3.cell? ⟨w.heap.size, 0, none⟩ = some (.int .i64 0) := HR3.out.cell 0; have j1 : w3.cell? ⟨w.heap.size, 1, none⟩ = some (.int .i64 0) := HR3.out.cell 1; have j2 : w3.cell? ⟨w.heap.size, 2, none⟩ = some (.int .i64 0) := HR3.out.cell 2; have j3 : w3.cell? ⟨w.heap.size, 3, none⟩ = some (.int .i64 0) := HR3.out.cell 3; have jf := HR3.out.frozen)
          | fail)
        exact bodyPost_ret (v := .tuple #[.agg #[.int .i64 (c0 : Int), .int .i64 (A : Int), .int .i64 (B : Int), .int .i64 M], .int .i64 0]) (res82 rfl rfl (HR3.out.set4 _ _ _ _) rfl) rfl ⟨rfl, H3.out.set4 (.inr (Nat.le_refl _)) _ _ _ _⟩
    · simp only [true_and, if_neg hbig] at HC ⊢
      have hgt : ¬ (32767 : Int) < (N : Int) := by omega
      obtain ⟨K, hK⟩ : ∃ K, okI ⟨(c0 : Int), (A : Int), (B : Int), (N : Int)⟩ c0 = K := ⟨_, rfl⟩
      rw [hK] at HC ⊢
      clear hC3 hK hbig
      generalize fm c0 = Fo at *
      cases K with
      | false =>
        simp only [Bool.false_eq_true, if_false] at HC ⊢
        go_enter Try.func82, Try.ntmps82
        go_wp2_with fail
        go_region
        go_wp2_with (first
          | (go_at_call 110; refine (HNm.out _).mono ?_; rintro e w1 ⟨rfl, hf⟩; have HB := Lib.hid (show Blk w1 (w.heap.size + 1) 53 #[.int .i64 (c0 : Int), .int .i64 (A : Int), .int .i64 (B : Int), .int .i64 (N : Int)] from (Blk.new' (by simp)).drew.fr hf (by simp)); have HR := Lib.hid (show Blk w1 w.heap.size 53 Z4 from ((Blk.new w 53 _).alloc _).drew.fr hf (by simp)); have H1 := Lib.hid (show Fr [] w w1 from (((Fr.refl [] w).alloc _).alloc _).drew.trans hf); clear hf; have k0 : w1.cell? ⟨w.heap.size + 1, 0, none⟩ = some (.int .i64 (c0 : Int)) := HB.out.cell 0; have k1 : w1.cell? ⟨w.heap.size + 1, 1, none⟩ = some (.int .i64 (A : Int)) := HB.out.cell 1; have k2 : w1.cell? ⟨w.heap.size + 1, 2, none⟩ = some (.int .i64 (B : Int)) := HB.out.cell 2; have k3 : w1.cell? ⟨w.heap.size + 1, 3, none⟩ = some (.int .i64 (N : Int)) := HB.out.cell 3; have kf := HB.out.frozen)
          | (go_at_call 111; refine (HFm.out _).mono ?_; rintro e w2 ⟨rfl, rfl⟩)
          | (go_at_call 112; refine (HS.out _).mono ?_; rintro e w2 ⟨rfl, rfl⟩)
          | (go_at_call 80; refine (HC.out _).mono ?_; rintro e w3 ⟨rfl, hf⟩; have HB3 := Lib.hid (HB.out.fr hf (by simp)); have HR3 := Lib.hid (HR.out.fr hf (by simp)); have H3 := Lib.hid (H1.out.trans hf); clear hf k0 k1 k2 k3 kf; have k0 : w3.cell? ⟨w.heap.size + 1, 0, none⟩ = some (.int .i64 (c0 : Int)) := HB3.out.cell 0; have k1 : w3.cell? ⟨w.heap.size + 1, 1, none⟩ = some (.int .i64 (A : Int)) := HB3.out.cell 1; have k2 : w3.cell? ⟨w.heap.size + 1, 2, none⟩ = some (.int .i64 (B : Int)) := HB3.out.cell 2; have k3 : w3.cell? ⟨w.heap.size + 1, 3, none⟩ = some (.int .i64 (N : Int)) := HB3.out.cell 3; have j0 : w3.cell? ⟨w.heap.size, 0, none⟩ = some (.int .i64 0) := HR3.out.cell 0; have j1 : w3.cell? ⟨w.heap.size, 1, none⟩ = some (.int .i64 0) := HR3.out.cell 1; have j2 : w3.cell? ⟨w.heap.size, 2, none⟩ = some (.int .i64 0) := HR3.out.cell 2; have j3 : w3.cell? ⟨w.heap.size, 3, none⟩ = some (.int .i64 0) := HR3.out.cell 3; have jf := HR3.out.frozen)
          | fail)
        exact bodyPost_ret (v := .tuple #[.agg #[.int .i64 0, .int .i64 0, .int .i64 0, .int .i64 0], .int .i64 91]) (res82 rfl rfl (HR3.out.set4 _ _ _ _) rfl) rfl ⟨rfl, H3.out.set4 (.inr (Nat.le_refl _)) _ _ _ _⟩
      | true =>
        simp only [if_true] at HC ⊢
        go_enter Try.func82, Try.ntmps82
        go_wp2_with fail
        go_region
        go_wp2_with (first
          | (go_at_call 110; refine (HNm.out _).mono ?_; rintro e w1 ⟨rfl, hf⟩; have HB := Lib.hid (show Blk w1 (w.heap.size + 1) 53 #[.int .i64 (c0 : Int), .int .i64 (A : Int), .int .i64 (B : Int), .int .i64 (N : Int)] from (Blk.new' (by simp)).drew.fr hf (by simp)); have HR := Lib.hid (show Blk w1 w.heap.size 53 Z4 from ((Blk.new w 53 _).alloc _).drew.fr hf (by simp)); have H1 := Lib.hid (show Fr [] w w1 from (((Fr.refl [] w).alloc _).alloc _).drew.trans hf); clear hf; have k0 : w1.cell? ⟨w.heap.size + 1, 0, none⟩ = some (.int .i64 (c0 : Int)) := HB.out.cell 0; have k1 : w1.cell? ⟨w.heap.size + 1, 1, none⟩ = some (.int .i64 (A : Int)) := HB.out.cell 1; have k2 : w1.cell? ⟨w.heap.size + 1, 2, none⟩ = some (.int .i64 (B : Int)) := HB.out.cell 2; have k3 : w1.cell? ⟨w.heap.size + 1, 3, none⟩ = some (.int .i64 (N : Int)) := HB.out.cell 3; have kf := HB.out.frozen)
          | (go_at_call 111; refine (HFm.out _).mono ?_; rintro e w2 ⟨rfl, rfl⟩)
          | (go_at_call 112; refine (HS.out _).mono ?_; rintro e w2 ⟨rfl, rfl⟩)
          | (go_at_call 80; refine (HC.out _).mono ?_; rintro e w3 ⟨rfl, hf⟩; have HB3 := Lib.hid (HB.out.fr hf (by simp)); have HR3 := Lib.hid (HR.out.fr hf (by simp)); have H3 := Lib.hid (H1.out.trans hf); clear hf k0 k1 k2 k3 kf; have k0 : w3.cell? ⟨w.heap.size + 1, 0, none⟩ = some (.int .i64 (c0 : Int)) := HB3.out.cell 0; have k1 : w3.cell? ⟨w.heap.size + 1, 1, none⟩ = some (.int .i64 (A : Int)) := HB3.out.cell 1; have k2 : w3.cell? ⟨w.heap.size + 1, 2, none⟩ = some (.int .i64 (B : Int)) := HB3.out.cell 2; have k3 : w3.cell? ⟨w.heap.size + 1, 3, none⟩ = some (.int .i64 (N : Int)) := HB3.out.cell 3; have j0 : w3.cell? ⟨w.heap.size, 0, none⟩ = some (.int .i64 0) := HR3.out.cell 0; have j1 : w3.cell? ⟨w.heap.size, 1, none⟩ = some (.int .i64 0) := HR3.out.cell 1; have j2 : w3.cell? ⟨w.heap.size, 2, none⟩ = some (.int .i64 0) := HR3.out.cell 2; have j3 : w3.cell? ⟨w.heap.size, 3, none⟩ = some (.int .i64 0) := HR3.out.cell 3; have jf := HR3.out.frozen)
          | fail)
        exact bodyPost_ret (v := .tuple #[.agg #[.int .i64 (c0 : Int), .int .i64 (A : Int), .int .i64 (B : Int), .int .i64 (N : Int)], .int .i64 0]) (res82 rfl rfl (HR3.out.set4 _ _ _ _) rfl) rfl ⟨rfl, H3.out.set4 (.inr (Nat.le_refl _)) _ _ _ _⟩
theorem rDecode_any (s : ByteArray) (w : World) : Calls Try.prog 82 #[.string s] w fun e w' => e = .returned (.tuple #[(decI s).1.v, .int .i64 (decI s).2]) ∧ Fr [] w w' := by
  have long : ∀ s : ByteArray, s.size ≠ 4 → decI s = (In0, 91) → Calls Try.prog 82 #[.string s] w fun e w' => e = .returned (.tuple #[(decI s).1.v, .int .i64 (decI s).2]) ∧ Fr [] w w' := by
    intro s h1 h2
    rw [h2]
    exact rDecode_long s h1 w
  obtain ⟨⟨l⟩⟩ := s
  match l with
  | [] => exact long _ (by decide) rfl
  | [_] => exact long _ (by simp [ByteArray.size]) rfl
  | [_, _] => exact long _ (by simp [ByteArray.size]) rfl
  | [_, _, _] => exact long _ (by simp [ByteArray.size]) rfl
  | [c0, c1, c2, c3] =>
    show Calls Try.prog 82 #[.string ⟨⟨[c0, c1, c2, c3]⟩⟩] w fun e w' => e = .returned (.tuple #[(decB c0.toNat c1.toNat c2.toNat c3.toNat).1.v, .int .i64 (decB c0.toNat c1.toNat c2.toNat c3.toNat).2]) ∧ Fr [] w w'
    by_cases hc : c0.toNat < 30
    · refine (rDecode_four ⟨⟨[c0, c1, c2, c3]⟩⟩ c0.toNat c1.toNat c2.toNat c3.toNat rfl (fun _ => rfl) (fun _ => rfl) (fun _ => rfl) (fun _ => rfl) hc (UInt8.toNat_lt c1) (UInt8.toNat_lt c2) (UInt8.toNat_lt c3) w).mono fun e w' ⟨he, hf⟩ => ⟨?_, hf⟩
      rw [he]
      unfold decB
      by_cases ho : okI (mkI c0.toNat c1.toNat c2.toNat c3.toNat) c0.toNat = true
      · rw [if_pos ho, if_pos ho, if_pos ⟨hc, ho⟩]
      · rw [if_neg ho, if_neg ho, if_neg (fun h => ho h.2)]
    · have e : decB c0.toNat c1.toNat c2.toNat c3.toNat = (In0, 91) := by
        unfold decB
        rw [if_neg (fun h => hc h.1)]
      rw [e]
      exact rDecode_no ⟨⟨[c0, c1, c2, c3]⟩⟩ c0.toNat c1.toNat c2.toNat c3.toNat rfl (fun _ => rfl) (fun _ => rfl) (fun _ => rfl) (fun _ => rfl) (by omega) (UInt8.toNat_lt c0) (UInt8.toNat_lt c1) (UInt8.toNat_lt c2) (UInt8.toNat_lt c3) w
  | _ :: _ :: _ :: _ :: _ :: _ => exact long _ (by simp [ByteArray.size]) rfl
end Go.Proofs.Ytonongaakieciaa
