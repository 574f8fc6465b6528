/- Instructions: Decode, of the program. -/
import Derived.Test.YtjijhjdemkgpgaaGreatDoorI2
import Derived.RegionTactic
namespace Go.Proofs.YtjijhjdemkgpgaaGreatDoor
open Go.RowKit
set_option linter.unusedVariables false
set_option linter.unusedSimpArgs false
set_option maxRecDepth 100000
def In0 : In := ⟨0, 0, 0, 0⟩
def imB (k n : Nat) : Int := if hasC (fm k) 115 = true ∧ 32768 ≤ n then (n : Int) - 65536 else (n : Int)
def mkI (c0 c1 c2 c3 : Nat) : In := ⟨c0, (c1 / 16 : Nat), (c1 % 16 : Nat), imB c0 (c2 * 256 + c3)⟩
def decB (c0 c1 c2 c3 : Nat) : In × Int := if c0 < 30 ∧ okI (mkI c0 c1 c2 c3) c0 = true then (mkI c0 c1 c2 c3, 0) else (In0, 91)
def decI (s : ByteArray) : In × Int := match s.data.toList with | [c0, c1, c2, c3] => decB c0.toNat c1.toNat c2.toNat c3.toNat | _ => (In0, 91)
theorem Decode_long (s : ByteArray) (h : s.size ≠ 4) (w : World) : Calls Tryz.prog 10 #[.string s] w fun e w' => e = .returned (.tuple #[In0.v, .int .i64 91]) ∧ Fr [] w w' := by
  have hb : ((s.size : Int) == 4) = false := beq_eq_false_iff_ne.2 (by omega)
  have HF := Lib.hid (fun o => (Fr.refl [] w).alloc o)
  unfold In0
  go_enter Tryz.func10, Tryz.ntmps10
  go_wp2
  exact bodyPost_ret (v := .tuple #[.agg #[.int .i64 0, .int .i64 0, .int .i64 0, .int .i64 0], .int .i64 91]) (by simp [results, Tryz.results10, go_sem]) rfl ⟨rfl, HF.out _⟩
theorem Decode_no (s : ByteArray) (c0 : Nat) (h : s.size = 4) (h0 : ∀ h, (s[0]'h).toNat = c0) (hc : 30 ≤ c0) (b0 : c0 < 256) (w : World) : Calls Tryz.prog 10 #[.string s] w fun e w' => e = .returned (.tuple #[In0.v, .int .i64 91]) ∧ Fr [] w w' := by
  have hz : (s.size : Int) = 4 := by omega
  have hc' : (30 : Int) ≤ (c0 : Int) := by omega
  have h4 : 0 < s.size := by omega
  have HF := Lib.hid (fun o => (Fr.refl [] w).alloc o)
  unfold In0
  go_enter Tryz.func10, Tryz.ntmps10
  go_wp2
  exact bodyPost_ret (v := .tuple #[.agg #[.int .i64 0, .int .i64 0, .int .i64 0, .int .i64 0], .int .i64 91]) (by simp [results, Tryz.results10, go_sem]) rfl ⟨rfl, HF.out _⟩
theorem or16 (a b : Nat) (ha : a < 256) (hb : b < 256) : bits .or .u16 ((a : Int) * 256) (b : Int) = ((a * 256 + b : Nat) : Int) := by
  have h1 : (a : Int) * 256 = ((a * 256 : Nat) : Int) := by omega
  have h2 : a * 256 ||| b = a * 256 + b := by
    rw [Nat.mul_comm a 256]
    exact (Nat.two_pow_add_eq_or_of_lt (i := 8) (by omega) a).symm
  have h4 : ∀ x y : Nat, x < 65536 → y < 65536 → x ||| y < 65536 → bits .or .u16 (x : Int) (y : Int) = ((x ||| y : Nat) : Int) := by
    intro x y hx hy hxy
    show IntKind.u16.wrap (((BitVec.ofInt 16 (x : Int) ||| BitVec.ofInt 16 (y : Int)).toNat : Nat) : Int) = _
    rw [BitVec.toNat_or, BitVec.ofInt_natCast, BitVec.ofInt_natCast, BitVec.toNat_ofNat, BitVec.toNat_ofNat, Nat.mod_eq_of_lt (by omega), Nat.mod_eq_of_lt (by omega)]
    exact IntWalk.u16_in _ (by omega)
  rw [h1, h4 _ _ (by omega) (by omega) (by rw [h2]; omega), h2]
abbrev Z4 : Array Value := #[.int .i64 0, .int .i64 0, .int .i64 0, .int .i64 0]
theorem Blk.set4 {w : World} {g : Nat} {t : TypeId} {a b c d : Value} (h : Blk w g t #[a, b, c, d]) (v0 v1 v2 v3 : Value) : Blk ((((w.setCell ⟨g, 0, none⟩ v0).setCell ⟨g, 1, none⟩ v1).setCell ⟨g, 2, none⟩ v2).setCell ⟨g, 3, none⟩ v3) g t #[v0, v1, v2, v3] := (((h.set_ 0 v0).set_ 1 v1).set_ 2 v2).set_ 3 v3
theorem Fr.set4 {S : List Nat} {w0 w : World} (h : Fr S w0 w) {g : Nat} (hg : g ∈ S ∨ w0.heap.size ≤ g) (v0 v1 v2 v3 : Value) : Fr S w0 ((((w.setCell ⟨g, 0, none⟩ v0).setCell ⟨g, 1, none⟩ v1).setCell ⟨g, 2, none⟩ v2).setCell ⟨g, 3, none⟩ v3) :=
  (((h.setCell (p := ⟨g, 0, none⟩) hg v0).setCell (p := ⟨g, 1, none⟩) hg v1).setCell (p := ⟨g, 2, none⟩) hg v2).setCell (p := ⟨g, 3, none⟩) hg v3
theorem res95 {tmps : Array Value} {w : World} {g : Nat} {e : Value} {cs : Array Value} (h2 : tmps.getD 2 undef = .pointer (some ⟨g, 0, none⟩)) (h3 : tmps.getD 3 undef = e) (hb : Blk w g 23 cs) (hs : cs.size = 4) : (results Tryz.f10 tmps).run Tryz.prog w = .ok (.tuple #[.agg cs, e]) w := by
  have h1 : (asAddr (tmps.getD 2 undef)).run Tryz.prog w = .ok ⟨g, 0, none⟩ w := by rw [h2]; rfl
  rw [results_cell_tmp Tryz.results10, h1, h3]
  have h4 := run_loadVar_row (P := Tryz.prog) w g 23 23 cs (0, 0) _ hb Tryz.underlying23 rfl (by rw [hs]; kernel_rfl)
  simp [Result.andThen, h4]
set_option maxHeartbeats 4000000 in
theorem Decode_four (s : ByteArray) (c0 c1 c2 c3 : Nat) (h : s.size = 4) (h0 : ∀ h, (s[0]'h).toNat = c0) (h1 : ∀ h, (s[1]'h).toNat = c1) (h2 : ∀ h, (s[2]'h).toNat = c2) (h3 : ∀ h, (s[3]'h).toNat = c3) (hc : c0 < 30) (b1 : c1 < 256) (b2 : c2 < 256) (b3 : c3 < 256) (w : World) :
    Calls Tryz.prog 10 #[.string s] w fun e w' => e = .returned (.tuple #[(if okI (mkI c0 c1 c2 c3) c0 = true then mkI c0 c1 c2 c3 else In0).v, .int .i64 (if okI (mkI c0 c1 c2 c3) c0 = true then 0 else 91)]) ∧ Fr [] w w' := by
  have hz : (s.size : Int) = 4 := by omega
  have hc' : ¬ (30 : Int) ≤ (c0 : Int) := by omega
  have h4 : 0 < s.size := by omega
  have h5 : 1 < s.size := by omega
  have h6 : 2 < s.size := by omega
  have h7 : 3 < s.size := by omega
  have hor := or16 c2 c3 b2 b3
  have hq1 : (c1 : Int) / 16 = ((c1 / 16 : Nat) : Int) := by omega
  have hq2 : (c1 : Int) % 16 = ((c1 % 16 : Nat) : Int) := by omega
  have HFm := Lib.hid (fun W => form_any c0 hc W)
  have HS := Lib.hid (fun W => Contains_one (fm c0) 115 W)
  have HC := Lib.hid (fun W => Check_in (mkI c0 c1 c2 c3) c0 hc rfl W)
  unfold mkI imB at *
  have hN : c2 * 256 + c3 < 65536 := by omega
  generalize c2 * 256 + c3 = N at *
  have hA : c1 / 16 < 16 := by omega
  have hB : c1 % 16 < 16 := by omega
  generalize c1 / 16 = A at *
  generalize c1 % 16 = B at *
  have HE : Hid (∀ W, Fr [] (w.alloc (.cells Z4 23)) W → Fr [] w W) := Lib.hid (fun W hf => ((Fr.refl [] w).alloc _).trans hf)
  obtain ⟨C3, hC3⟩ : ∃ C3, hasC (fm c0) 115 = C3 := ⟨_, rfl⟩
  rw [hC3] at HS HC ⊢
  cases C3 with
  | false =>
    simp only [Bool.false_eq_true, false_and, if_false] at HC ⊢
    obtain ⟨K, hK⟩ : ∃ K, okI ⟨(c0 : Int), (A : Int), (B : Int), (N : Int)⟩ c0 = K := ⟨_, rfl⟩
    rw [hK] at HC ⊢
    clear hC3 hK
    generalize fm c0 = F at *
    cases K with
    | false =>
      simp only [Bool.false_eq_true, if_false] at HC ⊢
      go_enter Tryz.func10, Tryz.ntmps10
      go_wp2_with fail
      go_region
      go_wp2_with fail
      go_region
      go_wp2_with (first
        | (go_at_call 25; refine (HFm.out _).mono ?_; rintro e w1 ⟨rfl, hf⟩; have HB := Lib.hid (show Blk w1 (w.heap.size + 1) 23 #[.int .i64 (c0 : Int), .int .i64 (A : Int), .int .i64 (B : Int), .int .i64 (N : Int)] from (Blk.new' (by simp)).drew.drew.fr hf (by simp)); have HR := Lib.hid (show Blk w1 w.heap.size 23 Z4 from ((Blk.new w 23 _).alloc _).drew.drew.fr hf (by simp)); have H1 := Lib.hid (show Fr [] w w1 from (((Fr.refl [] w).alloc _).alloc _).drew.drew.trans hf); clear hf; have k0 := (HB.out.cell 0).trans rfl; have k1 := (HB.out.cell 1).trans rfl; have k2 := (HB.out.cell 2).trans rfl; have k3 := (HB.out.cell 3).trans rfl; have kf := HB.out.frozen)
        | (go_at_call 24; refine (HS.out _).mono ?_; rintro e w2 ⟨rfl, rfl⟩)
        | (go_at_call 15; refine (HC.out _).mono ?_; rintro e w3 ⟨rfl, hf⟩; have HB3 := Lib.hid (HB.out.fr hf (by simp)); have HR3 := Lib.hid (HR.out.fr hf (by simp)); have H3 := Lib.hid (H1.out.trans hf); clear hf k0 k1 k2 k3 kf; have k0 := (HB3.out.cell 0).trans rfl; have k1 := (HB3.out.cell 1).trans rfl; have k2 := (HB3.out.cell 2).trans rfl; have k3 := (HB3.out.cell 3).trans rfl; have j0 := (HR3.out.cell 0).trans rfl; have j1 := (HR3.out.cell 1).trans rfl; have j2 := (HR3.out.cell 2).trans rfl; have j3 := (HR3.out.cell 3).trans rfl; have jf := HR3.out.frozen)
        | fail)
      exact bodyPost_ret (v := .tuple #[.agg #[.int .i64 0, .int .i64 0, .int .i64 0, .int .i64 0], .int .i64 91]) (res95 rfl rfl (HR3.out.set4 _ _ _ _) rfl) rfl ⟨rfl, H3.out.set4 (.inr (Nat.le_refl _)) _ _ _ _⟩
    | true =>
      simp only [if_true] at HC ⊢
      go_enter Tryz.func10, Tryz.ntmps10
      go_wp2_with fail
      go_region
      go_wp2_with fail
      go_region
      go_wp2_with (first
        | (go_at_call 25; refine (HFm.out _).mono ?_; rintro e w1 ⟨rfl, hf⟩; have HB := Lib.hid (show Blk w1 (w.heap.size + 1) 23 #[.int .i64 (c0 : Int), .int .i64 (A : Int), .int .i64 (B : Int), .int .i64 (N : Int)] from (Blk.new' (by simp)).drew.drew.fr hf (by simp)); have HR := Lib.hid (show Blk w1 w.heap.size 23 Z4 from ((Blk.new w 23 _).alloc _).drew.drew.fr hf (by simp)); have H1 := Lib.hid (show Fr [] w w1 from (((Fr.refl [] w).alloc _).alloc _).drew.drew.trans hf); clear hf; have k0 := (HB.out.cell 0).trans rfl; have k1 := (HB.out.cell 1).trans rfl; have k2 := (HB.out.cell 2).trans rfl; have k3 := (HB.out.cell 3).trans rfl; have kf := HB.out.frozen)
        | (go_at_call 24; refine (HS.out _).mono ?_; rintro e w2 ⟨rfl, rfl⟩)
        | (go_at_call 15; refine (HC.out _).mono ?_; rintro e w3 ⟨rfl, hf⟩; have HB3 := Lib.hid (HB.out.fr hf (by simp)); have HR3 := Lib.hid (HR.out.fr hf (by simp)); have H3 := Lib.hid (H1.out.trans hf); clear hf k0 k1 k2 k3 kf; have k0 := (HB3.out.cell 0).trans rfl; have k1 := (HB3.out.cell 1).trans rfl; have k2 := (HB3.out.cell 2).trans rfl; have k3 := (HB3.out.cell 3).trans rfl; have j0 := (HR3.out.cell 0).trans rfl; have j1 := (HR3.out.cell 1).trans rfl; have j2 := (HR3.out.cell 2).trans rfl; have j3 := (HR3.out.cell 3).trans rfl; have jf := HR3.out.frozen)
        | fail)
      exact bodyPost_ret (v := .tuple #[.agg #[.int .i64 (c0 : Int), .int .i64 (A : Int), .int .i64 (B : Int), .int .i64 (N : Int)], .int .i64 0]) (res95 rfl rfl (HR3.out.set4 _ _ _ _) rfl) rfl ⟨rfl, H3.out.set4 (.inr (Nat.le_refl _)) _ _ _ _⟩
  | true =>
    obtain ⟨M, hM⟩ : ∃ M : Int, (if 32768 ≤ N then (N : Int) - 65536 else (N : Int)) = M := ⟨_, rfl⟩
    simp only [true_and] at HC ⊢
    rw [hM] at HC ⊢
    have hwM : IntKind.i16.wrap (N : Int) = M := by rw [← hM]; simp [IntKind.wrap, IntKind.bits, IntKind.signed]; split <;> omega
    have hMb : -32768 ≤ M ∧ M ≤ 32767 := by rw [← hM]; split <;> omega
    clear hM
    obtain ⟨K, hK⟩ : ∃ K, okI ⟨(c0 : Int), (A : Int), (B : Int), M⟩ c0 = K := ⟨_, rfl⟩
    rw [hK] at HC ⊢
    clear hC3 hK
    generalize fm c0 = F at *
    cases K with
    | false =>
      simp only [Bool.false_eq_true, if_false] at HC ⊢
      go_enter Tryz.func10, Tryz.ntmps10
      go_wp2_with fail
      go_region
      go_wp2_with fail
      go_region
      go_wp2_with (first
        | (go_at_call 25; refine (HFm.out _).mono ?_; rintro e w1 ⟨rfl, hf⟩; have HB := Lib.hid (show Blk w1 (w.heap.size + 1) 23 #[.int .i64 (c0 : Int), .int .i64 (A : Int), .int .i64 (B : Int), .int .i64 (N : Int)] from (Blk.new' (by simp)).drew.drew.fr hf (by simp)); have HR := Lib.hid (show Blk w1 w.heap.size 23 Z4 from ((Blk.new w 23 _).alloc _).drew.drew.fr hf (by simp)); have H1 := Lib.hid (show Fr [] w w1 from (((Fr.refl [] w).alloc _).alloc _).drew.drew.trans hf); clear hf; have k0 := (HB.out.cell 0).trans rfl; have k1 := (HB.out.cell 1).trans rfl; have k2 := (HB.out.cell 2).trans rfl; have k3 := (HB.out.cell 3).trans rfl; have kf := HB.out.frozen)
        | (go_at_call 24; refine (HS.out _).mono ?_; rintro e w2 ⟨rfl, rfl⟩)
        | (go_at_call 15; refine (HC.out _).mono ?_; rintro e w3 ⟨rfl, hf⟩; have HB3 := Lib.hid (show Blk w3 (w.heap.size + 1) 23 #[.int .i64 (c0 : Int), .int .i64 (A : Int), .int .i64 (B : Int), .int .i64 M] from (HB.out.set_ 3 (.int .i64 M)).fr hf (by simp)); have HR3 := Lib.hid (show Blk w3 w.heap.size 23 Z4 from (HR.out.far (p := ⟨w.heap.size + 1, 3, none⟩) (by simp) (.int .i64 M)).fr hf (by simp)); have H3 := Lib.hid (show Fr [] w w3 from (H1.out.setCell (p := ⟨w.heap.size + 1, 3, none⟩) (.inr (by simp)) (.int .i64 M)).trans hf); clear hf k0 k1 k2 k3 kf; have k0 := (HB3.out.cell 0).trans rfl; have k1 := (HB3.out.cell 1).trans rfl; have k2 := (HB3.out.cell 2).trans rfl; have k3 := (HB3.out.cell 3).trans rfl; have j0 := (HR3.out.cell 0).trans rfl; have j1 := (HR3.out.cell 1).trans rfl; have j2 := (HR3.out.cell 2).trans rfl; have j3 := (HR3.out.cell 3).trans rfl; have jf := HR3.out.frozen)
        | fail)
      exact bodyPost_ret (v := .tuple #[.agg #[.int .i64 0, .int .i64 0, .int .i64 0, .int .i64 0], .int .i64 91]) (res95 rfl rfl (HR3.out.set4 _ _ _ _) rfl) rfl ⟨rfl, H3.out.set4 (.inr (Nat.le_refl _)) _ _ _ _⟩
    | true =>
      simp only [if_true] at HC ⊢
      go_enter Tryz.func10, Tryz.ntmps10
      go_wp2_with fail
      go_region
      go_wp2_with fail
      go_region
      go_wp2_with (first
        | (go_at_call 25; refine (HFm.out _).mono ?_; rintro e w1 ⟨rfl, hf⟩; have HB := Lib.hid (show Blk w1 (w.heap.size + 1) 23 #[.int .i64 (c0 : Int), .int .i64 (A : Int), .int .i64 (B : Int), .int .i64 (N : Int)] from (Blk.new' (by simp)).drew.drew.fr hf (by simp)); have HR := Lib.hid (show Blk w1 w.heap.size 23 Z4 from ((Blk.new w 23 _).alloc _).drew.drew.fr hf (by simp)); have H1 := Lib.hid (show Fr [] w w1 from (((Fr.refl [] w).alloc _).alloc _).drew.drew.trans hf); clear hf; have k0 := (HB.out.cell 0).trans rfl; have k1 := (HB.out.cell 1).trans rfl; have k2 := (HB.out.cell 2).trans rfl; have k3 := (HB.out.cell 3).trans rfl; have kf := HB.out.frozen)
        | (go_at_call 24; refine (HS.out _).mono ?_; rintro e w2 ⟨rfl, rfl⟩)
        | (go_at_call 15; refine (HC.out _).mono ?_; rintro e w3 ⟨rfl, hf⟩; have HB3 := Lib.hid (show Blk w3 (w.heap.size + 1) 23 #[.int .i64 (c0 : Int), .int .i64 (A : Int), .int .i64 (B : Int), .int .i64 M] from (HB.out.set_ 3 (.int .i64 M)).fr hf (by simp)); have HR3 := Lib.hid (show Blk w3 w.heap.size 23 Z4 from (HR.out.far (p := ⟨w.heap.size + 1, 3, none⟩) (by simp) (.int .i64 M)).fr hf (by simp)); have H3 := Lib.hid (show Fr [] w w3 from (H1.out.setCell (p := ⟨w.heap.size + 1, 3, none⟩) (.inr (by simp)) (.int .i64 M)).trans hf); clear hf k0 k1 k2 k3 kf; have k0 := (HB3.out.cell 0).trans rfl; have k1 := (HB3.out.cell 1).trans rfl; have k2 := (HB3.out.cell 2).trans rfl; have k3 := (HB3.out.cell 3).trans rfl; have j0 := (HR3.out.cell 0).trans rfl; have j1 := (HR3.out.cell 1).trans rfl; have j2 := (HR3.out.cell 2).trans rfl; have j3 := (HR3.out.cell 3).trans rfl; have jf := HR3.out.frozen)
        | fail)
      exact bodyPost_ret (v := .tuple #[.agg #[.int .i64 (c0 : Int), .int .i64 (A : Int), .int .i64 (B : Int), .int .i64 M], .int .i64 0]) (res95 rfl rfl (HR3.out.set4 _ _ _ _) rfl) rfl ⟨rfl, H3.out.set4 (.inr (Nat.le_refl _)) _ _ _ _⟩
theorem Decode_any (s : ByteArray) (w : World) : Calls Tryz.prog 10 #[.string s] w fun e w' => e = .returned (.tuple #[(decI s).1.v, .int .i64 (decI s).2]) ∧ Fr [] w w' := by
  have long : ∀ s : ByteArray, s.size ≠ 4 → decI s = (In0, 91) → Calls Tryz.prog 10 #[.string s] w fun e w' => e = .returned (.tuple #[(decI s).1.v, .int .i64 (decI s).2]) ∧ Fr [] w w' := by
    intro s h1 h2
    rw [h2]
    exact Decode_long s h1 w
  obtain ⟨⟨l⟩⟩ := s
  match l with
  | [] => exact long _ (by decide) rfl
  | [_] => exact long _ (by simp [ByteArray.size]) rfl
  | [_, _] => exact long _ (by simp [ByteArray.size]) rfl
  | [_, _, _] => exact long _ (by simp [ByteArray.size]) rfl
  | [c0, c1, c2, c3] =>
    show Calls Tryz.prog 10 #[.string ⟨⟨[c0, c1, c2, c3]⟩⟩] w fun e w' => e = .returned (.tuple #[(decB c0.toNat c1.toNat c2.toNat c3.toNat).1.v, .int .i64 (decB c0.toNat c1.toNat c2.toNat c3.toNat).2]) ∧ Fr [] w w'
    by_cases hc : c0.toNat < 30
    · refine (Decode_four ⟨⟨[c0, c1, c2, c3]⟩⟩ c0.toNat c1.toNat c2.toNat c3.toNat rfl (fun _ => rfl) (fun _ => rfl) (fun _ => rfl) (fun _ => rfl) hc (UInt8.toNat_lt c1) (UInt8.toNat_lt c2) (UInt8.toNat_lt c3) w).mono fun e w' ⟨he, hf⟩ => ⟨?_, hf⟩
      rw [he]
      unfold decB
      by_cases ho : okI (mkI c0.toNat c1.toNat c2.toNat c3.toNat) c0.toNat = true
      · rw [if_pos ho, if_pos ho, if_pos ⟨hc, ho⟩]
      · rw [if_neg ho, if_neg ho, if_neg (fun h => ho h.2)]
    · have e : decB c0.toNat c1.toNat c2.toNat c3.toNat = (In0, 91) := by
        unfold decB
        rw [if_neg (fun h => hc h.1)]
      rw [e]
      exact Decode_no ⟨⟨[c0, c1, c2, c3]⟩⟩ c0.toNat rfl (fun _ => rfl) (by omega) (UInt8.toNat_lt c0) w
  | _ :: _ :: _ :: _ :: _ :: _ => exact long _ (by simp [ByteArray.size]) rfl
/-- What a decoded instruction is. -/
theorem decI_ok {s : ByteArray} (h : (decI s).2 = 0) : ∃ (k a b : Nat), (decI s).1.op = (k : Int) ∧ (decI s).1.a = (a : Int) ∧ (decI s).1.b = (b : Int) ∧ k < 30 ∧ a < 16 ∧ b < 16 ∧ -32768 ≤ (decI s).1.m ∧ (decI s).1.m ≤ 65535 := by
  unfold decI at h ⊢
  split at h
  · next c0 c1 c2 c3 heq =>
    unfold decB at h ⊢
    have b1 := UInt8.toNat_lt c1
    have b2 := UInt8.toNat_lt c2
    have b3 := UInt8.toNat_lt c3
    split at h
    · next hk =>
      rw [if_pos hk]
      refine ⟨c0.toNat, c1.toNat / 16, c1.toNat % 16, rfl, rfl, rfl, hk.1, by omega, by omega, ?_⟩
      unfold mkI imB
      simp only
      split <;> omega
    · simp at h
  · simp at h
end Go.Proofs.YtjijhjdemkgpgaaGreatDoor
