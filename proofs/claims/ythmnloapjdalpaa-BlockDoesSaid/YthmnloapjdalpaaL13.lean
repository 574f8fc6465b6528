/- The block law's fixed calls: plain facts. The block law's fixed calls: the walk. -/
import Derived.Test.YthmnloapjdalpaaD6
namespace Go.Proofs.Ythmnloapjdalpaa
open Go.RowKit
set_option linter.unusedVariables false
def tA : ByteArray := ⟨#[97]⟩
def G0 : Dk := newD (zeros 256)
def b0 : Bv := newB 0 2 1
def G1 : Dk := b0.writeD G0 0 tA 5
def b1 : Bv := b0.writeB G0 0 tA 5
def b2 : Bv := b1.readB G1 0
def b3 : Bv := b2.readB G1 1
def b4 : Bv := b3.readB G1 2
def G2 : Dk := b4.barrierD G1
theorem gx_new : newBE G0 0 2 1 = 0 := by kernel_rfl
theorem gx_w : b0.writeE G0 0 tA 5 = 0 := by kernel_rfl
theorem gx_r0 : b1.readV G1 0 = .tuple #[.string (tA ++ zeros 115), .int .i64 5, .int .i64 0] := by kernel_rfl
theorem gx_p : parseE (G1.sec 1) = 153 := by kernel_rfl
theorem gx_f1 : b2.find 1 = none := by kernel_rfl
theorem gx_a1 : askedE b2 G1 1 = 0 := by kernel_rfl
theorem gx_bf : b2.first + (1 : Int).toNat = 1 := by kernel_rfl
theorem gx_r1 : b2.readV G1 1 = .tuple #[.string ⟨#[]⟩, .int .i64 0, .int .i64 153] := by
  have h := parseR_bad gx_p (by decide)
  unfold Bv.readV
  rw [if_neg (by rw [gx_a1]; decide), gx_f1]
  simp only []
  rw [gx_bf]
  exact h
theorem gx_b3 : b3 = b2.miss := by
  show b2.readB G1 1 = _
  unfold Bv.readB
  rw [if_neg (by rw [gx_a1]; decide), gx_f1]
  simp only []
  rw [gx_bf, gx_p]
  exact if_neg (by decide)
theorem gx_a2 : askedE b3 G1 2 = 151 := by rw [gx_b3]; kernel_rfl
theorem gx_r2 : b3.readV G1 2 = .tuple #[.string ⟨#[]⟩, .int .i64 0, .int .i64 151] := by
  unfold Bv.readV
  rw [gx_a2]
  exact if_pos (by decide)
theorem gx_b4 : b4 = b2.miss := by
  show b3.readB G1 2 = _
  unfold Bv.readB
  rw [gx_a2, if_pos (by decide), gx_b3]
theorem gx_m2 : b2.misses = 0 := by kernel_rfl
theorem gx_m3 : b3.misses = 1 := by rw [gx_b3]; kernel_rfl
theorem gx_m4 : b4.misses = 1 := by rw [gx_b4]; kernel_rfl
theorem gx_st : b4.stampV G1 1 = .tuple #[.int .i64 0, .int .i64 0] := by rw [gx_b4]; kernel_rfl
theorem gx_b1 : bytesE ⟨#[]⟩ 1 = 0 := by kernel_rfl
theorem gx_bs : (bytesV ⟨#[]⟩ 1).size = 128 := bytesV_ok gx_b1
theorem gx_b7 : at8 (bytesV ⟨#[]⟩ 1) 127 = 1 := by kernel_rfl
theorem gx_b2 : bytesE (zeros 117) 0 = 152 := by kernel_rfl
theorem gx_ba : b4.barrierE G1 = 0 := by rw [gx_b4]; kernel_rfl
end Go.Proofs.Ythmnloapjdalpaa
namespace Go.Proofs.Ythmnloapjdalpaa
open Go.RowKit
set_option linter.unusedVariables false
set_option linter.unusedSimpArgs false
theorem noughts15_any (n : Nat) (hn : n ≤ 524288) (w : World) : Calls Try.prog 20 #[.int .i64 (n : Int)] w fun e w' => e = .returned (.string (zeros n)) ∧ Fr [] w w' := by
  obtain ⟨Z, hZs, hZ, hmk⟩ := made_z n hn
  have hwb : Wb (w.alloc (.cells Z 5)) w.heap.size n (fun _ => 0) := Wb.of_blk (Blk.new w 5 Z) hZs (fun i hi => hZ i hi)
  have hcv := conv_wb (o := 0) (n := n) (cap := n) hwb (by omega)
  have E := Lib.hid (show bs (fun _ => 0) 0 n = zeros n from rfl)
  have HF := Lib.hid ((Fr.refl [] w).alloc (.cells Z 5))
  have hmk := hmk w
  clear hZ hZs hwb
  generalize zeros n = V at *
  generalize bs (fun _ => 0) 0 n = X at *
  go_enter Try.func20, Try.ntmps20
  go_wp2
  go_ret
  exact ⟨ret_str E.out, HF.out⟩
theorem place15_any (x : Int) (m : Nat) (hm : 0 < m) (hm2 : m ≤ 1000000) (hx0 : -9223372036854775808 ≤ x) (hx1 : x ≤ 9223372036854775807) (w : World) :
    Calls Try.prog 21 #[.int .i64 x, .int .i64 (m : Int)] w fun e w' => e = .returned (.int .i64 (x % (m : Int))) ∧ w = w' := by
  have hm0 : ¬ (m : Int) = 0 := by omega
  have hb := Int.emod_nonneg x hm0
  have hb2 := Int.emod_lt_of_pos x (show (0 : Int) < m by omega)
  have ht : x.tmod m = if 0 ≤ x ∨ (m : Int) ∣ x then x % m else x % m - m := by
    rw [Int.tmod_eq_emod]
    by_cases h : 0 ≤ x ∨ (m : Int) ∣ x
    · rw [if_pos h, if_pos h]; omega
    · rw [if_neg h, if_neg h]
      simp
  obtain ⟨r, hr⟩ : ∃ r, x % (m : Int) = r := ⟨_, rfl⟩
  rw [hr] at hb hb2 ht ⊢
  by_cases h : 0 ≤ x ∨ (m : Int) ∣ x
  · rw [if_pos h] at ht
    have hn : ¬ r < 0 := by omega
    clear h hr
    go_enter Try.func21, Try.ntmps21
    go_wp2
    go_ret
    exact ⟨rfl, rfl⟩
  · rw [if_neg h] at ht
    have hnz : r ≠ 0 := by
      intro e
      apply h
      right
      exact Int.dvd_of_emod_eq_zero (by rw [hr, e])
    have hn : r - (m : Int) < 0 := by omega
    have hw : IntKind.i64.wrap (r - (m : Int) + (m : Int)) = r := by
      rw [show r - (m : Int) + (m : Int) = r from by omega]
      exact IntWalk.i64_in _ (by omega)
    clear h hr
    go_enter Try.func21, Try.ntmps21
    go_wp2
    go_ret
    exact ⟨rfl, rfl⟩
theorem gx_m1 : b1.misses = 0 := by kernel_rfl
structure FixB (w : World) (Z256 Z117 Z115 S : ByteArray) (D0 : Dk) (B : Nat → Bv) (D : Nat → Dk) : Prop where
  n256 : ∀ W, Fr [] w W → Calls Try.prog 20 #[.int .i64 256] W fun e w' => e = .returned (.string Z256) ∧ Fr [] w w'
  new : ∀ W, Fr [] w W → Calls Try.prog 22 #[.string Z256] W fun e w' => ∃ p, e = .returned (.tuple #[ptr p, .int .i64 0]) ∧ Dd w w' p D0
  bnew : ∀ W p, Dd w W p D0 → Calls Try.prog 23 #[ptr p, .int .i64 0, .int .i64 2, .int .i64 1] W fun e w' => ∃ v, e = .returned (.tuple #[ptr v, .int .i64 0]) ∧ Dv w w' v p (B 0) (D 0)
  w1 : ∀ W v p, Dv w W v p (B 0) (D 0) → Calls Try.prog 25 #[ptr v, .int .i64 0, .string ⟨#[97]⟩, .int .i64 5] W fun e w' => e = .returned (.int .i64 0) ∧ Dv w w' v p (B 1) (D 1)
  r0 : ∀ W v p, Dv w W v p (B 1) (D 1) → Calls Try.prog 24 #[ptr v, .int .i64 0] W fun e w' => e = .returned (.tuple #[.string (⟨#[97]⟩ ++ Z115), .int .i64 5, .int .i64 0]) ∧ Dv w w' v p (B 2) (D 2)
  r1 : ∀ W v p, Dv w W v p (B 2) (D 2) → Calls Try.prog 24 #[ptr v, .int .i64 1] W fun e w' => e = .returned (.tuple #[.string ⟨#[]⟩, .int .i64 0, .int .i64 153]) ∧ Dv w w' v p (B 3) (D 3)
  r2 : ∀ W v p, Dv w W v p (B 3) (D 3) → Calls Try.prog 24 #[ptr v, .int .i64 2] W fun e w' => e = .returned (.tuple #[.string ⟨#[]⟩, .int .i64 0, .int .i64 151]) ∧ Dv w w' v p (B 4) (D 4)
  st : ∀ W v p, Dv w W v p (B 4) (D 4) → Calls Try.prog 34 #[ptr v, .int .i64 1] W fun e w' => e = .returned (.tuple #[.int .i64 0, .int .i64 0]) ∧ Dv w w' v p (B 5) (D 5)
  by1 : ∀ W v p, Dv w W v p (B 5) (D 5) → Calls Try.prog 15 #[.string ⟨#[]⟩, .int .i64 1] W fun e w' => e = .returned (.tuple #[.string S, .int .i64 0]) ∧ Dv w w' v p (B 6) (D 6)
  n117 : ∀ W v p, Dv w W v p (B 6) (D 6) → Calls Try.prog 20 #[.int .i64 117] W fun e w' => e = .returned (.string Z117) ∧ Dv w w' v p (B 7) (D 7)
  by2 : ∀ W v p, Dv w W v p (B 7) (D 7) → Calls Try.prog 15 #[.string Z117, .int .i64 0] W fun e w' => e = .returned (.tuple #[.string ⟨#[]⟩, .int .i64 152]) ∧ Dv w w' v p (B 8) (D 8)
  n115 : ∀ W v p, Dv w W v p (B 8) (D 8) → Calls Try.prog 20 #[.int .i64 115] W fun e w' => e = .returned (.string Z115) ∧ Dv w w' v p (B 9) (D 9)
  mis : ∀ W v p, Dv w W v p (B 9) (D 9) → Calls Try.prog 27 #[ptr v] W fun e w' => e = .returned (.int .i64 1) ∧ Dv w w' v p (B 10) (D 10)
  bar : ∀ W v p, Dv w W v p (B 10) (D 10) → Calls Try.prog 26 #[ptr v] W fun e w' => e = .returned (.int .i64 0) ∧ Dv w w' v p (B 11) (D 11)
  s115 : Z115.size = 115
  sS : S.size = 128
  s127 : ∀ h, S[127]'h = 1
def FixBB : Nat → Bv
  | 0 => b0
  | 1 => b1
  | 2 => b2
  | 3 => b3
  | _ => b4
def FixBD : Nat → Dk
  | 0 => G0
  | 1 => G1
  | 2 => G1
  | 3 => G1
  | 4 => G1
  | 5 => G1
  | 6 => G1
  | 7 => G1
  | 8 => G1
  | 9 => G1
  | 10 => G1
  | 11 => G2
  | _ => G2
theorem fxb_w1 {w W : World} {v p : Nat} (h : Dv w W v p b0 G0) : Calls Try.prog 25 #[ptr v, .int .i64 0, .string tA, .int .i64 5] W fun e w' => e = .returned (.int .i64 0) ∧ Dv w w' v p b1 G1 := (WriteB_any h 0 tA 5 (by decide)).mono fun e w' ⟨he, hw⟩ => ⟨by rw [he, gx_w], hw⟩
theorem fxb_r0 {w W : World} {v p : Nat} (h : Dv w W v p b1 G1) : Calls Try.prog 24 #[ptr v, .int .i64 0] W fun e w' => e = .returned (.tuple #[.string (tA ++ (zeros 115)), .int .i64 5, .int .i64 0]) ∧ Dv w w' v p b2 G1 := (ReadB_any h 0 (by rw [gx_m1]; decide)).mono fun e w' ⟨he, hw⟩ => ⟨by rw [he, gx_r0], hw⟩
theorem fxb_r1 {w W : World} {v p : Nat} (h : Dv w W v p b2 G1) : Calls Try.prog 24 #[ptr v, .int .i64 1] W fun e w' => e = .returned (.tuple #[.string ⟨#[]⟩, .int .i64 0, .int .i64 153]) ∧ Dv w w' v p b3 G1 := (ReadB_any h 1 (by rw [gx_m2]; decide)).mono fun e w' ⟨he, hw⟩ => ⟨by rw [he, gx_r1], hw⟩
theorem fxb_r2 {w W : World} {v p : Nat} (h : Dv w W v p b3 G1) : Calls Try.prog 24 #[ptr v, .int .i64 2] W fun e w' => e = .returned (.tuple #[.string ⟨#[]⟩, .int .i64 0, .int .i64 151]) ∧ Dv w w' v p b4 G1 := (ReadB_any h 2 (by rw [gx_m3]; decide)).mono fun e w' ⟨he, hw⟩ => ⟨by rw [he, gx_r2], hw⟩
theorem fxb_st {w W : World} {v p : Nat} (h : Dv w W v p b4 G1) : Calls Try.prog 34 #[ptr v, .int .i64 1] W fun e w' => e = .returned (.tuple #[.int .i64 0, .int .i64 0]) ∧ Dv w w' v p b4 G1 := (Stamp_any h 1).mono fun e w' ⟨he, hw⟩ => ⟨by rw [he, gx_st], hw⟩
theorem fxb_by1 {w W : World} {v p : Nat} (h : Dv w W v p b4 G1) : Calls Try.prog 15 #[.string ⟨#[]⟩, .int .i64 1] W fun e w' => e = .returned (.tuple #[.string (bytesV ⟨#[]⟩ 1), .int .i64 0]) ∧ Dv w w' v p b4 G1 := (Bytes_any ⟨#[]⟩ 1 W (by decide)).mono fun e w' ⟨he, hf⟩ => ⟨by rw [he, gx_b1], h.to hf⟩
theorem fxb_n117 {w W : World} {v p : Nat} (h : Dv w W v p b4 G1) : Calls Try.prog 20 #[.int .i64 117] W fun e w' => e = .returned (.string (zeros 117)) ∧ Dv w w' v p b4 G1 := (noughts15_any 117 (by omega) W).mono fun e w' ⟨he, hf⟩ => ⟨he, h.to hf⟩
theorem fxb_by2 {w W : World} {v p : Nat} (h : Dv w W v p b4 G1) : Calls Try.prog 15 #[.string (zeros 117), .int .i64 0] W fun e w' => e = .returned (.tuple #[.string ⟨#[]⟩, .int .i64 152]) ∧ Dv w w' v p b4 G1 := (Bytes_any (zeros 117) 0 W (by rw [zeros_size]; simp [maxLen])).mono fun e w' ⟨he, hf⟩ => ⟨by rw [he, gx_b2]; unfold bytesV; rw [gx_b2]; rfl, h.to hf⟩
theorem fxb_n115 {w W : World} {v p : Nat} (h : Dv w W v p b4 G1) : Calls Try.prog 20 #[.int .i64 115] W fun e w' => e = .returned (.string (zeros 115)) ∧ Dv w w' v p b4 G1 := (noughts15_any 115 (by omega) W).mono fun e w' ⟨he, hf⟩ => ⟨he, h.to hf⟩
theorem fxb_mis {w W : World} {v p : Nat} (h : Dv w W v p b4 G1) : Calls Try.prog 27 #[ptr v] W fun e w' => e = .returned (.int .i64 1) ∧ Dv w w' v p b4 G1 := (Misses_any v p b4 W h.dev).mono fun e w' ⟨he, hw⟩ => ⟨by rw [he, gx_m4]; rfl, hw ▸ h⟩
theorem fxb_bar {w W : World} {v p : Nat} (h : Dv w W v p b4 G1) : Calls Try.prog 26 #[ptr v] W fun e w' => e = .returned (.int .i64 0) ∧ Dv w w' v p b4 G2 := (Barrier_any h).mono fun e w' ⟨he, hw⟩ => ⟨by rw [he, gx_ba], hw⟩
theorem fixB (w : World) : FixB w (zeros 256) (zeros 117) (zeros 115) (bytesV ⟨#[]⟩ 1) G0 FixBB FixBD where
  n256 := fun W hf => (noughts15_any 256 (by omega) W).mono fun e w' ⟨he, h⟩ => ⟨he, hf.trans h⟩
  new := fun W hf => (Dd.new (zeros 256) W fx_new).mono fun e w' ⟨p, he, h⟩ => ⟨p, he, h.base hf⟩
  bnew := fun W p h => NewB_ok h 0 2 1 gx_new
  w1 := fun W v p h => fxb_w1 h
  r0 := fun W v p h => fxb_r0 h
  r1 := fun W v p h => fxb_r1 h
  r2 := fun W v p h => fxb_r2 h
  st := fun W v p h => fxb_st h
  by1 := fun W v p h => fxb_by1 h
  n117 := fun W v p h => fxb_n117 h
  by2 := fun W v p h => fxb_by2 h
  n115 := fun W v p h => fxb_n115 h
  mis := fun W v p h => fxb_mis h
  bar := fun W v p h => fxb_bar h
  s115 := zeros_size 115
  sS := gx_bs
  s127 := fun h => by rw [at8_elem h, gx_b7]
set_option maxRecDepth 100000 in
set_option maxHeartbeats 4000000 in
theorem fixed15_any (w : World) : Calls Try.prog 19 #[] w fun e w' => e = .returned (.bool true) ∧ Fr [] w w' := by
  obtain ⟨Z256, Z117, Z115, S, D0, B, D, hC⟩ : ∃ Z256 Z117 Z115 S D0 B D, FixB w Z256 Z117 Z115 S D0 B D := ⟨_, _, _, _, _, _, _, fixB w⟩
  have C := Lib.hid hC
  have hs1 := C.out.s115
  have hs2 := C.out.sS
  have hs3 := C.out.s127
  have hcat : ¬ 9223372036854775807 < 1 + 115 := by omega
  clear hC
  go_enter Try.func19, Try.ntmps19
  go_wp2_with (first
    | (go_at_call 20; first | (have hq := C.out.n117 _ _ _ hd; clear hd; refine hq.mono ?_; rintro e wa ⟨rfl, hd⟩; clear hq) | (have hq := C.out.n115 _ _ _ hd; clear hd; refine hq.mono ?_; rintro e wb ⟨rfl, hd⟩; clear hq) | (have hq := C.out.n256 _ (Fr.refl _ _); refine hq.mono ?_; rintro e w1 ⟨rfl, hf1⟩; clear hq))
    | (go_at_call 22; have hq := C.out.new _ hf1; clear hf1; refine hq.mono ?_; rintro e w2 ⟨p, rfl, hp⟩; clear hq)
    | (go_at_call 23; have hq := C.out.bnew _ _ hp; clear hp; refine hq.mono ?_; rintro e w3 ⟨v, rfl, hd⟩; clear hq)
    | (go_at_call 25; first | (have hq := C.out.w1 _ _ _ hd; clear hd; refine hq.mono ?_; rintro e ww1 ⟨rfl, hd⟩; clear hq))
    | (go_at_call 24; first | (have hq := C.out.r0 _ _ _ hd; clear hd; refine hq.mono ?_; rintro e wr0 ⟨rfl, hd⟩; clear hq) | (have hq := C.out.r1 _ _ _ hd; clear hd; refine hq.mono ?_; rintro e wr1 ⟨rfl, hd⟩; clear hq) | (have hq := C.out.r2 _ _ _ hd; clear hd; refine hq.mono ?_; rintro e wr2 ⟨rfl, hd⟩; clear hq))
    | (go_at_call 34; first | (have hq := C.out.st _ _ _ hd; clear hd; refine hq.mono ?_; rintro e wst ⟨rfl, hd⟩; clear hq))
    | (go_at_call 15; first | (have hq := C.out.by1 _ _ _ hd; clear hd; refine hq.mono ?_; rintro e wby1 ⟨rfl, hd⟩; clear hq) | (have hq := C.out.by2 _ _ _ hd; clear hd; refine hq.mono ?_; rintro e wby2 ⟨rfl, hd⟩; clear hq))
    | (go_at_call 27; first | (have hq := C.out.mis _ _ _ hd; clear hd; refine hq.mono ?_; rintro e wmis ⟨rfl, hd⟩; clear hq))
    | (go_at_call 26; first | (have hq := C.out.bar _ _ _ hd; clear hd; refine hq.mono ?_; rintro e wbar ⟨rfl, hd⟩; clear hq)))
  go_ret
  exact ⟨rfl, hd.fr⟩
end Go.Proofs.Ythmnloapjdalpaa
