/- The law's fixed calls on a disk. The law's fixed calls on a disk: the walk. -/
import Derived.Test.YthmnloapjdalpaaL3
namespace Go.Proofs.Ythmnloapjdalpaa
open Go.RowKit
set_option linter.unusedVariables false
set_option linter.unusedSimpArgs false
def AAA : ByteArray := ⟨#[65, 65, 65]⟩
def F0 : Dk := newD (zeros 256)
def F1 : Dk := F0.writeS 1 (allB 65)
def F2 : Dk := F1.flushS 1 1
def F3 : Dk := F2.armS 2 []
def F4 : Dk := F3.writeS 0 (allB 66)
def F5 : Dk := F4.flushS 0 1
def F6 : Dk := F5.revive
theorem fx_new : newE (zeros 256) = 0 := by kernel_rfl
theorem fx_n : F0.n = 2 := by kernel_rfl
theorem fx_w1 : F0.writeE 1 (allB 65) = 0 := by kernel_rfl
theorem fx_w2 : F1.writeE 2 (allB 65) = 71 := by kernel_rfl
theorem fx_w2' : F1.writeE0 2 (allB 65) = 71 := by kernel_rfl
theorem fx_w2S : F1.writeS 2 (allB 65) = F1 := by unfold Dk.writeS; rw [fx_w2']; exact if_neg (by decide)
theorem fx_wait : F1.waiting.length = 1 := by kernel_rfl
theorem fx_after : F1.after [0, 3] = zeros 128 ++ AAA ++ zeros 125 := by kernel_rfl
theorem fx_f1 : F1.flushE 0 3 = 71 := by kernel_rfl
theorem fx_f1' : F1.flushE0 0 3 = 71 := by kernel_rfl
theorem fx_f1S : F1.flushS 0 3 = F1 := by unfold Dk.flushS; rw [fx_f1']; exact if_neg (by decide)
theorem fx_f2 : F1.flushE 1 1 = 0 := by kernel_rfl
theorem fx_arm : F2.armE 2 = 0 := by kernel_rfl
theorem fx_w3 : F3.writeE 0 (allB 66) = 0 := by kernel_rfl
theorem fx_f3 : F4.flushE 0 1 = 2 := by kernel_rfl
theorem fx_r1 : F5.readE 0 = 2 := by kernel_rfl
theorem fx_r2 : F6.readE 0 = 0 := by kernel_rfl
theorem fx_v2 : F6.readV 0 = zeros 128 := by kernel_rfl
theorem fx_im : F6.image = zeros 128 ++ allB 65 := by kernel_rfl
theorem fx_sf : F6.safe = F6.image := by kernel_rfl
theorem zeros_size (n : Nat) : (zeros n).size = n := bs_size _ _ _
end Go.Proofs.Ythmnloapjdalpaa
namespace Go.Proofs.Ythmnloapjdalpaa
open Go.RowKit
set_option linter.unusedVariables false
set_option linter.unusedSimpArgs false
theorem Dd.base {w0 w1 w : World} {p : Nat} {d : Dk} (h : Dd w1 w p d) (hf : Fr [] w0 w1) : Dd w0 w p d := by
  obtain ⟨f, g, m, ha, h1, h2, h3⟩ := h
  have := hf.size
  exact ⟨hf.trans f, g, m, ha, by omega, by omega, by omega⟩
theorem Dd.all {w0 w : World} {p : Nat} {d : Dk} (h : Dd w0 w p d) (c : UInt8) : Calls Try.prog 88 #[.int .u8 (c.toNat : Int)] w fun e w' => e = .returned (.string (allB c)) ∧ Dd w0 w' p d := (all_any c w).mono fun e w' ⟨he, hf⟩ => ⟨he, h.to hf⟩
theorem Dd.noughts {w0 w : World} {p : Nat} {d : Dk} (h : Dd w0 w p d) (n : Nat) (hn : n ≤ 524288) : Calls Try.prog 87 #[.int .i64 (n : Int)] w fun e w' => e = .returned (.string (zeros n)) ∧ Dd w0 w' p d := (noughts_any n hn w).mono fun e w' ⟨he, hf⟩ => ⟨he, h.to hf⟩
theorem Dd.drew {w0 w : World} {p : Nat} {d : Dk} (h : Dd w0 w p d) : Dd w0 w.drew p d := h.to (Fr.refl _ _).drew
theorem Dd.length {w0 w : World} {p : Nat} {d : Dk} (h : Dd w0 w p d) : Calls Try.prog 50 #[ptr p] w fun e w' => ∃ A, e = .returned (.slice A d.waiting.length d.waiting.length) ∧ Dd w0 w' p d := h.waiting.mono fun e w' ⟨A, he, hz, hf⟩ => ⟨A, he, h.to hf⟩
theorem Dd.image_ {w0 w : World} {p : Nat} {d : Dk} (h : Dd w0 w p d) : Calls Try.prog 28 #[ptr p] w fun e w' => e = .returned (.string d.image) ∧ Dd w0 w' p d := h.image.mono fun e w' ⟨he, hf⟩ => ⟨he, h.to hf⟩
theorem Dd.read_ {w0 w : World} {p : Nat} {d : Dk} (h : Dd w0 w p d) (i : Int) : Calls Try.prog 65 #[ptr p, .int .i64 i] w fun e w' => e = .returned (.tuple #[.string (d.readV i), .int .i64 (d.readE i)]) ∧ Dd w0 w' p d := (h.read i).mono fun e w' ⟨he, hf⟩ => ⟨he, h.to hf⟩
theorem fxp_count {w W : World} {p : Nat} (h : Dd w W p F0) : Calls Try.prog 29 #[ptr p] W fun e w' => e = .returned (.int .i64 2) ∧ Dd w w' p F0 := h.count.mono fun e w' ⟨he, hw⟩ => ⟨by rw [he, fx_n]; rfl, hw ▸ h⟩
theorem fxp_w1 {w W : World} {p : Nat} (h : Dd w W p F0) : Calls Try.prog 30 #[ptr p, .int .i64 1, .string (allB 65)] W fun e w' => e = .returned (.int .i64 0) ∧ Dd w w' p F1 := (h.write 1 (allB 65) (by rw [allB_size]; simp [maxLen])).mono fun e w' ⟨he, hw⟩ => ⟨by rw [he, fx_w1], hw⟩
theorem fxp_w2 {w W : World} {p : Nat} (h : Dd w W p F1) : Calls Try.prog 30 #[ptr p, .int .i64 2, .string (allB 65)] W fun e w' => e = .returned (.int .i64 71) ∧ Dd w w' p F1 := (h.write 2 (allB 65) (by rw [allB_size]; simp [maxLen])).mono fun e w' ⟨he, hw⟩ => ⟨by rw [he, fx_w2], by rw [fx_w2S] at hw; exact hw⟩
theorem fxp_f1 {w W : World} {p : Nat} (h : Dd w W p F1) : Calls Try.prog 48 #[ptr p, .int .i64 0, .int .i64 3] W fun e w' => e = .returned (.int .i64 71) ∧ Dd w w' p F1 := (h.flush 0 3 (by omega) (by omega)).mono fun e w' ⟨he, hw⟩ => ⟨by rw [he, fx_f1], by rw [fx_f1S] at hw; exact hw⟩
theorem fxp_f2 {w W : World} {p : Nat} (h : Dd w W p F1) : Calls Try.prog 48 #[ptr p, .int .i64 1, .int .i64 1] W fun e w' => e = .returned (.int .i64 0) ∧ Dd w w' p F2 := (h.flush 1 1 (by omega) (by omega)).mono fun e w' ⟨he, hw⟩ => ⟨by rw [he, fx_f2], hw⟩
theorem fxp_arm {w W : World} {p : Nat} (h : Dd w W p F2) : Calls Try.prog 81 #[ptr p, .int .i64 2, .slice none 0 0] W fun e w' => e = .returned (.int .i64 0) ∧ Dd w w' p F3 := (h.arm 2 (Zw.nil W) (by omega) (by omega)).mono fun e w' ⟨he, hw⟩ => ⟨by rw [he, fx_arm], hw⟩
theorem fxp_w3 {w W : World} {p : Nat} (h : Dd w W p F3) : Calls Try.prog 30 #[ptr p, .int .i64 0, .string (allB 66)] W fun e w' => e = .returned (.int .i64 0) ∧ Dd w w' p F4 := (h.write 0 (allB 66) (by rw [allB_size]; simp [maxLen])).mono fun e w' ⟨he, hw⟩ => ⟨by rw [he, fx_w3], hw⟩
theorem fxp_f3 {w W : World} {p : Nat} (h : Dd w W p F4) : Calls Try.prog 48 #[ptr p, .int .i64 0, .int .i64 1] W fun e w' => e = .returned (.int .i64 2) ∧ Dd w w' p F5 := (h.flush 0 1 (by omega) (by omega)).mono fun e w' ⟨he, hw⟩ => ⟨by rw [he, fx_f3], hw⟩
theorem fxp_rev {w W : World} {p : Nat} (h : Dd w W p F5) : Calls Try.prog 33 #[ptr p] W fun e w' => e = .returned (.tuple #[]) ∧ Dd w w' p F6 := h.revive
theorem fxp_r2 {w W : World} {p : Nat} (h : Dd w W p F6) : Calls Try.prog 65 #[ptr p, .int .i64 0] W fun e w' => e = .returned (.tuple #[.string (zeros 128), .int .i64 0]) ∧ Dd w w' p F6 := (h.read_ 0).mono fun e w' ⟨he, hw⟩ => ⟨by rw [he, fx_r2, fx_v2], hw⟩
theorem fxp_im {w W : World} {p : Nat} (h : Dd w W p F6) : Calls Try.prog 28 #[ptr p] W fun e w' => e = .returned (.string (zeros 128 ++ allB 65)) ∧ Dd w w' p F6 := h.image_.mono fun e w' ⟨he, hw⟩ => ⟨by rw [he, fx_im], hw⟩
theorem fxp_sf {w W : World} {p : Nat} (h : Dd w W p F6) : Calls Try.prog 31 #[ptr p] W fun e w' => e = .returned (.string (zeros 128 ++ allB 65)) ∧ Dd w w' p F6 := h.safe.mono fun e w' ⟨he, hw⟩ => ⟨by rw [he, fx_sf, fx_im], hw ▸ h⟩
theorem fxp_im2 {w W : World} {p : Nat} (h : Dd w W p F6) : Calls Try.prog 28 #[ptr p] W fun e w' => e = .returned (.string (zeros 128 ++ allB 65)) ∧ Dd w w' p F6 := h.image_.mono fun e w' ⟨he, hw⟩ => ⟨by rw [he, fx_im], hw⟩
/-- What the fixed calls tell, by states that are not looked into. -/
structure FixC (w : World) (Zf Af : Int → ByteArray) (D : Nat → Dk) : Prop where
  n256 : ∀ W, Fr [] w W → Calls Try.prog 87 #[.int .i64 256] W fun e w' => e = .returned (.string (Zf 256)) ∧ Fr [] w w'
  new : ∀ W, Fr [] w W → Calls Try.prog 22 #[.string (Zf 256)] W fun e w' => ∃ p, e = .returned (.tuple #[ptr p, .int .i64 0]) ∧ Dd w w' p (D 0)
  nn : ∀ W p d (x : Int), 0 ≤ x ∧ x ≤ 524288 → Dd w W p d → Calls Try.prog 87 #[.int .i64 x] W fun e w' => e = .returned (.string (Zf x)) ∧ Dd w w' p d
  aa : ∀ W p d (x : Int), 0 ≤ x ∧ x < 256 → Dd w W p d → Calls Try.prog 88 #[.int .u8 x] W fun e w' => e = .returned (.string (Af x)) ∧ Dd w w' p d
  wait : ∀ W p, Dd w W p (D 3) → Calls Try.prog 50 #[ptr p] W fun e w' => ∃ A, e = .returned (.slice A 1 1) ∧ Dd w w' p (D 4)
  after : ∀ W p A n c, Dd w W p (D 4) → Zw W (.slice A n c) [0, 3] → Calls Try.prog 49 #[ptr p, .slice A n c] W fun e w' => e = .returned (.string (Zf 128 ++ ⟨#[65, 65, 65]⟩ ++ Zf 125)) ∧ Dd w w' p (D 5)
  r1 : ∀ W p, Dd w W p (D 10) → Calls Try.prog 65 #[ptr p, .int .i64 0] W fun e w' => ∃ s, e = .returned (.tuple #[.string s, .int .i64 2]) ∧ Dd w w' p (D 11)
  count : ∀ W p, Dd w W p (D 0) → Calls Try.prog 29 #[ptr p] W fun e w' => e = .returned (.int .i64 2) ∧ Dd w w' p (D 1)
  w1 : ∀ W p, Dd w W p (D 1) → Calls Try.prog 30 #[ptr p, .int .i64 1, .string (Af 65)] W fun e w' => e = .returned (.int .i64 0) ∧ Dd w w' p (D 2)
  w2 : ∀ W p, Dd w W p (D 2) → Calls Try.prog 30 #[ptr p, .int .i64 2, .string (Af 65)] W fun e w' => e = .returned (.int .i64 71) ∧ Dd w w' p (D 3)
  f1 : ∀ W p, Dd w W p (D 5) → Calls Try.prog 48 #[ptr p, .int .i64 0, .int .i64 3] W fun e w' => e = .returned (.int .i64 71) ∧ Dd w w' p (D 6)
  f2 : ∀ W p, Dd w W p (D 6) → Calls Try.prog 48 #[ptr p, .int .i64 1, .int .i64 1] W fun e w' => e = .returned (.int .i64 0) ∧ Dd w w' p (D 7)
  arm : ∀ W p, Dd w W p (D 7) → Calls Try.prog 81 #[ptr p, .int .i64 2, .slice none 0 0] W fun e w' => e = .returned (.int .i64 0) ∧ Dd w w' p (D 8)
  w3 : ∀ W p, Dd w W p (D 8) → Calls Try.prog 30 #[ptr p, .int .i64 0, .string (Af 66)] W fun e w' => e = .returned (.int .i64 0) ∧ Dd w w' p (D 9)
  f3 : ∀ W p, Dd w W p (D 9) → Calls Try.prog 48 #[ptr p, .int .i64 0, .int .i64 1] W fun e w' => e = .returned (.int .i64 2) ∧ Dd w w' p (D 10)
  rev : ∀ W p, Dd w W p (D 11) → Calls Try.prog 33 #[ptr p] W fun e w' => e = .returned (.tuple #[]) ∧ Dd w w' p (D 12)
  r2 : ∀ W p, Dd w W p (D 12) → Calls Try.prog 65 #[ptr p, .int .i64 0] W fun e w' => e = .returned (.tuple #[.string (Zf 128), .int .i64 0]) ∧ Dd w w' p (D 13)
  im : ∀ W p, Dd w W p (D 13) → Calls Try.prog 28 #[ptr p] W fun e w' => e = .returned (.string (Zf 128 ++ Af 65)) ∧ Dd w w' p (D 14)
  sf : ∀ W p, Dd w W p (D 14) → Calls Try.prog 31 #[ptr p] W fun e w' => e = .returned (.string (Zf 128 ++ Af 65)) ∧ Dd w w' p (D 15)
  im2 : ∀ W p, Dd w W p (D 15) → Calls Try.prog 28 #[ptr p] W fun e w' => e = .returned (.string (Zf 128 ++ Af 65)) ∧ Dd w w' p (D 16)
  s128 : (Zf 128).size = 128
  s125 : (Zf 125).size = 125
  s65 : (Af 65).size = 128
def FixD : Nat → Dk
  | 0 => F0
  | 1 => F0
  | 2 => F1
  | 3 => F1
  | 4 => F1
  | 5 => F1
  | 6 => F1
  | 7 => F2
  | 8 => F3
  | 9 => F4
  | 10 => F5
  | 11 => F5
  | 12 => F6
  | 13 => F6
  | 14 => F6
  | 15 => F6
  | _ => F6
theorem fixC (w : World) : FixC w (fun x => zeros x.toNat) (fun x => allB (UInt8.ofNat x.toNat)) FixD where
  n256 := fun W hf => (noughts_any 256 (by omega) W).mono fun e w' ⟨he, h⟩ => ⟨he, hf.trans h⟩
  new := fun W hf => (Dd.new (zeros 256) W fx_new).mono fun e w' ⟨p, he, h⟩ => ⟨p, he, h.base hf⟩
  nn := fun W p d x hx h => by
    have := h.noughts x.toNat (by omega)
    rw [show ((x.toNat : Nat) : Int) = x by omega] at this
    exact this
  aa := fun W p d x hx h => by
    have := h.all (UInt8.ofNat x.toNat)
    rw [show (((UInt8.ofNat x.toNat).toNat : Nat) : Int) = x by rw [UInt8.toNat_ofNat', Nat.mod_eq_of_lt (by omega)]; omega] at this
    exact this
  wait := fun W p h => h.length.mono fun e w' ⟨A, he, hw⟩ => ⟨A, by rw [he]; show _ = Ending.returned (Value.slice A 1 1); rw [← fx_wait]; rfl, hw⟩
  after := fun W p A n c h hz => (h.after hz).mono fun e w' ⟨he, hf⟩ => ⟨by rw [he]; show _ = Ending.returned (Value.string (zeros 128 ++ AAA ++ zeros 125)); rw [← fx_after]; rfl, h.to hf⟩
  r1 := fun W p h => (h.read_ 0).mono fun e w' ⟨he, hw⟩ => ⟨F5.readV 0, by rw [he]; show _ = Ending.returned (Value.tuple #[Value.string (F5.readV 0), Value.int IntKind.i64 2]); rw [← fx_r1]; rfl, hw⟩
  count := fun W p h => fxp_count h
  w1 := fun W p h => fxp_w1 h
  w2 := fun W p h => fxp_w2 h
  f1 := fun W p h => fxp_f1 h
  f2 := fun W p h => fxp_f2 h
  arm := fun W p h => fxp_arm h
  w3 := fun W p h => fxp_w3 h
  f3 := fun W p h => fxp_f3 h
  rev := fun W p h => fxp_rev h
  r2 := fun W p h => fxp_r2 h
  im := fun W p h => fxp_im h
  sf := fun W p h => fxp_sf h
  im2 := fun W p h => fxp_im2 h
  s128 := zeros_size 128
  s125 := zeros_size 125
  s65 := allB_size 65
theorem zs03 (w : World) : Zs (w.alloc (.cells #[.int .i64 0, .int .i64 3] 3)) (.slice (some ⟨w.heap.size, 0, none⟩) 2 2) [0, 3] :=
  ⟨_, 2, rfl, Nat.le_refl _, by simp [maxLen], (fun h => by cases h), .inr ⟨_, 0, _, _, rfl, Blk.new w 3 #[.int .i64 0, .int .i64 3], fun j x hj => by
    match j, hj with
    | 0, hj => injection hj with hj; subst hj; rfl
    | 1, hj => injection hj with hj; subst hj; rfl
    | _ + 2, hj => simp at hj⟩⟩
set_option maxRecDepth 100000 in
set_option maxHeartbeats 4000000 in
theorem fixed07_any (w : World) : Calls Try.prog 46 #[] w fun e w' => e = .returned (.bool true) ∧ Fr [] w w' := by
  obtain ⟨Zf, Af, D, hC⟩ : ∃ Zf Af D, FixC w Zf Af D := ⟨_, _, _, fixC w⟩
  have C := Lib.hid hC
  have hs1 := C.out.s128
  have hs2 := C.out.s125
  have hs3 := C.out.s65
  clear hC
  go_enter Try.func46, Try.ntmps46
  go_wp2_with (first
    | (go_at_call 87; have hq := C.out.n256 _ (Fr.refl _ _); refine hq.mono ?_; rintro e w1 ⟨rfl, hf1⟩)
    | (go_at_call 22; have hq := C.out.new _ hf1; refine hq.mono ?_; rintro e w2 ⟨p, rfl, hd⟩; clear hf1)
    | (go_at_call 88; refine (C.out.aa _ _ _ _ (by omega) hd).mono ?_; clear hd; rintro e w3 ⟨rfl, hd⟩)
    | (go_at_call 87; refine (C.out.nn _ _ _ _ (by omega) hd).mono ?_; clear hd; rintro e w5 ⟨rfl, hd⟩)
    | (go_at_call 50; have hq := C.out.wait _ _ hd; clear hd; refine hq.mono ?_; rintro e w7 ⟨A7, rfl, hd⟩)
    | (go_at_call 49; have hq := C.out.after _ _ _ _ _ (hd.to ((Fr.refl [] _).alloc _)) (zs03 _).zw; clear hd; refine hq.mono ?_; rintro e w8 ⟨rfl, hd⟩)
    | (go_at_call 29; first | (have hq := C.out.count _ _ hd; clear hd; refine hq.mono ?_; rintro e wcount ⟨rfl, hd⟩))
    | (go_at_call 30; first | (have hq := C.out.w1 _ _ hd; clear hd; refine hq.mono ?_; rintro e ww1 ⟨rfl, hd⟩) | (have hq := C.out.w2 _ _ hd; clear hd; refine hq.mono ?_; rintro e ww2 ⟨rfl, hd⟩) | (have hq := C.out.w3 _ _ hd; clear hd; refine hq.mono ?_; rintro e ww3 ⟨rfl, hd⟩))
    | (go_at_call 48; first | (have hq := C.out.f1 _ _ hd; clear hd; refine hq.mono ?_; rintro e wf1 ⟨rfl, hd⟩) | (have hq := C.out.f2 _ _ hd; clear hd; refine hq.mono ?_; rintro e wf2 ⟨rfl, hd⟩) | (have hq := C.out.f3 _ _ hd; clear hd; refine hq.mono ?_; rintro e wf3 ⟨rfl, hd⟩))
    | (go_at_call 81; first | (have hq := C.out.arm _ _ hd; clear hd; refine hq.mono ?_; rintro e warm ⟨rfl, hd⟩))
    | (go_at_call 33; first | (have hq := C.out.rev _ _ hd; clear hd; refine hq.mono ?_; rintro e wrev ⟨rfl, hd⟩))
    | (go_at_call 65; first | (have hq := C.out.r1 _ _ hd; clear hd; refine hq.mono ?_; rintro e wr1 ⟨s1, rfl, hd⟩) | (have hq := C.out.r2 _ _ hd; clear hd; refine hq.mono ?_; rintro e wr2 ⟨rfl, hd⟩))
    | (go_at_call 28; first | (have hq := C.out.im _ _ hd; clear hd; refine hq.mono ?_; rintro e wim ⟨rfl, hd⟩) | (have hq := C.out.im2 _ _ hd; clear hd; refine hq.mono ?_; rintro e wim2 ⟨rfl, hd⟩))
    | (go_at_call 31; first | (have hq := C.out.sf _ _ hd; clear hd; refine hq.mono ?_; rintro e wsf ⟨rfl, hd⟩)))
  go_ret
  exact ⟨rfl, hd.fr⟩
end Go.Proofs.Ythmnloapjdalpaa
