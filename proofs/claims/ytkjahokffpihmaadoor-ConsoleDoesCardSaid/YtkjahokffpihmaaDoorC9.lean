/- What a key does to a choice, and to the password. -/
import Derived.Test.YtkjahokffpihmaaDoorC8
namespace Go.Proofs.YtkjahokffpihmaaDoor
open Go.RowKit
set_option linter.unusedVariables false
set_option linter.unusedSimpArgs false
set_option maxRecDepth 100000
def toChoice (x : Con) (b : UInt8) : Con := if 48 ≤ b.toNat ∧ (b.toNat : Int) - 48 < x.lv then { x with fo := (b.toNat : Int) - 48, sc := sclear } else x
theorem toChoice_ok {x : Con} (h : x.Ok) (b : UInt8) : (toChoice x b).Ok := by
  unfold toChoice
  split
  · next hc => exact ⟨h.l1, h.l8, h.g1, h.g, by simp only; omega, hc.2, h.t, h.n, h.k, sclear_ok⟩
  · exact h
set_option maxHeartbeats 4000000 in
theorem toChoice_any (w : World) (c k : Nat) (x : Con) (h : ConAt w c k x) (b : UInt8) : Calls Tryd.prog 50 #[ptr c, .int .u8 (b.toNat : Int)] w (ConP w c k (toChoice x b)) := by
  have hne := h.ne
  have hok := h.ok
  have hT := Lib.hid (toChoice_ok hok b)
  have hx := Lib.hid h
  obtain ⟨⟨cap, hb, h1, h2⟩, hk, -⟩ := h
  obtain ⟨c0, -, c2, -, -, -, f⟩ := conC hb
  have f2 := f 2
  have hb0 : (0 : Int) ≤ (b.toNat : Int) := by omega
  have hb1 : (b.toNat : Int) < 256 := by have := UInt8.toNat_lt b; omega
  have l8 := hok.l8
  by_cases h48 : 48 ≤ b.toNat
  · by_cases hlv : (b.toNat : Int) - 48 < x.lv
    · have e : toChoice x b = { x with fo := (b.toNat : Int) - 48, sc := sclear } := by unfold toChoice; rw [if_pos ⟨h48, hlv⟩]
      rw [e] at hT ⊢
      have hb' : Blk (w.setCell ⟨c, 2, none⟩ (.int .i64 ((b.toNat : Int) - 48))) c 70 (scells (hd { x with fo := (b.toNat : Int) - 48, sc := sclear } (.slice (some ⟨k, 0, none⟩) x.lv cap)) x.sc) := sethead hb rfl (i := 2) (by omega) _
      have HC := Lib.hid ((sclear_any _ c _ _ hb').mono (R' := ConP w c k { x with fo := (b.toNat : Int) - 48, sc := sclear }) (fun e w' ⟨he, hb2, hf2⟩ => ⟨he, ⟨⟨cap, hb2, h1, h2⟩, (hk.fr ((Fr.refl [c] w).setCell (by simp) _) (by simp; omega)).fr hf2 (by simp; omega), hT.out⟩, ((Fr.refl [c] w).setCell (by simp) _).trans hf2⟩))
      have i1 : (48 : Int) ≤ (b.toNat : Int) := by omega
      have i2 : (0 : Int) ≤ (b.toNat : Int) - 48 := by omega
      clear hx hb hk h1 h2 hb' e f hok h48
      generalize (b.toNat : Int) = B at *
      go_enter Tryd.func50, Tryd.ntmps50
      go_wp2_with (go_at_call 48; refine HC.out.mono ?_; rintro e w1 hP; obtain ⟨rfl, hQ⟩ := hP; have HQ := Lib.hid hQ; clear hQ)
      go_end0
      exact ⟨rfl, HQ.out⟩
    · have e : toChoice x b = x := by unfold toChoice; rw [if_neg (by intro hh; exact hlv hh.2)]
      rw [e] at hT ⊢
      have i1 : (48 : Int) ≤ (b.toNat : Int) := by omega
      have i2 : (0 : Int) ≤ (b.toNat : Int) - 48 := by omega
      clear hb hk h1 h2 e f hok h48
      generalize (b.toNat : Int) = B at *
      go_enter Tryd.func50, Tryd.ntmps50
      go_wp2_with fail
      go_end0
      exact ⟨rfl, hx.out, Fr.refl _ _⟩
  · have e : toChoice x b = x := by unfold toChoice; rw [if_neg (by intro hh; exact h48 hh.1)]
    rw [e] at hT ⊢
    have i1 : ¬ (48 : Int) ≤ (b.toNat : Int) := by omega
    have i2 : ¬ (0 : Int) ≤ (b.toNat : Int) - 48 := by omega
    clear hb hk h1 h2 e f hok h48
    generalize (b.toNat : Int) = B at *
    go_enter Tryd.func50, Tryd.ntmps50
    go_wp2_with fail
    go_end0
    exact ⟨rfl, hx.out, Fr.refl _ _⟩
def levS : List UInt8 := [10, 108, 101, 118, 101, 108, 58]
def noS : List UInt8 := [10, 110, 111, 10, 112, 97, 115, 115, 119, 111, 114, 100, 58]
def ty1 (s : ByteArray) (b : UInt8) : ByteArray := if s.size < 17 then appB s b else s
def toPass (x : Con) (b : UInt8) : Con :=
  if b.toNat ≠ 13 then { x with ty := ty1 x.ty b } else if x.ty = x.lg then { x with ch := true, sc := ssays x.sc levS } else { x with ty := empty, sc := ssays x.sc noS }
theorem toPass_ok {x : Con} (h : x.Ok) (b : UInt8) : (toPass x b).Ok := by
  unfold toPass
  split
  · refine ⟨h.l1, h.l8, h.g1, h.g, h.f0, h.f1, ?_, h.n, h.k, h.s⟩
    simp only [ty1]
    split
    · rw [appB_size]; omega
    · exact h.t
  · split
    · exact ⟨h.l1, h.l8, h.g1, h.g, h.f0, h.f1, h.t, h.n, h.k, ssays_ok h.s _⟩
    · exact ⟨h.l1, h.l8, h.g1, h.g, h.f0, h.f1, by simp [empty, ByteArray.size], h.n, h.k, ssays_ok h.s _⟩
/-- As the program reckons it: appended, then cut. -/
theorem ty1_cut (s : ByteArray) (b : UInt8) (h : s.size ≤ 17) : (appB s b).extract 0 (min (appB s b).size 17) = ty1 s b := by
  unfold ty1
  split
  · next h17 =>
    rw [Nat.min_eq_left (by rw [appB_size]; omega)]
    simp
  · next h17 =>
    have e : s.size = 17 := by omega
    rw [Nat.min_eq_right (by rw [appB_size]; omega)]
    unfold appB
    apply ByteArray.ext
    rw [ByteArray.data_extract, ByteArray.data_append]
    have e' : s.data.size = 17 := e
    apply Array.ext_getElem?
    intro i
    rw [Array.getElem?_extract]
    by_cases hi : i < 17
    · rw [if_pos (by simp; omega), Array.getElem?_append_left (by omega)]
      simp
    · rw [if_neg (by simp; omega), Array.getElem?_eq_none (by omega)]
set_option maxHeartbeats 4000000 in
theorem toPass_key (w : World) (c k : Nat) (x : Con) (h : ConAt w c k x) (b : UInt8) (h13 : b.toNat ≠ 13) : Calls Tryd.prog 51 #[ptr c, .int .u8 (b.toNat : Int)] w (ConP w c k (toPass x b)) := by
  have hne := h.ne
  have hok := h.ok
  have hT := Lib.hid (toPass_ok hok b)
  have hl := h.lt.1
  obtain ⟨⟨cap, hb, h1, h2⟩, hk, -⟩ := h
  obtain ⟨-, -, -, -, c4, -, f⟩ := conC hb
  have f4 := f 4
  have e : toPass x b = { x with ty := ty1 x.ty b } := by unfold toPass; rw [if_pos h13]
  rw [e] at hT ⊢
  have ht := hok.t
  have e1 : (((b.toNat : Nat) : Int) != 13) = true := by rw [bne_iff_ne]; omega
  have hcv := conv_one (w.alloc (.cells #[.int .u8 (b.toNat : Int)] 5)).drew w.heap.size b (by simp)
  have hcs : ¬ 9223372036854775807 < x.ty.size + 1 := by omega
  obtain ⟨W, hW⟩ : ∃ W, ((w.setCell ⟨c, 4, none⟩ (.string (x.ty ++ ⟨#[b]⟩))).alloc (.cells #[.int .u8 (b.toNat : Int)] 5)).drew = W := ⟨_, rfl⟩
  have hfW : Fr [c] w W := by rw [← hW]; exact (((Fr.refl [c] w).setCell (by simp) _).alloc _).drew
  have hbW : Blk W c 70 (scells (hd { x with ty := appB x.ty b } (.slice (some ⟨k, 0, none⟩) x.lv cap)) x.sc) := by
    rw [← hW]
    exact ((sethead hb rfl (i := 4) (by omega) _).alloc _).drew
  obtain ⟨-, -, -, -, k4, -, fW⟩ := conC hbW
  have fW4 := fW 4
  have hz : (appB x.ty b).size = x.ty.size + 1 := appB_size _ _
  have hcut : ((if (17 : Int) < ((appB x.ty b).size : Int) then (17 : Int) else ((appB x.ty b).size : Int)) = ((appB x.ty b).size : Int) ∧ (appB x.ty b).extract 0 (appB x.ty b).size = ty1 x.ty b) ∨ ((17 : Int) < ((appB x.ty b).size : Int) ∧ (17 : Int) ≤ ((appB x.ty b).size : Int) ∧ (appB x.ty b).extract 0 17 = ty1 x.ty b) := by
    have := ty1_cut x.ty b ht
    by_cases h17 : x.ty.size < 17
    · left
      rw [Nat.min_eq_left (by omega)] at this
      exact ⟨if_neg (by omega), this⟩
    · right
      rw [Nat.min_eq_right (by omega)] at this
      exact ⟨by omega, by omega, this⟩
  have hzz : ((appB x.ty b).size : Int) ≤ 9223372036854775807 := by omega
  have HW := Lib.hid hW
  have HZ : Hid (∀ s, s = ty1 x.ty b → ConAt (W.setCell ⟨c, 4, none⟩ (.string s)).drew c k { x with ty := ty1 x.ty b } ∧ Fr [c] w (W.setCell ⟨c, 4, none⟩ (.string s)).drew) := Lib.hid fun s hs => by
    rw [hs]
    exact ⟨⟨⟨cap, (sethead (s := x.sc) hbW rfl (i := 4) (by omega) (.string (ty1 x.ty b))).drew, h1, h2⟩, (hk.fr hfW (by simp; omega)).fr (((Fr.refl [c] W).setCell (by simp) _).drew) (by simp; omega), hT.out⟩, (hfW.setCell (by simp) _).drew⟩
  clear h1 h2 hok hk e f h13 hbW hfW fW hb hW
  go_enter Tryd.func51, Tryd.ntmps51
  go_wp2_with fail
  go_region_law (fail)
  all_goals
    go_wp2_with fail
    rw [HW.out]
    clear c4 f4 hcv hcs HW hz ht
    change W.cell? ⟨c, 4, none⟩ = some (.string (appB x.ty b)) at k4
    generalize appB x.ty b = T at *
    rcases hcut with ⟨d1, he⟩ | ⟨d1, d2, he⟩
    all_goals
      have HE := Lib.hid he
      clear he
      go_region_law (fail)
      all_goals
        go_wp2_with fail
        go_end0
        exact ⟨rfl, HZ.out _ (by first | exact HE.out | (have h9 := HE.out; simpa using h9))⟩
end Go.Proofs.YtkjahokffpihmaaDoor
