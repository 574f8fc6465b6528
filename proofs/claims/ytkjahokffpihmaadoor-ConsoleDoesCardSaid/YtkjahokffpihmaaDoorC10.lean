/- A key; who is there; what is written, taken; the focus. -/
import Derived.Test.YtkjahokffpihmaaDoorC9
namespace Go.Proofs.YtkjahokffpihmaaDoor
open Go.RowKit
set_option linter.unusedVariables false
set_option linter.unusedSimpArgs false
set_option maxRecDepth 100000
/-- Two strings that are not one, as a walk asks it. -/
theorem str_ne {a b : ByteArray} (h : a ≠ b) : (a.toList == b.toList) = false := by
  rw [ByteArray.toList_eq, ByteArray.toList_eq]
  refine beq_eq_false_iff_ne.2 fun e => h ?_
  apply ByteArray.ext
  exact Array.toList_inj.1 e
theorem str_beq (a b : ByteArray) : (a.toList == b.toList) = decide (a = b) := by
  by_cases h : a = b
  · subst h; simp
  · rw [str_ne h, decide_eq_false h]
set_option maxHeartbeats 4000000 in
theorem toPass_enter (w : World) (c k : Nat) (x : Con) (h : ConAt w c k x) (b : UInt8) (h13 : b.toNat = 13) : Calls Tryd.prog 51 #[ptr c, .int .u8 (b.toNat : Int)] w (ConP w c k (toPass x b)) := by
  have hne := h.ne
  have hok := h.ok
  have hT := Lib.hid (toPass_ok hok b)
  obtain ⟨⟨cap, hb, h1, h2⟩, hk, -⟩ := h
  obtain ⟨-, c1, -, c3, c4, -, f⟩ := conC hb
  have f3 := f 3
  have f4 := f 4
  have e1 : (((b.toNat : Nat) : Int) != 13) = false := by rw [h13]; rfl
  by_cases hq : x.ty = x.lg
  · have e : toPass x b = { x with ch := true, sc := ssays x.sc levS } := by unfold toPass; rw [if_neg (by simpa using h13), if_pos hq]
    rw [e] at hT ⊢
    have hb2 : Blk ((w.setCell ⟨c, 3, none⟩ (.bool true)).drew) c 70 (scells (hd { x with ch := true } (.slice (some ⟨k, 0, none⟩) x.lv cap)) x.sc) := (sethead (s := x.sc) hb rfl (i := 3) (by omega) (.bool true)).drew
    have hf2 : Fr [c] w ((w.setCell ⟨c, 3, none⟩ (.bool true)).drew) := ((Fr.refl [c] w).setCell (by simp) _).drew
    have HS := Lib.hid ((says_any _ c _ (hd_Hd _ _ _ _) x.sc hok.s hb2 ⟨#[10, 108, 101, 118, 101, 108, 58]⟩ (by simp [maxLen, ByteArray.size])).mono (R' := ConP w c k { x with ch := true, sc := ssays x.sc levS }) (fun e w' ⟨he, hb3, hf3⟩ => ⟨he, ⟨⟨cap, hb3, h1, h2⟩, (hk.fr hf2 (by simp; omega)).fr hf3 (by simp; omega), hT.out⟩, hf2.trans hf3⟩))
    rw [← hq] at c1
    clear hb hk h1 h2 hb2 hf2 e f hok h13
    generalize x.ty = T at *
    clear hq
    go_enter Tryd.func51, Tryd.ntmps51
    go_wp2_with fail
    go_region_held3 (fun W => W.cell? ⟨c, 4, none⟩ = some (.string T) ∧ W.cell? ⟨c, 1, none⟩ = some (.string T)) (first | exact ⟨c4, c1⟩ | go_keep) (fail)
    go_wp2_with (go_at_call 38; refine HS.out.mono ?_; rintro e w1 hP; obtain ⟨rfl, hQ⟩ := hP; have HQ := Lib.hid hQ; clear hQ)
    go_end0
    exact ⟨rfl, HQ.out⟩
  · have e : toPass x b = { x with ty := empty, sc := ssays x.sc noS } := by unfold toPass; rw [if_neg (by simpa using h13), if_neg hq]
    rw [e] at hT ⊢
    have hb2 : Blk (w.setCell ⟨c, 4, none⟩ (.string ⟨#[]⟩)).drew c 70 (scells (hd { x with ty := empty } (.slice (some ⟨k, 0, none⟩) x.lv cap)) x.sc) := (sethead (s := x.sc) hb rfl (i := 4) (by omega) (.string empty)).drew
    have hf2 : Fr [c] w (w.setCell ⟨c, 4, none⟩ (.string ⟨#[]⟩)).drew := ((Fr.refl [c] w).setCell (by simp) _).drew
    have HS := Lib.hid ((says_any _ c _ (hd_Hd _ _ _ _) x.sc hok.s hb2 ⟨#[10, 110, 111, 10, 112, 97, 115, 115, 119, 111, 114, 100, 58]⟩ (by simp [maxLen, ByteArray.size])).mono (R' := ConP w c k { x with ty := empty, sc := ssays x.sc noS }) (fun e w' ⟨he, hb3, hf3⟩ => ⟨he, ⟨⟨cap, hb3, h1, h2⟩, (hk.fr hf2 (by simp; omega)).fr hf3 (by simp; omega), hT.out⟩, hf2.trans hf3⟩))
    have q2 := str_ne hq
    clear hq
    clear hb hk h1 h2 hb2 hf2 e f hok h13
    generalize x.ty = T at *
    generalize x.lg = G at *
    go_enter Tryd.func51, Tryd.ntmps51
    go_wp2_with fail
    go_region_held3 (fun W => W.cell? ⟨c, 4, none⟩ = some (.string T) ∧ W.cell? ⟨c, 1, none⟩ = some (.string G)) (first | exact ⟨c4, c1⟩ | go_keep) (fail)
    go_wp2_with (go_at_call 38; refine HS.out.mono ?_; rintro e w1 hP; obtain ⟨rfl, hQ⟩ := hP; have HQ := Lib.hid hQ; clear hQ)
    go_end0
    exact ⟨rfl, HQ.out⟩
theorem handler_any (w : World) (c k : Nat) (x : Con) (h : ConAt w c k x) : Calls Tryd.prog 35 #[ptr c] w fun e w' => e = .returned (.func (.func (if x.fo ≠ -1 then 49 else if x.ch then 50 else 51)) #[ptr c] #[]) ∧ w = w' := by
  obtain ⟨⟨cap, hb, h1, h2⟩, hk, -⟩ := h
  obtain ⟨-, -, c2, c3, -, -, -⟩ := conC hb
  by_cases hf : x.fo = -1
  · rw [if_neg (by simpa using hf)]
    rw [hf] at c2
    cases hc : x.ch with
    | false =>
      rw [hc] at c3
      rw [if_neg (by simp)]
      clear hb hk h1 h2 hf hc
      go_enter Tryd.func35, Tryd.ntmps35
      go_wp2_with fail
      go_ret
      exact ⟨rfl, rfl⟩
    | true =>
      rw [hc] at c3
      rw [if_pos rfl]
      clear hb hk h1 h2 hf hc
      go_enter Tryd.func35, Tryd.ntmps35
      go_wp2_with fail
      go_ret
      exact ⟨rfl, rfl⟩
  · rw [if_pos hf]
    have e1 : (x.fo != -1) = true := by rw [bne_iff_ne]; exact hf
    clear hb hk h1 h2 hf
    go_enter Tryd.func35, Tryd.ntmps35
    go_wp2_with fail
    go_ret
    exact ⟨rfl, rfl⟩
end Go.Proofs.YtkjahokffpihmaaDoor
