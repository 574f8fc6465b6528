/- The reference's console: Key at the password; Key. -/
import Derived.Test.YtkjahokffpihmaaDoorC32
namespace Go.Proofs.YtkjahokffpihmaaDoor
open Go.RowKit
set_option linter.unusedVariables false
set_option linter.unusedSimpArgs false
set_option maxRecDepth 100000
def levB : ByteArray := ⟨#[10, 108, 101, 118, 101, 108, 58]⟩
def noB : ByteArray := ⟨#[10, 110, 111, 10, 112, 97, 115, 115, 119, 111, 114, 100, 58]⟩
set_option maxHeartbeats 2000000 in
theorem rkey_letter (w : World) (y g r : Nat) (x : Con) (h : RAt w y x g r) (b : UInt8) (hb : b.toNat ≠ 1) (hf : x.fo = -1) (hch : x.ch = false) (h13 : b.toNat ≠ 13) : Calls Tryd.prog 24 #[ptr y, .int .u8 (b.toNat : Int)] w (RaP w y g r (key x b) (.tuple #[])) := by
  have ek : key x b = { x with ty := ty1 x.ty b } := by unfold key; rw [if_neg hb, if_neg (by simp [hf]), if_neg (by simp [hch])]; unfold toPass; rw [if_pos h13]
  have HA := Lib.hid h
  have ok := h.ok
  have hokk := key_ok ok b
  have hne := h.ne
  obtain ⟨⟨ck, h1, cr0⟩, hk2, -⟩ := h
  obtain ⟨cr, hbl, h2⟩ := cr0.b
  have c2 := hbl.cell 2
  have c3 := hbl.cell 3
  have c4 := hbl.cell 4
  simp at c2 c3 c4
  rw [hf] at c2
  rw [hch] at c3
  have f4 := hbl.frozen 4
  have hlt := hbl.lt
  have e1 : ((b.toNat : Int) == 1) = false := beq_eq_false_iff_ne.2 (by omega)
  have e13 : ((b.toNat : Int) != 13) = true := by rw [bne_iff_ne]; omega
  rw [ek] at hokk ⊢
  unfold RaP
  by_cases h17 : x.ty.size < 17
  · have e2 : ty1 x.ty b = x.ty ++ ⟨#[b]⟩ := by unfold ty1; rw [if_pos h17]; rfl
    rw [e2] at hokk ⊢
    have d1 : (x.ty.size : Int) < 17 := by omega
    have hcs : ¬ 9223372036854775807 < x.ty.size + 1 := by omega
    have HB := Lib.hid hbl
    have HO := Lib.hid hokk
    have HK := Lib.hid hk2
    have HR := Lib.hid cr0
    have HCK := Lib.hid (And.intro h1 h2)
    have hcv := conv_one ((w.alloc (.cells #[.int .u8 (b.toNat : Int)] 5)).drew) w.heap.size b (by simp)
    have HFN : Hid (RAt (((w.setCell ⟨y, 4, none⟩ (.string (x.ty ++ ⟨#[b]⟩))).alloc (.cells #[.int .u8 (b.toNat : Int)] 5)).drew) y { x with ty := x.ty ++ ⟨#[b]⟩ } g r ∧ Fr [y] w (((w.setCell ⟨y, 4, none⟩ (.string (x.ty ++ ⟨#[b]⟩))).alloc (.cells #[.int .u8 (b.toNat : Int)] 5)).drew)) := Lib.hid (by
      have hf : Fr [y] w (((w.setCell ⟨y, 4, none⟩ (.string (x.ty ++ ⟨#[b]⟩))).alloc (.cells #[.int .u8 (b.toNat : Int)] 5)).drew) := (((Fr.refl [y] w).setCell (by simp) _).alloc _).drew
      exact ⟨⟨⟨ck, h1, ⟨cr, ((hbl.set_ 4 _).alloc _).drew, h2⟩, cr0.k.fr hf (by simpa using Ne.symm hne.2), cr0.ok⟩, hk2.fr hf (by simpa using Ne.symm hne.1), hokk⟩, hf⟩)
    clear hbl cr0 hk2 ok hb hf hch h13 ek e2 h17 hokk
    go_enter Tryd.func24, Tryd.ntmps24
    go_wp2_with fail
    go_region
    go_wp2_with fail
    refine bodyPost_ret (results_none rfl _ _ _) rfl ?_
    exact ⟨rfl, g, r, HFN.out.1, HFN.out.2, .inl rfl, .inl rfl⟩
  · have e2 : ty1 x.ty b = x.ty := by unfold ty1; rw [if_neg h17]
    rw [e2]
    have d1 : ¬ (x.ty.size : Int) < 17 := by omega
    clear hbl cr0 hk2 ok hb hf hch h13 ek e2 h17 hokk
    go_enter Tryd.func24, Tryd.ntmps24
    go_wp2_with fail
    refine bodyPost_ret (results_none rfl _ _ _) rfl ?_
    exact ⟨rfl, g, r, HA.out, Fr.refl _ _, .inl rfl, .inl rfl⟩
set_option maxHeartbeats 2000000 in
theorem rkey_enter (w : World) (y g r : Nat) (x : Con) (h : RAt w y x g r) (b : UInt8) (hf : x.fo = -1) (hch : x.ch = false) (h13 : b.toNat = 13) : Calls Tryd.prog 24 #[ptr y, .int .u8 (b.toNat : Int)] w (RaP w y g r (key x b) (.tuple #[])) := by
  have HA := Lib.hid h
  have ok := h.ok
  have hokk := key_ok ok b
  have hne := h.ne
  obtain ⟨⟨ck, h1, cr0⟩, hk2, -⟩ := h
  obtain ⟨cr, hbl, h2⟩ := cr0.b
  have c1 := hbl.cell 1
  have c2 := hbl.cell 2
  have c3 := hbl.cell 3
  have c4 := hbl.cell 4
  simp at c1 c2 c3 c4
  rw [hf] at c2
  rw [hch] at c3
  have f3 := hbl.frozen 3
  have f4 := hbl.frozen 4
  have e1 : ((b.toNat : Int) == 1) = false := beq_eq_false_iff_ne.2 (by omega)
  have e13 : ((b.toNat : Int) != 13) = false := by rw [h13]; rfl
  have hst := str_beq x.ty x.lg
  have HK := Lib.hid hk2
  have HCK := Lib.hid h1
  unfold RaP
  by_cases hel : x.ty = x.lg
  · have ek : key x b = { x with ch := true, sc := ssays x.sc levS } := by unfold key; rw [if_neg (by omega), if_neg (by simp [hf]), if_neg (by simp [hch])]; unfold toPass; rw [if_neg (by omega), if_pos hel]
    rw [decide_eq_true hel] at hst
    rw [ek] at hokk ⊢
    obtain ⟨W1, hW1⟩ : ∃ W1 : World → World, (fun W => W.setCell ⟨y, 3, none⟩ (.bool true)) = W1 := ⟨_, rfl⟩
    have HD : Hid (∀ nq, Calls Tryd.prog 45 #[ptr y, .string ⟨#[10, 108, 101, 118, 101, 108, 58]⟩] ((w.drewN nq).setCell ⟨y, 3, none⟩ (.bool true)) fun e w' => e = .returned (.tuple #[]) ∧ ∃ r', RAt w' y { x with ch := true, sc := ssays x.sc levS } g r' ∧ Fr [y] w w' ∧ (r' = r ∨ w.heap.size ≤ r')) := Lib.hid (by
      intro nq
      have hf1 : Fr [y] w ((w.drewN nq).setCell ⟨y, 3, none⟩ (.bool true)) := ((Fr.refl [y] w).drewN nq).setCell (by simp) _
      have hrw : Rw ((w.drewN nq).setCell ⟨y, 3, none⟩ (.bool true)) y (.int .i64 (x.lv : Int)) (.string x.lg) (.int .i64 x.fo) (.bool true) (.string x.ty) (.slice (some ⟨g, 0, none⟩) x.lv ck) r x.sc := ⟨⟨cr, (hbl.drewN nq).set_ 3 _, h2⟩, cr0.k.fr hf1 (by simpa using Ne.symm hne.2), cr0.ok⟩
      refine (rdraw_any _ y r _ _ _ _ _ _ _ hrw levB (by decide)).mono ?_
      rintro e w' ⟨rfl, r', hR', hf2, hr'⟩
      exact ⟨rfl, r', ⟨⟨ck, h1, hR'⟩, hk2.fr (hf1.trans hf2) (by simpa using Ne.symm hne.1), hokk⟩, hf1.trans hf2, by have := hf1.size; omega⟩)
    clear hbl cr0 hk2 ok hf hch h13 ek hel hokk hW1 W1
    go_enter Tryd.func24, Tryd.ntmps24
    go_wp2_with fail
    go_quiet (fail)
    go_wp2_with (go_at_call 45; refine (HD.out _).mono ?_; rintro e w2 ⟨rfl, hQ⟩; have HQ := Lib.hid hQ; clear hQ)
    obtain ⟨r', hQ⟩ := HQ.out
    refine bodyPost_ret (results_none rfl _ _ _) rfl ?_
    exact ⟨rfl, g, r', hQ.1, hQ.2.1, .inl rfl, hQ.2.2⟩
  · have ek : key x b = { x with ty := empty, sc := ssays x.sc noS } := by unfold key; rw [if_neg (by omega), if_neg (by simp [hf]), if_neg (by simp [hch])]; unfold toPass; rw [if_neg (by omega), if_neg hel]
    rw [decide_eq_false hel] at hst
    rw [ek] at hokk ⊢
    have HD : Hid (∀ nq, Calls Tryd.prog 45 #[ptr y, .string ⟨#[10, 110, 111, 10, 112, 97, 115, 115, 119, 111, 114, 100, 58]⟩] ((w.drewN nq).setCell ⟨y, 4, none⟩ (.string ⟨#[]⟩)) fun e w' => e = .returned (.tuple #[]) ∧ ∃ r', RAt w' y { x with ty := empty, sc := ssays x.sc noS } g r' ∧ Fr [y] w w' ∧ (r' = r ∨ w.heap.size ≤ r')) := Lib.hid (by
      intro nq
      have hf1 : Fr [y] w ((w.drewN nq).setCell ⟨y, 4, none⟩ (.string ⟨#[]⟩)) := ((Fr.refl [y] w).drewN nq).setCell (by simp) _
      have hrw : Rw ((w.drewN nq).setCell ⟨y, 4, none⟩ (.string ⟨#[]⟩)) y (.int .i64 (x.lv : Int)) (.string x.lg) (.int .i64 x.fo) (.bool x.ch) (.string ⟨#[]⟩) (.slice (some ⟨g, 0, none⟩) x.lv ck) r x.sc := ⟨⟨cr, (hbl.drewN nq).set_ 4 _, h2⟩, cr0.k.fr hf1 (by simpa using Ne.symm hne.2), cr0.ok⟩
      refine (rdraw_any _ y r _ _ _ _ _ _ _ hrw noB (by decide)).mono ?_
      rintro e w' ⟨rfl, r', hR', hf2, hr'⟩
      exact ⟨rfl, r', ⟨⟨ck, h1, hR'⟩, hk2.fr (hf1.trans hf2) (by simpa using Ne.symm hne.1), hokk⟩, hf1.trans hf2, by have := hf1.size; omega⟩)
    clear hbl cr0 hk2 ok hf hch h13 ek hel hokk
    go_enter Tryd.func24, Tryd.ntmps24
    go_wp2_with fail
    go_quiet (fail)
    go_wp2_with (go_at_call 45; refine (HD.out _).mono ?_; rintro e w2 ⟨rfl, hQ⟩; have HQ := Lib.hid hQ; clear hQ)
    obtain ⟨r', hQ⟩ := HQ.out
    go_end0
    exact ⟨rfl, g, r', hQ.1, hQ.2.1, .inl rfl, hQ.2.2⟩
theorem rkey_any (w : World) (y g r : Nat) (x : Con) (h : RAt w y x g r) (b : UInt8) : Calls Tryd.prog 24 #[ptr y, .int .u8 (b.toNat : Int)] w (RaP w y g r (key x b) (.tuple #[])) := by
  by_cases h1 : b.toNat = 1
  · exact rkey_secure w y g r x h b h1
  · by_cases hf : x.fo = -1
    · cases hc : x.ch with
      | true => exact rkey_choice w y g r x h b h1 hf hc
      | false =>
        by_cases h13 : b.toNat = 13
        · exact rkey_enter w y g r x h b hf hc h13
        · exact rkey_letter w y g r x h b h1 hf hc h13
    · exact rkey_level w y g r x h b h1 hf
end Go.Proofs.YtkjahokffpihmaaDoor
