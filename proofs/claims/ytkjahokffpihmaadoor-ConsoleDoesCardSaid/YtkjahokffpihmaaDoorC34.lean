/- ConsoleDoes: do the two show the same? -/
import Derived.Test.YtkjahokffpihmaaDoorC33
namespace Go.Proofs.YtkjahokffpihmaaDoor
open Go.RowKit
set_option linter.unusedVariables false
set_option linter.unusedSimpArgs false
set_option maxRecDepth 100000
set_option maxHeartbeats 4000000 in
theorem shows_any (w : World) (c k y g r : Nat) (x : Con) (hp : ConAt w c k x) (hr : RAt w y x g r) : Calls Tryd.prog 31 #[ptr c, ptr y] w fun e w' => e = .returned (.bool true) ∧ Fr [] w w' := by
  obtain ⟨f, hf⟩ : ∃ f, x.fo = f := ⟨_, rfl⟩
  obtain ⟨bn, hbn⟩ : ∃ bn, banner x = bn := ⟨_, rfl⟩
  obtain ⟨l, hl⟩ : ∃ l, screenL x.sc = l := ⟨_, rfl⟩
  have hl6 : l.length = 6 := by rw [← hl]; exact screen_len _
  have HFc : Hid (∀ W, Fr [] w W → Calls Tryd.prog 17 #[ptr c] W fun e w' => e = .returned (.int .i64 f) ∧ W = w') := Lib.hid fun W h => by
    have := focus_any W c k x (hp.to h)
    rw [hf] at this
    exact this
  have HBc : Hid (∀ W, Fr [] w W → Calls Tryd.prog 20 #[ptr c] W fun e w' => e = .returned (.string bn) ∧ W = w') := Lib.hid fun W h => by
    have := banner_any W c k x (hp.to h)
    rw [hbn] at this
    exact this
  have HBr : Hid (∀ W, Fr [] w W → Calls Tryd.prog 47 #[ptr y] W fun e w' => e = .returned (.string bn) ∧ Fr [] W w') := Lib.hid fun W h => by
    have := rbanner_any W y g r x (hr.to h)
    rw [hbn] at this
    exact this
  have HSc : Hid (∀ W, Fr [] w W → Calls Tryd.prog 15 #[ptr c] W fun e w' => ∃ gl cap, e = .returned (.slice (some ⟨gl, 0, none⟩) 6 cap) ∧ KeysAt w' gl l ∧ Fr [] W w' ∧ W.heap.size ≤ gl) := Lib.hid fun W h => (screen_any W c k x (hp.to h)).mono fun e w' ⟨gl, cap, he, _, _, hk, hff, hg⟩ => ⟨gl, cap, by rw [he, screen_len], by rw [← hl]; exact hk, hff, hg⟩
  obtain ⟨⟨ck, h1, ⟨⟨cr, hb, h2⟩, hkr, oks⟩⟩, hk2, ok⟩ := hr
  rw [hl] at hkr
  have HSm : Hid (∀ W gl cap, KeysAt W gl l → Fr [] w W → Calls Tryd.prog 14 #[.slice (some ⟨gl, 0, none⟩) 6 cap, .slice (some ⟨r, 0, none⟩) 6 cr] W fun e w' => e = .returned (.bool true) ∧ Fr [] W w') := Lib.hid fun W gl cap hk h => by
    have := same_any W gl 0 cap r 0 cr l l hk.strs (hkr.fr h (by simp)).strs (by rw [hl6]; exact mx_le (by omega)) (by rw [hl6]; exact mx_le (by omega))
    rw [hl6] at this
    unfold SameP at this
    rw [decide_eq_true rfl] at this
    exact this
  have c2 := hb.cell 2
  have c6 := hb.cell 6
  simp at c2 c6
  rw [hf] at c2
  have HKE : Hid (∀ W, Fr [] w W → W.cell? ⟨y, 2, none⟩ = some (.int .i64 f) ∧ W.cell? ⟨y, 6, none⟩ = some (.slice (some ⟨r, 0, none⟩) 6 cr) ∧ Fr [] w W) := Lib.hid fun W h => ⟨h.cell_some c2 (by simp), h.cell_some c6 (by simp), h⟩
  have HL : Hid (∀ W gl, KeysAt W gl l → ∃ cs, Blk W gl 9 cs ∧ 6 ≤ cs.size) := Lib.hid fun W gl ⟨cs, hbb, hcs⟩ => ⟨cs, hbb, by
    have h5 := hcs 5 (l[5]'(by omega)) (List.getElem?_eq_getElem (by omega))
    have := (Array.getElem?_eq_some_iff.1 h5).1
    omega⟩
  clear hb hkr hk2 oks ok h1 h2 hf hbn hl hl6 hp c2
  have h00 := Fr.refl [] w
  go_enter Tryd.func31, Tryd.ntmps31
  go_wp2_with (first
    | (go_at_call 15; refine (HSc.out _ h00).mono ?_; rintro e w1 ⟨gl, cap, rfl, hk1, hf1, hg1⟩; have e6 := (HKE.out _ hf1).2.1)
    | (go_at_call 14; refine (HSm.out _ gl cap hk1 hf1).mono ?_; rintro e w2 ⟨rfl, hf2⟩))
  obtain ⟨cs0, hb0, hs0⟩ := HL.out _ _ hk1
  have HF2 := Lib.hid (hf1.trans hf2)
  have HB2 := Lib.hid (hb0.fr hf2 (by simp))
  have HG := Lib.hid hg1
  clear hk1 hf1 hf2 hb0 h00 e6 c6
  go_loopg [7] 6 (fun gg i wr => ∃ j : Nat, j + gg = 6 ∧ i = .int .i64 j ∧ Fr [] w wr ∧ ∃ cs, Blk wr gl 9 cs ∧ 6 ≤ cs.size)
  case atStart => exact ⟨0, by omega, rfl, HF2.out, cs0, HB2.out, hs0⟩
  case round =>
    obtain ⟨j, hj, rfl, hf, cs, hb, hs⟩ := hrel
    have Hj := Lib.hid hj
    have HF := Lib.hid hf
    have HB := Lib.hid hb
    by_cases hj6 : j < 6
    · have hj6' : (j : Int) < 6 := by omega
      have hj0 : (0 : Int) ≤ (j : Int) := by omega
      have q := hb.cell j
      obtain ⟨v0, hv0⟩ : ∃ v0, cs[j]? = some v0 := ⟨_, Array.getElem?_eq_getElem (by omega)⟩
      rw [hv0] at q
      have qf := hb.frozen j
      have HW : Hid (Fr [] w (wr.setCell ⟨gl, j, none⟩ (.string ⟨#[111, 118, 101, 114]⟩))) := Lib.hid (hf.setCell (.inr HG.out) _)
      have HW2 : Hid (∃ cs, Blk (wr.setCell ⟨gl, j, none⟩ (.string ⟨#[111, 118, 101, 114]⟩)) gl 9 cs ∧ 6 ≤ cs.size) := Lib.hid ⟨_, hb.set_ j _, by simpa using hs⟩
      clear hj hf hb hv0 hs HB
      go_wp2_with fail
      go_roundg (6 - (j + 1))
      case measure => have := Hj.out; omega
      case rel => exact ⟨j + 1, by have := Hj.out; omega, by go_num, HW.out, HW2.out⟩
    · have hj6' : ¬ (j : Int) < 6 := by omega
      have kk0 := HKE.out _ hf.drew
      clear hj hb hj6
      go_wp2_with fail
      go_region_held3 (fun W => W.cell? ⟨y, 2, none⟩ = some (.int .i64 f) ∧ W.cell? ⟨y, 6, none⟩ = some (.slice (some ⟨r, 0, none⟩) 6 cr) ∧ Fr [] w W) (first | assumption | exact kk0 | exact kk) (first
        | (go_at_call 17; refine (HFc.out _ (by go_split_ands; assumption)).mono ?_; rintro e wz ⟨rfl, rfl⟩)
        | (go_at_call 20; refine (HBc.out _ (by go_split_ands; assumption)).mono ?_; rintro e wz ⟨rfl, rfl⟩)
        | (go_at_call 47; refine (HBr.out _ (by go_split_ands; assumption)).mono ?_; rintro e wz ⟨rfl, hfz⟩; have kk := HKE.out _ ((by go_split_ands; assumption : Fr [] w _).trans hfz))
        | (go_at_call 15; refine (HSc.out _ (by go_split_ands; assumption)).mono ?_; rintro e wz ⟨gz, cz, rfl, hkz, hfz, -⟩; have kk := HKE.out _ ((by go_split_ands; assumption : Fr [] w _).trans hfz))
        | (go_at_call 14; refine (HSm.out _ gz cz hkz (by go_split_ands; assumption)).mono ?_; rintro e wz ⟨rfl, hfz⟩; have kk := HKE.out _ ((by go_split_ands; assumption : Fr [] w _).trans hfz)))
      go_wp2_with fail
      go_ret
      exact ⟨rfl, by go_split_ands; assumption⟩
end Go.Proofs.YtkjahokffpihmaaDoor
