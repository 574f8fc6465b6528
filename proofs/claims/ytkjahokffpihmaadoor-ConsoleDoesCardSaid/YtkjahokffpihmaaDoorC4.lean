/- The screen: a line feed. -/
import Derived.Test.YtkjahokffpihmaaDoorC3
namespace Go.Proofs.YtkjahokffpihmaaDoor
open Go.RowKit
set_option linter.unusedVariables false
set_option linter.unusedSimpArgs false
set_option maxRecDepth 100000
theorem sc_at {w : World} {c : Nat} {H : Array Value} {s : Sc} (h : Blk w c 70 (scells H s)) {i : Nat} (hi : i < 152) : w.cell? ⟨c, i, none⟩ = some (scell H s i) := by rw [h.cell, scells_at, if_pos hi]
theorem sc_ln {w : World} {c : Nat} {H : Array Value} {s : Sc} (h : Blk w c 70 (scells H s)) : w.cell? ⟨c, 150, none⟩ = some (.int .i64 (s.ln : Int)) := sc_at h (by omega)
theorem sc_cl {w : World} {c : Nat} {H : Array Value} {s : Sc} (h : Blk w c 70 (scells H s)) : w.cell? ⟨c, 151, none⟩ = some (.int .i64 (s.cl : Int)) := sc_at h (by omega)
theorem sc_byte {w : World} {c : Nat} {H : Array Value} {s : Sc} (h : Blk w c 70 (scells H s)) {p : Nat} (hp : p < 144) : w.cell? ⟨c, 6 + p, none⟩ = some (.int .u8 ((s.g p).toNat : Int)) := by
  rw [sc_at h (by omega), scell_mid H s (by omega) (by omega), show 6 + p - 6 = p by omega]
theorem sc_head {w : World} {c : Nat} {H : Array Value} {s : Sc} (h : Blk w c 70 (scells H s)) {i : Nat} (hi : i < 6) : w.cell? ⟨c, i, none⟩ = some (H.getD i undef) := by
  rw [sc_at h (by omega)]
  unfold scell
  rw [if_pos hi]
theorem setln {w : World} {c : Nat} {H : Array Value} {s : Sc} (h : Blk w c 70 (scells H s)) (n : Nat) : Blk (w.setCell ⟨c, 150, none⟩ (.int .i64 (n : Int))) c 70 (scells H ⟨s.g, n, s.cl⟩) := by
  rw [← scells_ln]; exact h.set_ _ _
theorem setcl {w : World} {c : Nat} {H : Array Value} {s : Sc} (h : Blk w c 70 (scells H s)) (n : Nat) : Blk (w.setCell ⟨c, 151, none⟩ (.int .i64 (n : Int))) c 70 (scells H ⟨s.g, s.ln, n⟩) := by
  rw [← scells_cl]; exact h.set_ _ _
theorem setbyte {w : World} {c : Nat} {H : Array Value} {s : Sc} (h : Blk w c 70 (scells H s)) {p : Nat} (hp : p < 144) (b : UInt8) : Blk (w.setCell ⟨c, 6 + p, none⟩ (.int .u8 (b.toNat : Int))) c 70 (scells H ⟨fun q => if q = p then b else s.g q, s.ln, s.cl⟩) := by
  rw [← scells_byte _ _ _ hp]; exact h.set_ _ _
theorem sethead {w : World} {c : Nat} {H : Array Value} {s : Sc} (h : Blk w c 70 (scells H s)) (hH : H.size = 6) {i : Nat} (hi : i < 6) (v : Value) : Blk (w.setCell ⟨c, i, none⟩ v) c 70 (scells (H.setIfInBounds i v) s) := by
  rw [← scells_head H hH s i hi]; exact h.set_ _ _
/-- Five rows go up. -/
def sup (s : Sc) : Sc := ⟨fun p => if p < 120 then s.g (p + 24) else s.g p, s.ln, s.cl⟩
theorem lay_up (H : Array Value) (s : Sc) : lay (scells H s) 6 (((scells H s).toList.drop 30).take (5 * 24)) = scells H (sup s) := by
  have hl : (((scells H s).toList.drop 30).take (5 * 24)).length = 120 := by rw [List.length_take, List.length_drop, Array.length_toList, scells_size]; omega
  have hat : ∀ j, j < 120 → (((scells H s).toList.drop 30).take (5 * 24))[j]? = some (scell H s (30 + j)) := fun j hj => by
    rw [List.getElem?_take, if_pos (by omega), List.getElem?_drop, Array.getElem?_toList, scells_at, if_pos (by omega)]
  generalize ((scells H s).toList.drop 30).take (5 * 24) = vs at *
  refine scells_lay (by rw [hl]; omega) (fun j hj => ?_) (fun j hj h => ?_)
  · rw [hl] at hj
    rw [hat j hj, scell_mid H s (by omega) (by omega), scell_mid H (sup s) (by omega) (by omega)]
    unfold sup
    simp only
    rw [if_pos (show 6 + j - 6 < 120 by omega), show 30 + j - 6 = 6 + j - 6 + 24 by omega]
  · rw [hl] at h
    by_cases h6 : j < 6
    · rw [scell_lo H _ h6, scell_lo H _ h6]
    · by_cases h7 : j < 150
      · rw [scell_mid H _ (by omega) h7, scell_mid H _ (by omega) h7]
        unfold sup
        simp only
        rw [if_neg (show ¬ j - 6 < 120 by omega)]
      · rcases (by omega : j = 150 ∨ j = 151) with rfl | rfl <;> rfl
theorem sfeed_5 (H : Array Value) (s : Sc) (h : s.ln = 5) : scells H (sblank (sup ⟨s.g, 5, 0⟩) 5) = scells H (sfeed s) := by
  unfold sfeed
  rw [if_neg (show ¬ s.ln < 5 by omega)]
  refine scells_congr H (fun p hp => ?_) rfl rfl
  unfold sblank sup
  simp only
  by_cases h8 : p < 120
  · rw [if_neg (show ¬ (5 * 24 ≤ p ∧ p < 5 * 24 + 24) by omega), if_pos h8, if_pos h8]
  · rw [if_pos (show 5 * 24 ≤ p ∧ p < 5 * 24 + 24 by omega), if_neg h8]
theorem scells_one {H : Array Value} (hH : ∀ v ∈ H, v.oneCell' = true) (h6 : H.size = 6) (s : Sc) (i : Nat) (v : Value) (h : (scells H s)[i]? = some v) : v.oneCell' = true := by
  rw [scells_at] at h
  split at h
  · injection h with h
    rw [← h]
    unfold scell
    split
    · next hi => exact hH _ (by simp [Array.getD, h6, hi])
    · split
      · rfl
      · split <;> rfl
  · cases h
/-- What stands ahead of the rows: six cells. -/
structure Hd (H : Array Value) : Prop where
  n : H.size = 6
  one : ∀ v ∈ H, v.oneCell' = true
set_option maxHeartbeats 400000 in
theorem sfeed_any (w : World) (c : Nat) (H : Array Value) (hH : Hd H) (s : Sc) (hs : s.Ok) (h : Blk w c 70 (scells H s)) : Calls Tryd.prog 68 #[sptr c] w (ScP w c H (sfeed s)) := by
  have c150 := sc_ln h
  have c151 := sc_cl h
  have f150 := h.frozen 150
  have f151 := h.frozen 151
  have hl := hs.l
  unfold ScP
  by_cases h5 : s.ln < 5
  · have e1 : (s.ln : Int) + 1 = ((s.ln + 1 : Nat) : Int) := by omega
    have HR := Lib.hid (show Blk ((w.setCell ⟨c, 151, none⟩ (.int .i64 0)).setCell ⟨c, 150, none⟩ (.int .i64 ((s.ln : Int) + 1))) c 70 (scells H (sfeed s)) ∧ Fr [c] w ((w.setCell ⟨c, 151, none⟩ (.int .i64 0)).setCell ⟨c, 150, none⟩ (.int .i64 ((s.ln : Int) + 1))) from ⟨by
      rw [e1]
      have := setln (setcl h 0) (s.ln + 1)
      unfold sfeed
      rw [if_pos h5]
      exact this, ((Fr.refl [c] w).setCell (by simp) _).setCell (by simp) _⟩)
    have hlt : (s.ln : Int) + 1 < 6 := by omega
    clear h e1 hs
    generalize s.ln = L at *
    go_enter Tryd.func68, Tryd.ntmps68
    go_wp2_with fail
    refine bodyPost_ret (results_none rfl _ _ _) rfl ?_
    exact ⟨rfl, HR.out.1, HR.out.2⟩
  · have e5 : s.ln = 5 := by omega
    rw [e5] at c150
    have HB := Lib.hid (show ∀ u, Blk (((w.setCell ⟨c, 151, none⟩ (.int .i64 0)).setCell ⟨c, 150, none⟩ (.int .i64 6)).setCell ⟨c, 150, none⟩ (.int .i64 5)) c 70 (scells H ⟨s.g, 5, 0⟩) ∧ Fr [c] w (((w.setCell ⟨c, 151, none⟩ (.int .i64 0)).setCell ⟨c, 150, none⟩ (.int .i64 6)).setCell ⟨c, 150, none⟩ (.int .i64 5)) from fun _ : Unit => ⟨setln (setln (setcl h 0) 6) 5, (((Fr.refl [c] w).setCell (by simp) _).setCell (by simp) _).setCell (by simp) _⟩)
    have HL := Lib.hid (sfeed_5 H s e5)
    have HU := Lib.hid (lay_up H ⟨s.g, 5, 0⟩)
    have HLB := Lib.hid (lay_blanks H (sup ⟨s.g, 5, 0⟩) (i := 5) (by omega))
    have hone := Lib.hid (scells_one hH.one hH.n ⟨s.g, 5, 0⟩)
    have hln : Hid ((sup (⟨s.g, 5, 0⟩ : Sc)).ln = 5) := Lib.hid rfl
    have hz5 : (scells H ⟨s.g, 5, 0⟩).size = 152 := scells_size _ _
    have hz6 : (scells H (sup ⟨s.g, 5, 0⟩)).size = 152 := scells_size _ _
    clear h hs e5 hl h5
    generalize (⟨s.g, 5, 0⟩ : Sc) = s5 at *
    go_enter Tryd.func68, Tryd.ntmps68
    go_wp2_with fail
    obtain ⟨hb, hf⟩ := HB.out ()
    generalize ((w.setCell ⟨c, 151, none⟩ (.int .i64 0)).setCell ⟨c, 150, none⟩ (.int .i64 6)).setCell ⟨c, 150, none⟩ (.int .i64 5) = W at *
    clear c150 c151 f150 f151
    have HF := Lib.hid hf
    clear hf HB
    go_region_law (first
      | (refine step_copy_blk rfl (.tmp 23) (.tmp 27) 106 106 rfl 65 70 24 c 6 30 6 6 5 5 5 (scells H s5) Tryd.underlying106 (by kernel_rfl) (by go_simp) (by go_simp) rfl hb.drew (by rw [hz5]; omega) (by rw [hz5]; omega) hone.out ?_; intro w1 b1 f1; rw [HU.out] at b1)
      | fail)
    have HF1 := Lib.hid (HF.out.drew.trans f1)
    have k1 : w1.cell? ⟨c, 150, none⟩ = some (.int .i64 5) := by
      have := sc_ln b1
      rw [show (sup s5).ln = 5 from hln.out] at this
      exact this
    have HC := Lib.hid (blanks_any w1.drew)
    have HX : Hid (∀ W, Fr [] w1.drew W → Blk W c 70 (scells H (sup s5)) ∧ W.cell? ⟨c, 150, none⟩ = some (.int .i64 5)) := Lib.hid fun W hf => ⟨(b1.drew).fr hf (by simp), hf.cell_some (show w1.drew.cell? _ = _ from k1) (by simp)⟩
    have hsz : 6 + 5 * 24 + blanksC.toList.length ≤ (scells H (sup s5)).size := by rw [Array.length_toList, blanksC_size, hz6]; omega
    have hz6' : 126 + 24 ≤ (scells H (sup s5)).size := by rw [hz6]; omega
    have hi65 : (Tryd.prog.info? 65).map (·.size) = some 24 := by kernel_rfl
    have hbs : blanksC.size = 24 := blanksC_size
    have hb1 : ∀ v ∈ blanksC.toList, v.oneCell' = true := fun v hv => (Array.all_eq_true_iff_forall_mem.1 blanksC_one) v (by simpa using hv)
    generalize blanksC = BC at *
    clear b1 f1 hb hz5 hz6
    go_wp2_with fail
    go_region_held3 (fun W => W.cell? ⟨c, 150, none⟩ = some (.int .i64 5)) (first | exact k1 | exact k3 | exact kk) (first
      | (go_at_call 36; refine HC.out.mono ?_; rintro e w2 ⟨rfl, hf2⟩; obtain ⟨hb2, kk⟩ := HX.out _ hf2; obtain ⟨b3, f3⟩ := hb2.setCells BC.toList 126 hsz; have ht := hb2.there hz6'; have k3 : (w2.setCells c 126 BC.toList).cell? ⟨c, 150, none⟩ = some (.int .i64 5) := (by have k9 := sc_ln (HLB.out ▸ b3); rw [show (sblank (sup s5) 5).ln = 5 from hln.out] at k9; exact k9))
      | fail)
    have b4 : Blk _ c 70 (scells H (sfeed s)) := HL.out ▸ HLB.out ▸ b3
    have HN := Lib.hid (And.intro b4 ((HF1.out.drew.step hf2 (by simp)).trans f3))
    clear b3 b4 f3 hf2 hb2 kk k3
    go_wp2_with fail
    go_end0
    exact ⟨rfl, HN.out.1, HN.out.2⟩
end Go.Proofs.YtkjahokffpihmaaDoor
