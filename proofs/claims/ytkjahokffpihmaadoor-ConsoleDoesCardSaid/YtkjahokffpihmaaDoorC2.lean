/- Blanks; the screen cleared. -/
import Derived.Test.YtkjahokffpihmaaDoorC1
import Derived.Deep.RegionLaw
namespace Go.Proofs.YtkjahokffpihmaaDoor
open Go.RowKit
set_option linter.unusedVariables false
set_option linter.unusedSimpArgs false
set_option maxRecDepth 100000
abbrev ptr (p : Nat) : Value := .pointer (some ⟨p, 0, none⟩)
abbrev sptr (p : Nat) : Value := .pointer (some ⟨p, 6, none⟩)
/-- A row of which the first k bytes are blanks. -/
def blk (k : Nat) : Array Value := Array.ofFn (n := 24) fun i => .int .u8 (if i.val < k then 32 else 0)
def blanksC : Array Value := Array.replicate 24 (.int .u8 32)
theorem blk_set {k : Nat} (hk : k < 24) : (blk k).setIfInBounds k (.int .u8 32) = blk (k + 1) := by
  apply Array.ext_getElem?
  intro i
  rw [Array.getElem?_setIfInBounds]
  unfold blk
  rw [Array.getElem?_ofFn, Array.getElem?_ofFn]
  by_cases h : k = i
  · subst h
    simp [hk]
  · rw [if_neg h]
    by_cases hi : i < 24
    · simp only [hi, ↓reduceDIte]
      congr 2
      by_cases h2 : i < k
      · rw [if_pos h2, if_pos (by omega)]
      · rw [if_neg h2, if_neg (by omega)]
    · simp only [hi, ↓reduceDIte]
theorem blk_all : blk 24 = blanksC := by kernel_rfl
theorem blk_none : blk 0 = Array.replicate 24 (.int .u8 0) := by kernel_rfl
theorem blk_size (k : Nat) : (blk k).size = 24 := by simp [blk]
theorem blk_at {k i : Nat} (hi : i < 24) : (blk k)[i]? = some (.int .u8 (if i < k then 32 else 0)) := by
  unfold blk
  rw [Array.getElem?_ofFn, dif_pos hi]
theorem size65 (k : Nat) : (Tryd.prog.info? 65).map (·.size) = some (blk k).size := by rw [blk_size]; kernel_rfl
theorem one_blk (k : Nat) : (blk k).all (·.oneCell') = true := by
  refine Array.all_eq_true_iff_forall_mem.2 fun v hv => ?_
  obtain ⟨i, hi⟩ := Array.getElem?_of_mem hv
  have := (Array.getElem?_eq_some_iff.1 hi).1
  rw [blk_size] at this
  rw [blk_at this] at hi
  injection hi with hi
  rw [← hi]
  rfl
set_option maxHeartbeats 2000000 in
theorem blanks_any (w : World) : Calls Tryd.prog 36 #[] w fun e w' => e = .returned (.agg blanksC) ∧ Fr [] w w' := by
  have hz : (#[.int .u8 0, .int .u8 0, .int .u8 0, .int .u8 0, .int .u8 0, .int .u8 0, .int .u8 0, .int .u8 0, .int .u8 0, .int .u8 0, .int .u8 0, .int .u8 0, .int .u8 0, .int .u8 0, .int .u8 0, .int .u8 0, .int .u8 0, .int .u8 0, .int .u8 0, .int .u8 0, .int .u8 0, .int .u8 0, .int .u8 0, .int .u8 0] : Array Value) = blk 0 := by kernel_rfl
  have HZ := Lib.hid hz
  clear hz
  go_enter Tryd.func36, Tryd.ntmps36
  go_wp2_with fail
  rw [HZ.out]
  go_loopg [2, 3] 24 (fun gg u i wr => ∃ k : Nat, k + gg = 24 ∧ i = .int .i64 k ∧ Blk wr w.heap.size 65 (blk 0) ∧ Blk wr (w.heap.size + 1) 65 (blk k) ∧ Fr [] w wr)
  case atStart => exact ⟨0, by omega, rfl, (Blk.new w 65 _).alloc _, Blk.new' (by simp), ((Fr.refl [] w).alloc _).alloc _⟩
  case round =>
    obtain ⟨k, hk, rfl, h0, h1, hf⟩ := hrel
    have Hk := Lib.hid hk
    by_cases hlt : k < 24
    · have HF := Lib.hid (show ∀ u, Blk (wr.setCell ⟨w.heap.size + 1, k, none⟩ (.int .u8 32)) w.heap.size 65 (blk 0) ∧ Blk (wr.setCell ⟨w.heap.size + 1, k, none⟩ (.int .u8 32)) (w.heap.size + 1) 65 (blk (k + 1)) ∧ Fr [] w (wr.setCell ⟨w.heap.size + 1, k, none⟩ (.int .u8 32)) from fun _ : Unit => ⟨h0.far (by simp) _, by rw [← blk_set hlt]; exact h1.set_ k _, hf.setCell (.inr (by simp)) _⟩)
      have c1 := h1.cell k
      rw [blk_at hlt] at c1
      have f1 := h1.frozen k
      have hlt' : (k : Int) < 24 := by omega
      have hk0 : (0 : Int) ≤ (k : Int) := by omega
      clear h0 h1 hf hk
      go_wp2_with fail
      go_roundg (24 - (k + 1))
      case measure => have := Hk.out; omega
      case rel => exact ⟨k + 1, by have := Hk.out; omega, by go_num, (HF.out ()).1, (HF.out ()).2.1, (HF.out ()).2.2⟩
    · obtain rfl : k = 24 := by omega
      have z1 := size65 24
      have HA := Lib.hid blk_all
      have z2 := one_blk 24
      have z3 : (blk 24).size = (blk 0).size := by rw [blk_size, blk_size]
      have Hf := Lib.hid hf
      clear hk hf
      generalize hB : blk 24 = B at *
      generalize blk 0 = B0 at *
      clear hB
      go_wp2_with (first
        | (refine wpList_load_row rfl 65 (.tmp 1) rfl (w.heap.size + 1) rfl 65 B (0, 0) _ h1 Tryd.underlying65 rfl z1 ?_)
        | (refine wpList_store_blk rfl 65 (.tmp 0) (.tmp 9) rfl rfl w.heap.size 0 B rfl rfl 65 B0 h0 (by rw [z3]; omega) z1 z2 ?_; intro w9 b9 f9)
        | fail)
      all_goals
        rw [lay_full B0 B z3] at b9
        exact bodyPost_ret (v := .agg B) (results_cell_row Tryd.results36 _ _ w.heap.size 65 _ (0, 0) _ rfl b9 Tryd.underlying65 rfl z1) rfl ⟨by rw [HA.out], Hf.out.step f9 (fun k hk => by simp at hk; right; omega)⟩
end Go.Proofs.YtkjahokffpihmaaDoor
