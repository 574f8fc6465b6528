/- The screen cleared. -/
import Derived.Test.YtkjahokffpihmaaDoorC2
namespace Go.Proofs.YtkjahokffpihmaaDoor
open Go.RowKit
set_option linter.unusedVariables false
set_option linter.unusedSimpArgs false
set_option maxRecDepth 100000
def zScr : Array Value := (List.replicate 144 (Value.int .u8 0) ++ [Value.int .i64 0, Value.int .i64 0]).toArray
theorem zScr_size : zScr.size = 146 := by kernel_rfl
theorem zScr_at {i : Nat} (hi : i < 146) : zScr[i]? = some (if i < 144 then .int .u8 0 else .int .i64 0) := by
  unfold zScr
  rw [List.getElem?_toArray]
  by_cases h : i < 144
  · rw [if_pos h, List.getElem?_append_left (by rw [List.length_replicate]; exact h), List.getElem?_replicate, if_pos h]
  · rw [if_neg h, List.getElem?_append_right (by rw [List.length_replicate]; omega), List.length_replicate]
    rcases (by omega : i = 144 ∨ i = 145) with rfl | rfl <;> rfl
theorem zScr_one : zScr.all (·.oneCell') = true := by
  refine Array.all_eq_true_iff_forall_mem.2 fun v hv => ?_
  obtain ⟨i, hi⟩ := Array.getElem?_of_mem hv
  have := (Array.getElem?_eq_some_iff.1 hi).1
  rw [zScr_size] at this
  rw [zScr_at this] at hi
  injection hi with hi
  rw [← hi]
  split <;> rfl
theorem info68 : (Tryd.prog.info? 68).map (fun i => (i.zero, i.size)) = some (some (.agg zScr), 146) := by kernel_rfl
theorem size68 : (Tryd.prog.info? 68).map (·.size) = some zScr.size := by rw [zScr_size]; kernel_rfl
theorem size65b : (Tryd.prog.info? 65).map (·.size) = some blanksC.size := by kernel_rfl
theorem blanksC_size : blanksC.size = 24 := by kernel_rfl
theorem blanksC_one : blanksC.all (·.oneCell') = true := by kernel_rfl
theorem blanksC_at {i : Nat} (hi : i < 24) : blanksC.toList[i]? = some (.int .u8 32) := by
  unfold blanksC
  rw [Array.getElem?_toList, Array.getElem?_replicate, if_pos hi]
/-- A screen of which the first k rows are blanks, the others noughts. -/
def zs (k : Nat) : Sc := ⟨fun p => if p < k * 24 then 32 else 0, 0, 0⟩
theorem lay_zScr (H : Array Value) (s : Sc) : lay (scells H s) 6 zScr.toList = scells H (zs 0) := by
  have hl : zScr.toList.length = 146 := by rw [Array.length_toList, zScr_size]
  refine scells_lay (by rw [hl]; omega) (fun j hj => ?_) (fun j hj h => ?_)
  · rw [hl] at hj
    rw [Array.getElem?_toList, zScr_at hj]
    congr 1
    unfold scell zs
    by_cases h1 : j < 144
    · rw [if_pos h1, if_neg (by omega : ¬ 6 + j < 6), if_pos (by omega : 6 + j < 150)]
      simp
    · rw [if_neg h1, if_neg (by omega : ¬ 6 + j < 6), if_neg (by omega : ¬ 6 + j < 150)]
      split <;> rfl
  · rw [hl] at h
    have h6 : j < 6 := by omega
    unfold scell
    rw [if_pos h6, if_pos h6]
/-- A row of blanks laid into a screen. -/
def sblank (s : Sc) (i : Nat) : Sc := ⟨fun p => if i * 24 ≤ p ∧ p < i * 24 + 24 then 32 else s.g p, s.ln, s.cl⟩
theorem lay_blanks (H : Array Value) (s : Sc) {i : Nat} (hi : i < 6) : lay (scells H s) (6 + i * 24) blanksC.toList = scells H (sblank s i) := by
  have hl : blanksC.toList.length = 24 := by rw [Array.length_toList, blanksC_size]
  refine scells_lay (by rw [hl]; omega) (fun j hj => ?_) (fun j hj h => ?_)
  · rw [hl] at hj
    rw [blanksC_at hj]
    congr 1
    unfold scell sblank
    rw [if_neg (by omega), if_pos (by omega)]
    simp only
    rw [if_pos (by omega)]
    rfl
  · rw [hl] at h
    unfold scell sblank
    simp only
    by_cases h6 : j < 6
    · rw [if_pos h6, if_pos h6]
    · by_cases h7 : j < 150
      · rw [if_neg h6, if_pos h7, if_neg h6, if_pos h7, if_neg (by omega)]
      · rw [if_neg h6, if_neg h7, if_neg h6, if_neg h7]
theorem sblank_zs (k : Nat) : sblank (zs k) k = zs (k + 1) := by
  unfold sblank zs
  simp only [Sc.mk.injEq, and_true]
  funext p
  by_cases h1 : p < k * 24
  · rw [if_neg (by omega), if_pos h1, if_pos (by omega)]
  · by_cases h2 : p < (k + 1) * 24
    · rw [if_pos (by omega), if_pos h2]
    · rw [if_neg (by omega), if_neg h1, if_neg h2]
theorem scells_zs6 (H : Array Value) : scells H (zs 6) = scells H sclear := by
  refine scells_ext (scells_size _ _) fun j hj => ?_
  rw [scells_at, if_pos hj]
  congr 1
  unfold scell zs sclear
  simp only
  by_cases h6 : j < 6
  · rw [if_pos h6, if_pos h6]
  · by_cases h7 : j < 150
    · rw [if_neg h6, if_pos h7, if_neg h6, if_pos h7, if_pos (by omega)]
    · rw [if_neg h6, if_neg h7, if_neg h6, if_neg h7]
def ScP (w : World) (c : Nat) (H : Array Value) (s : Sc) (e : Ending) (w' : World) : Prop := e = .returned (.tuple #[]) ∧ Blk w' c 70 (scells H s) ∧ Fr [c] w w'
set_option maxHeartbeats 2000000 in
theorem sclear_any (w : World) (c : Nat) (H : Array Value) (s : Sc) (h : Blk w c 70 (scells H s)) : Calls Tryd.prog 48 #[sptr c] w (ScP w c H sclear) := by
  obtain ⟨hz, -⟩ := zero_of_info info68
  have hs := size68
  have h1 := zScr_one
  have HL := Lib.hid (lay_zScr H s)
  have hf : 6 + zScr.size ≤ (scells H s).size := by rw [zScr_size, scells_size]; omega
  generalize zScr = Z at *
  unfold ScP
  go_enter Tryd.func48, Tryd.ntmps48
  go_wp2_with (first
    | (refine wpList_store_blk rfl 68 (.tmp 5) (.tmp 4) rfl rfl c 6 Z rfl rfl 70 (scells H s) h hf hs h1 ?_; intro w1 b1 f1; rw [HL.out] at b1; clear h)
    | fail)
  have hcl := f1.size
  go_loopg [2, 6] 6 (fun gg u i wr => ∃ k : Nat, k + gg = 6 ∧ i = .int .i64 k ∧ Blk wr c 70 (scells H (zs k)) ∧ Fr [c] w wr)
  case atStart => exact ⟨0, by omega, rfl, b1, f1⟩
  case round =>
    obtain ⟨k, hk, rfl, hb, hf1⟩ := hrel
    have Hk := Lib.hid hk
    have HB := Lib.hid hb
    have HF := Lib.hid hf1
    by_cases hlt : k < 6
    · have hlt' : (k : Int) < 6 := by omega
      have hk0 : (0 : Int) ≤ (k : Int) := by omega
      have hbz := blanksC_size
      have hb1 := blanksC_one
      have hb2 : ∀ (W : World), 6 + k * 24 + blanksC.size ≤ (scells H (zs k)).size := fun _ => by rw [blanksC_size, scells_size]; omega
      have HL2 := Lib.hid (lay_blanks H (zs k) hlt)
      have HC := Lib.hid (blanks_any wr.drew)
      have HX : Hid (∀ W, Fr [] wr.drew W → Blk W c 70 (scells H (zs k))) := Lib.hid fun W hf => (hb.drew).fr hf (by simp)
      have hsz : 6 + k * 24 + blanksC.size ≤ (scells H (zs k)).size := by rw [blanksC_size, scells_size]; omega
      generalize blanksC = BC at *
      clear hb hf1 hk b1 f1 hb2
      go_wp2_with fail
      have hbs : BC.size = 24 := hbz
      clear hbz
      go_region_law (first
        | (go_simp; go_at_call 36; refine HC.out.mono ?_; rintro e w2 ⟨rfl, hf2⟩; obtain ⟨w3, e3, b3, f3⟩ := run_storeCells_blk (P := Tryd.prog) (HX.out _ hf2) hsz hb1)
        | fail)
      rw [HL2.out, sblank_zs] at b3
      have HN := Lib.hid (show Blk w3 c 70 (scells H (zs (k + 1))) ∧ Fr [c] w w3 from ⟨b3, (HF.out.drew.step hf2 (by simp)).trans f3⟩)
      clear b3 f3 e3 hf2
      go_wp2_with fail
      go_roundg (6 - (k + 1))
      case measure => have := Hk.out; omega
      case rel => exact ⟨k + 1, by have := Hk.out; omega, by go_num, HN.out.1, HN.out.2⟩
    · obtain rfl : k = 6 := by omega
      rw [scells_zs6] at hb
      have HN := Lib.hid hb
      clear hb hf1 b1 f1 hk
      go_wp2_with fail
      go_end0
      exact ⟨rfl, HN.out, HF.out⟩
end Go.Proofs.YtkjahokffpihmaaDoor
