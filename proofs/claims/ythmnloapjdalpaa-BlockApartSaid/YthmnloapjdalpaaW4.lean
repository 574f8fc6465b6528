/- The program's disk: New. -/
import Derived.Test.YthmnloapjdalpaaW3
import Derived.Outline
namespace Go.Proofs.Ythmnloapjdalpaa
open Go.RowKit
set_option linter.unusedVariables false
set_option linter.unusedSimpArgs false
theorem empty_of {t : ByteArray} (h : t.size = 0) : t = ⟨#[]⟩ := by
  refine ba_ext' (by rw [h]; rfl) fun i hi => ?_
  omega
theorem tl_ne {t : ByteArray} (h : ¬ t.size = 0) : ¬ t.toList = [] := by
  rw [ByteArray.toList_eq]
  intro e
  exact h (by have : t.size = t.data.toList.length := rfl; rw [this, e]; rfl)
theorem tl_em {t : ByteArray} (h : ¬ t.size = 0) : t.toList.isEmpty = false := by
  cases h1 : t.toList with
  | nil => exact absurd h1 (tl_ne h)
  | cons _ _ => rfl
theorem newE_bad {t : ByteArray} (h : newE t ≠ 0) : newE t = 70 ∧ (t.size = 0 ∨ t.size % 128 ≠ 0 ∨ 524288 < t.size) := by
  unfold newE at h ⊢
  split at h
  · rename_i h1
    rw [if_pos h1]
    exact ⟨rfl, h1⟩
  · exact absurd rfl h
theorem newE_ok {t : ByteArray} (h : newE t = 0) : ¬ t.size = 0 ∧ t.size % 128 = 0 ∧ t.size ≤ 524288 := by
  unfold newE at h
  split at h
  · cases h
  · omega
set_option maxRecDepth 100000 in
theorem New_bad (t : ByteArray) (w : World) (hs : t.size ≤ maxLen) (h : newE t ≠ 0) : Calls Try.prog 22 #[.string t] w fun e w' => e = .returned (.tuple #[.pointer none, .int .i64 70]) ∧ w = w' := by
  obtain ⟨-, h1⟩ := newE_bad h
  clear h
  simp only [maxLen] at hs
  by_cases h0 : t.size = 0
  · obtain rfl := empty_of h0
    clear h1 h0 hs
    go_enter Try.func22, Try.ntmps22
    go_wp2
    go_ret2
    exact ⟨rfl, rfl⟩
  · have hnl := tl_ne h0
    have hne := tl_em h0
    by_cases h2 : t.size % 128 = 0
    · have h3 : (524288 : Int) < (t.size : Int) := by omega
      have h4 : (t.size : Int) % 128 = 0 := by omega
      clear h1 h2
      go_enter Try.func22, Try.ntmps22
      go_wp2
      go_ret2
      exact ⟨rfl, rfl⟩
    · have h4 : ¬ (t.size : Int) % 128 = 0 := by omega
      clear h1 h2
      go_enter Try.func22, Try.ntmps22
      go_wp2
      go_ret2
      exact ⟨rfl, rfl⟩
def NewP (w : World) (t : ByteArray) (e : Ending) (w' : World) : Prop := ∃ p g m, e = .returned (.tuple #[ptr p, .int .i64 0]) ∧ DiskAt w' p g m (newD t) ∧ Fr [] w w' ∧ w.heap.size ≤ p ∧ w.heap.size ≤ g ∧ w.heap.size ≤ m
set_option maxRecDepth 100000 in
theorem New_ok (t : ByteArray) (w : World) (h : newE t = 0) : Calls Try.prog 22 #[.string t] w (NewP w t) := by
  obtain ⟨h0, h2, h5⟩ := newE_ok h
  have hok := newD_ok h
  have hsz := newD_size h
  have hcv := run_bytes_of_string (P := Try.prog) w 9 30 5 t Try.underlying9 Try.underlying30 Try.underlying5
  obtain ⟨C, hC⟩ : ∃ C, grownCap w t.size 0 5 = C := ⟨_, rfl⟩
  have hC1 : t.size ≤ C := by rw [← hC]; exact grownCap_ge ..
  have hC2 : C ≤ maxLen := by rw [← hC]; exact grownCap_le_maxLen w _ _ _ (by simp only [maxLen]; omega)
  rw [hC] at hcv
  have hwb := Wb.made w t C (at8 t) (fun i hi => at8_get hi)
  have hnl := tl_ne h0
  have hne := tl_em h0
  have h4 : (t.size : Int) % 128 = 0 := by omega
  have h3 : ¬ (524288 : Int) < (t.size : Int) := by omega
  have Hok := Lib.hid hok
  have Hsz := Lib.hid hsz
  have HC := Lib.hid (show t.size ≤ C ∧ C ≤ maxLen from ⟨hC1, hC2⟩)
  generalize bytesRow t C = R at *
  have HW := Lib.hid hwb
  have hmm := @run_makeMap Try.prog
  clear hwb hC hok hsz hC1 hC2 h0 h2 h5 h
  go_enter Try.func22, Try.ntmps22
  go_wp2
  go_ret2
  have hf : Fr [] w (((w.alloc (Obj.cells R 5 (R.size, R.size + 1))).alloc (Obj.map #[] 0)).alloc
        (Obj.cells #[Value.slice (some { block := w.heap.size, off := 0 }) t.size C, Value.map (some (w.heap.size + 1)), Value.int IntKind.i64 0, Value.slice none 0 0, Value.bool false] 110)).drew := ((((Fr.refl [] w).alloc _).alloc _).alloc _).drew
  have hu := UMap.made (w := w.alloc (Obj.cells R 5 (R.size, R.size + 1))) (n := (newD t).n) Hok.out.n2
  have hb := Blk.new ((w.alloc (Obj.cells R 5 (R.size, R.size + 1))).alloc (Obj.map #[] 0)) 110 #[Value.slice (some { block := w.heap.size, off := 0 }) t.size C, Value.map (some (w.heap.size + 1)), Value.int IntKind.i64 0, Value.slice none 0 0, Value.bool false]
  rw [World.size_alloc] at hu
  rw [World.size_alloc, World.size_alloc] at hb
  refine ⟨w.heap.size + 1 + 1, w.heap.size, w.heap.size + 1, rfl, ⟨Hok.out, ⟨C, _, ?_, ?_, HC.out.2, Zs.nil _⟩, ?_, ?_⟩, hf, by omega, by omega, by omega⟩
  · rw [← Hsz.out]
    exact hb
  · have := HC.out.1
    have := Hsz.out
    omega
  · rw [← Hsz.out]
    exact HW.out.fr (S := []) ((((Fr.refl [] _).alloc _).alloc _).drew) (by simp)
  · exact hu.fr (S := []) (((Fr.refl [] _).alloc _).drew) (by simp)
end Go.Proofs.Ythmnloapjdalpaa
