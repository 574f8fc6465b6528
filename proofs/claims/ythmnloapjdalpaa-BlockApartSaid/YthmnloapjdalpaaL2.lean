/- The law's sector and made. -/
import Derived.Test.YthmnloapjdalpaaL1
import Derived.Test.YthmnloapjdalpaaW15
namespace Go.Proofs.Ythmnloapjdalpaa
open Go.RowKit
set_option linter.unusedVariables false
set_option linter.unusedSimpArgs false
/-- A call, as the law has it. -/
structure OpD where
  on : Int
  kind : Int
  a : Int
  b : Int
  c : UInt8
  s : ByteArray
  ch : List Int
def sectorT (s : ByteArray) (c : UInt8) : ByteArray := if 128 < s.size then s else s ++ (allB c).extract s.size 128
theorem allB_size (c : UInt8) : (allB c).size = 128 := bs_size _ _ _
theorem sectorT_size (s : ByteArray) (c : UInt8) (h : s.size ≤ maxLen) : (sectorT s c).size ≤ maxLen := by
  unfold sectorT
  split
  · exact h
  · rw [ByteArray.size_append, ByteArray.size_extract, allB_size]
    simp only [maxLen]
    omega
set_option maxRecDepth 100000 in
theorem sector_any (v0 v1 v2 v3 v6 : Value) (c : UInt8) (s : ByteArray) (hs : s.size ≤ maxLen) (w : World) : Calls Try.prog 86 #[.agg #[v0, v1, v2, v3, .int .u8 (c.toNat : Int), .string s, v6]] w fun e w' => e = .returned (.string (sectorT s c)) ∧ Fr [] w w' := by
  have hf0 : Fr [] w (w.alloc (.cells #[v0, v1, v2, v3, .int .u8 (c.toNat : Int), .string s, v6] 94)) := (Fr.refl [] w).alloc _
  have hA := Lib.hid (fun W => all_any c W)
  have HF := Lib.hid hf0
  simp only [maxLen] at hs
  by_cases h1 : 128 < s.size
  · have h1' : (128 : Int) < (s.size : Int) := by omega
    have E : Hid (sectorT s c = s) := Lib.hid (if_pos h1)
    generalize sectorT s c = V at *
    go_enter Try.func86, Try.ntmps86
    go_wp2
    go_ret
    exact ⟨ret_str E.out.symm, HF.out⟩
  · have h1' : ¬ (128 : Int) < (s.size : Int) := by omega
    have hsz := allB_size c
    have h3 : ((s.size : Nat) : Int) ≤ ((allB c).size : Int) := by omega
    have E : Hid (sectorT s c = s ++ (allB c).extract s.size 128) := Lib.hid (if_neg h1)
    have e2 : ((allB c).extract s.size 128).size = 128 - s.size := by rw [ByteArray.size_extract, hsz]; omega
    have h4 : ¬ 9223372036854775807 < s.size + ((allB c).extract s.size 128).size := by omega
    clear e2
    generalize sectorT s c = V at *
    generalize allB c = X at *
    generalize hY : X.extract s.size 128 = Y at *
    have HC := Lib.hid (show ∀ W, Fr [] (w.alloc (.cells #[v0, v1, v2, v3, .int .u8 (c.toNat : Int), .string s, v6] 94)) W → W.cell? ⟨w.heap.size, 5, none⟩ = some (.string s) ∧ W.cell? ⟨w.heap.size, 4, none⟩ = some (.int .u8 (c.toNat : Int)) from
      fun W hf => ⟨hf.cell_some ((Blk.new w 94 #[v0, v1, v2, v3, .int .u8 (c.toNat : Int), .string s, v6]).cell 5) (by simp), hf.cell_some ((Blk.new w 94 #[v0, v1, v2, v3, .int .u8 (c.toNat : Int), .string s, v6]).cell 4) (by simp)⟩)
    have k0 := HC.out _ ((Fr.refl [] _).drew)
    have hcut : ∀ wx, (Instr.slice 9 (.string X) (some (.int .i64 (s.size : Int))) none none).run Try.prog wx = .ok (.string Y) wx := fun wx => by
      rw [run_slice_string_from_if (P := Try.prog) wx 9 X .i64 _ Try.underlying9, if_pos (by omega)]
      simp [← hY, hsz]
    go_enter Try.func86, Try.ntmps86
    go_wp2_with fail
    go_region_held3 (fun W => W.cell? ⟨w.heap.size, 5, none⟩ = some (.string s) ∧ W.cell? ⟨w.heap.size, 4, none⟩ = some (.int .u8 (c.toNat : Int)))
      (first | exact k0 | exact k1 | go_keep) (first
      | (go_at_call 88; refine (hA.out _).mono ?_; rintro e w2 ⟨rfl, hf2⟩; have k1 := HC.out _ ((Fr.refl [] _).drew.trans hf2)))
    go_wp2_with fail
    go_ret
    exact ⟨ret_str E.out.symm, HF.out.drew.trans hf2⟩
end Go.Proofs.Ythmnloapjdalpaa
