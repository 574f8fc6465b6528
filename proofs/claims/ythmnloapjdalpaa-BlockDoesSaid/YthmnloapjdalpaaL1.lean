/- The law's little functions: noughts, all, place. -/
import Derived.Test.YthmnloapjdalpaaW14
import Derived.Laws.MakeOwn
namespace Go.Proofs.Ythmnloapjdalpaa
open Go.RowKit
set_option linter.unusedVariables false
set_option linter.unusedSimpArgs false
theorem made_z (n : Nat) (hn : n ≤ 524288) : ∃ Z : Array Value, n ≤ Z.size ∧ (∀ j, j < n → Z[j]? = some (.int .u8 0)) ∧ ∀ w : World, (Instr.makeSlice 30 (.int .i64 n) (.int .i64 n)).run Try.prog w = .ok (.slice (some ⟨w.heap.size, 0, none⟩) n n) (w.alloc (.cells Z 5)) := by
  obtain ⟨i0, hi0, hz0, hz1, hz2⟩ := info3 Try.info5
  refine ⟨madeCells (Value.int .u8 0).cells (n * i0.size), ?_, fun j hj => ?_, fun w => ?_⟩
  · rw [hz1]
    simp [madeCells]
  · rw [hz1]
    have h3 : (Value.int .u8 0).cells = #[.int .u8 0] := rfl
    rw [h3]
    simp [madeCells, hj, Nat.mod_one]
  · have := run_make (P := Try.prog) w 30 5 i0 _ Try.underlying30 hi0 hz0 .i64 .i64 n n (by omega) (by omega) (by rw [hz2]; omega) (by omega)
    simpa using this
def zeros (n : Nat) : ByteArray := bs (fun _ => 0) 0 n
theorem noughts_any (n : Nat) (hn : n ≤ 524288) (w : World) : Calls Try.prog 87 #[.int .i64 (n : Int)] w fun e w' => e = .returned (.string (zeros n)) ∧ Fr [] w w' := by
  obtain ⟨Z, hZs, hZ, hmk⟩ := made_z n hn
  have hwb : Wb (w.alloc (.cells Z 5)) w.heap.size n (fun _ => 0) := Wb.of_blk (Blk.new w 5 Z) hZs (fun i hi => hZ i hi)
  have hcv := conv_wb (o := 0) (n := n) (cap := n) hwb (by omega)
  have E := Lib.hid (show bs (fun _ => 0) 0 n = zeros n from rfl)
  have HF := Lib.hid ((Fr.refl [] w).alloc (.cells Z 5))
  have hmk := hmk w
  clear hZ hZs hwb
  generalize zeros n = V at *
  generalize bs (fun _ => 0) 0 n = X at *
  go_enter Try.func87, Try.ntmps87
  go_wp2
  go_ret
  exact ⟨ret_str E.out, HF.out⟩
def allB (c : UInt8) : ByteArray := bs (fun _ => c) 0 128
set_option maxRecDepth 100000 in
theorem all_any (c : UInt8) (w : World) : Calls Try.prog 88 #[.int .u8 (c.toNat : Int)] w fun e w' => e = .returned (.string (allB c)) ∧ Fr [] w w' := by
  obtain ⟨Z, hZs, hZ, hmk⟩ := made_z 128 (by omega)
  have hwb : Wb (w.alloc (.cells Z 5)) w.heap.size 128 (fun i => if i < 0 then c else 0) := (Wb.of_blk (l := fun _ => 0) (Blk.new w 5 Z) hZs (fun i hi => hZ i hi)).ext (fun i _ => by rw [if_neg (by omega)])
  have HWB := Lib.hid hwb
  have HF := Lib.hid ((Fr.refl [] w).alloc (.cells Z 5))
  have hmk' : (Instr.makeSlice 30 (.int .i64 128) (.int .i64 128)).run Try.prog w = .ok (.slice (some ⟨w.heap.size, 0, none⟩) 128 128) (w.alloc (.cells Z 5)) := hmk w
  clear hmk
  have hsz := World.size_alloc w (.cells Z 5)
  have Hsz := Lib.hid hsz
  clear hZ hZs hwb hsz
  go_enter Try.func88, Try.ntmps88
  go_wp2
  go_loopg [4] 128 (fun gg v wr => ∃ k : Nat, k + gg = 128 ∧ v = .int .i64 (k : Int) ∧ Wb wr w.heap.size 128 (fun i => if i < k then c else 0) ∧ Fr [] w wr)
  case atStart => exact ⟨0, by omega, rfl, HWB.out, HF.out⟩
  case round =>
    obtain ⟨k, hk, rfl, hwb, hfr⟩ := hrel
    have Hk := Lib.hid hk
    have Hwb := Lib.hid hwb
    have Hfr := Lib.hid hfr
    clear hk hwb hfr
    by_cases hlt : k < 128
    · have hlt' : (k : Int) < 128 := by omega
      have hc0 := Hwb.out.cell hlt
      have hf0 := Hwb.out.frozen hlt
      have hw : IntKind.i64.wrap ((k : Int) + 1) = (k : Int) + 1 := IntWalk.i64_in _ (by omega)
      have Hn : Hid (Wb (wr.setCell ⟨w.heap.size, k, none⟩ (.int .u8 (c.toNat : Int))) w.heap.size 128 (fun i => if i < k + 1 then c else 0)) := Lib.hid ((Hwb.out.set_ (o := k) c).ext (fun i _ => by
        by_cases h : i = k
        · subst h
          rw [upd_same, if_pos (by omega)]
        · rw [upd_ne h]
          by_cases h2 : i < k
          · rw [if_pos h2, if_pos (by omega)]
          · rw [if_neg h2, if_neg (by omega)]))
      go_wp2_with fail
      go_roundg (128 - (k + 1))
      case measure => have := Hk.out; omega
      case rel => exact ⟨k + 1, by have := Hk.out; omega, by go_num, Hn.out, Hfr.out.setCell (.inr (Nat.le_refl _)) _⟩
    · have hk8 : k = 128 := by have := Hk.out; omega
      subst hk8
      have hcv := conv_wb (o := 0) (n := 128) (cap := 128) Hwb.out (by omega)
      have E : Hid (bs (fun i => if i < 128 then c else 0) 0 128 = allB c) := Lib.hid (bs_congr (fun i hi => by rw [if_pos (by omega)]))
      generalize bs (fun i => if i < 128 then c else 0) 0 128 = X at *
      go_wp2_with fail
      go_ret
      exact ⟨ret_str E.out, Hfr.out⟩
theorem place_any (x : Int) (m : Nat) (hm : 0 < m) (hm2 : m ≤ 1000000) (hx0 : -9223372036854775808 ≤ x) (hx1 : x ≤ 9223372036854775807) (w : World) :
    Calls Try.prog 47 #[.int .i64 x, .int .i64 (m : Int)] w fun e w' => e = .returned (.int .i64 (x % (m : Int))) ∧ w = w' := by
  have hm0 : ¬ (m : Int) = 0 := by omega
  have hb := Int.emod_nonneg x hm0
  have hb2 := Int.emod_lt_of_pos x (show (0 : Int) < m by omega)
  have ht : x.tmod m = if 0 ≤ x ∨ (m : Int) ∣ x then x % m else x % m - m := by
    rw [Int.tmod_eq_emod]
    by_cases h : 0 ≤ x ∨ (m : Int) ∣ x
    · rw [if_pos h, if_pos h]; omega
    · rw [if_neg h, if_neg h]
      simp
  obtain ⟨r, hr⟩ : ∃ r, x % (m : Int) = r := ⟨_, rfl⟩
  rw [hr] at hb hb2 ht ⊢
  by_cases h : 0 ≤ x ∨ (m : Int) ∣ x
  · rw [if_pos h] at ht
    have hn : ¬ r < 0 := by omega
    clear h hr
    go_enter Try.func47, Try.ntmps47
    go_wp2
    go_ret
    exact ⟨rfl, rfl⟩
  · rw [if_neg h] at ht
    have hnz : r ≠ 0 := by
      intro e
      apply h
      right
      exact Int.dvd_of_emod_eq_zero (by rw [hr, e])
    have hn : r - (m : Int) < 0 := by omega
    have hw : IntKind.i64.wrap (r - (m : Int) + (m : Int)) = r := by
      rw [show r - (m : Int) + (m : Int) = r from by omega]
      exact IntWalk.i64_in _ (by omega)
    clear h hr
    go_enter Try.func47, Try.ntmps47
    go_wp2
    go_ret
    exact ⟨rfl, rfl⟩
end Go.Proofs.Ythmnloapjdalpaa
