/- Instructions: forms, Check, of the program. -/
import Derived.Test.YtjijhjdemkgpgaaGreatDoorStr
import Derived.Test.YtjijhjdemkgpgaaGreatDoorL1
import Derived.Deep.WholeRow
namespace Go.Proofs.YtjijhjdemkgpgaaGreatDoor
open Go.RowKit
set_option linter.unusedVariables false
set_option linter.unusedSimpArgs false
set_option maxRecDepth 100000
abbrev In.v (i : In) : Value := .agg #[.int .i64 i.op, .int .i64 i.a, .int .i64 i.b, .int .i64 i.m]
def fm (k : Nat) : ByteArray := ⟨(formL.getD k []).toArray⟩
def nm (k : Nat) : ByteArray := ⟨(nameL.getD k []).toArray⟩
abbrev opsV : Value := .agg #[.string ⟨#[110, 111, 112]⟩, .string ⟨#[]⟩, .string ⟨#[115, 116, 111, 112]⟩, .string ⟨#[]⟩, .string ⟨#[115, 101, 116]⟩, .string ⟨#[97, 117]⟩, .string ⟨#[104, 105, 103, 104]⟩, .string ⟨#[97, 117]⟩, .string ⟨#[109, 111, 118, 101]⟩, .string ⟨#[97, 98]⟩, .string ⟨#[97, 100, 100]⟩, .string ⟨#[97, 98]⟩, .string ⟨#[115, 117, 98]⟩, .string ⟨#[97, 98]⟩, .string ⟨#[109, 117, 108]⟩, .string ⟨#[97, 98]⟩, .string ⟨#[100, 105, 118]⟩, .string ⟨#[97, 98]⟩, .string ⟨#[114, 101, 109]⟩, .string ⟨#[97, 98]⟩, .string ⟨#[97, 110, 100]⟩, .string ⟨#[97, 98]⟩, .string ⟨#[111, 114]⟩, .string ⟨#[97, 98]⟩, .string ⟨#[120, 111, 114]⟩, .string ⟨#[97, 98]⟩, .string ⟨#[110, 111, 116]⟩, .string ⟨#[97]⟩, .string ⟨#[115, 104, 108]⟩, .string ⟨#[97, 98]⟩, .string ⟨#[115, 104, 114]⟩, .string ⟨#[97, 98]⟩, .string ⟨#[108, 101, 115, 115]⟩, .string ⟨#[97, 98]⟩, .string ⟨#[98, 101, 108, 111, 119]⟩, .string ⟨#[97, 98]⟩, .string ⟨#[115, 97, 109, 101]⟩, .string ⟨#[97, 98]⟩, .string ⟨#[112, 108, 117, 115]⟩, .string ⟨#[97, 115]⟩, .string ⟨#[103, 101, 116, 49]⟩, .string ⟨#[97, 98, 117]⟩, .string ⟨#[103, 101, 116, 52]⟩, .string ⟨#[97, 98, 117]⟩, .string ⟨#[112, 117, 116, 49]⟩, .string ⟨#[97, 98, 117]⟩, .string ⟨#[112, 117, 116, 52]⟩, .string ⟨#[97, 98, 117]⟩, .string ⟨#[106, 117, 109, 112]⟩, .string ⟨#[115]⟩, .string ⟨#[122, 101, 114, 111]⟩, .string ⟨#[97, 115]⟩, .string ⟨#[115, 111, 109, 101]⟩, .string ⟨#[97, 115]⟩, .string ⟨#[116, 111]⟩, .string ⟨#[97]⟩, .string ⟨#[99, 97, 108, 108]⟩, .string ⟨#[97, 115]⟩, .string ⟨#[97, 115, 107]⟩, .string ⟨#[117]⟩]
set_option maxHeartbeats 4000000 in
theorem operations_any (w : World) : Calls Tryz.prog 21 #[] w fun e w' => e = .returned opsV ∧ Fr [] w w' := by
  have HF := Lib.hid (fun o => (Fr.refl [] w).alloc o)
  unfold opsV
  go_enter Tryz.func21, Tryz.ntmps21
  generalize (⟨#[110, 111, 112]⟩ : ByteArray) = n0 at *
  generalize (⟨#[115, 116, 111, 112]⟩ : ByteArray) = n1 at *
  generalize (⟨#[115, 101, 116]⟩ : ByteArray) = n2 at *
  generalize (⟨#[104, 105, 103, 104]⟩ : ByteArray) = n3 at *
  generalize (⟨#[109, 111, 118, 101]⟩ : ByteArray) = n4 at *
  generalize (⟨#[97, 100, 100]⟩ : ByteArray) = n5 at *
  generalize (⟨#[115, 117, 98]⟩ : ByteArray) = n6 at *
  generalize (⟨#[109, 117, 108]⟩ : ByteArray) = n7 at *
  generalize (⟨#[100, 105, 118]⟩ : ByteArray) = n8 at *
  generalize (⟨#[114, 101, 109]⟩ : ByteArray) = n9 at *
  generalize (⟨#[97, 110, 100]⟩ : ByteArray) = n10 at *
  generalize (⟨#[111, 114]⟩ : ByteArray) = n11 at *
  generalize (⟨#[120, 111, 114]⟩ : ByteArray) = n12 at *
  generalize (⟨#[110, 111, 116]⟩ : ByteArray) = n13 at *
  generalize (⟨#[115, 104, 108]⟩ : ByteArray) = n14 at *
  generalize (⟨#[115, 104, 114]⟩ : ByteArray) = n15 at *
  generalize (⟨#[108, 101, 115, 115]⟩ : ByteArray) = n16 at *
  generalize (⟨#[98, 101, 108, 111, 119]⟩ : ByteArray) = n17 at *
  generalize (⟨#[115, 97, 109, 101]⟩ : ByteArray) = n18 at *
  generalize (⟨#[112, 108, 117, 115]⟩ : ByteArray) = n19 at *
  generalize (⟨#[103, 101, 116, 49]⟩ : ByteArray) = n20 at *
  generalize (⟨#[103, 101, 116, 52]⟩ : ByteArray) = n21 at *
  generalize (⟨#[112, 117, 116, 49]⟩ : ByteArray) = n22 at *
  generalize (⟨#[112, 117, 116, 52]⟩ : ByteArray) = n23 at *
  generalize (⟨#[106, 117, 109, 112]⟩ : ByteArray) = n24 at *
  generalize (⟨#[122, 101, 114, 111]⟩ : ByteArray) = n25 at *
  generalize (⟨#[115, 111, 109, 101]⟩ : ByteArray) = n26 at *
  generalize (⟨#[116, 111]⟩ : ByteArray) = n27 at *
  generalize (⟨#[99, 97, 108, 108]⟩ : ByteArray) = n28 at *
  generalize (⟨#[97, 115, 107]⟩ : ByteArray) = n29 at *
  generalize (⟨#[97, 98, 117]⟩ : ByteArray) = f0 at *
  generalize (⟨#[97, 117]⟩ : ByteArray) = f1 at *
  generalize (⟨#[97, 98]⟩ : ByteArray) = f2 at *
  generalize (⟨#[97, 115]⟩ : ByteArray) = f3 at *
  generalize (⟨#[97]⟩ : ByteArray) = f4 at *
  generalize (⟨#[117]⟩ : ByteArray) = f5 at *
  generalize (⟨#[115]⟩ : ByteArray) = f6 at *
  generalize (⟨#[]⟩ : ByteArray) = f7 at *
  have hone : (#[.string n0, .string f7, .string n1, .string f7, .string n2, .string f1, .string n3, .string f1, .string n4, .string f2, .string n5, .string f2, .string n6, .string f2, .string n7, .string f2, .string n8, .string f2, .string n9, .string f2, .string n10, .string f2, .string n11, .string f2, .string n12, .string f2, .string n13, .string f4, .string n14, .string f2, .string n15, .string f2, .string n16, .string f2, .string n17, .string f2, .string n18, .string f2, .string n19, .string f3, .string n20, .string f0, .string n21, .string f0, .string n22, .string f0, .string n23, .string f0, .string n24, .string f6, .string n25, .string f3, .string n26, .string f3, .string n27, .string f4, .string n28, .string f3, .string n29, .string f5] : Array Value).all (·.oneCell') = true := by simp [Value.oneCell']
  iterate 103 go_step
  rename_i hK
  refine hK _ _ ?_
  refine wpList_store_row ?_ 40 (.tmp 0) (.tmp 31) ?_ w.heap.size #[.string n0, .string f7, .string n1, .string f7, .string n2, .string f1, .string n3, .string f1, .string n4, .string f2, .string n5, .string f2, .string n6, .string f2, .string n7, .string f2, .string n8, .string f2, .string n9, .string f2, .string n10, .string f2, .string n11, .string f2, .string n12, .string f2, .string n13, .string f4, .string n14, .string f2, .string n15, .string f2, .string n16, .string f2, .string n17, .string f2, .string n18, .string f2, .string n19, .string f3, .string n20, .string f0, .string n21, .string f0, .string n22, .string f0, .string n23, .string f0, .string n24, .string f6, .string n25, .string f3, .string n26, .string f3, .string n27, .string f4, .string n28, .string f3, .string n29, .string f5] ?_ ?_ 40 _ (heap_alloc_new w _) ?_ ?_ hone ?_
  · rfl
  · rfl
  · rfl
  · rfl
  · kernel_rfl
  · rfl
  rw [World.setRow_alloc_new]
  go_wp2
  exact bodyPost_ret (v := .agg #[.string n0, .string f7, .string n1, .string f7, .string n2, .string f1, .string n3, .string f1, .string n4, .string f2, .string n5, .string f2, .string n6, .string f2, .string n7, .string f2, .string n8, .string f2, .string n9, .string f2, .string n10, .string f2, .string n11, .string f2, .string n12, .string f2, .string n13, .string f4, .string n14, .string f2, .string n15, .string f2, .string n16, .string f2, .string n17, .string f2, .string n18, .string f2, .string n19, .string f3, .string n20, .string f0, .string n21, .string f0, .string n22, .string f0, .string n23, .string f0, .string n24, .string f6, .string n25, .string f3, .string n26, .string f3, .string n27, .string f4, .string n28, .string f3, .string n29, .string f5]) (results_cell_row Tryz.results21 _ _ w.heap.size 40 _ (0, 0) _ rfl (heap_alloc_new w _) Tryz.underlying40 rfl (by kernel_rfl)) rfl ⟨rfl, HF.out _⟩
theorem ops_at (k : Nat) (hk : k < 30) (w : World) : (Instr.index 40 opsV (.int .i64 (k : Int))).run Tryz.prog w = .ok (.agg #[.string (nm k), .string (fm k)]) w := by
  rcases (by omega : k = 0 ∨ k = 1 ∨ k = 2 ∨ k = 3 ∨ k = 4 ∨ k = 5 ∨ k = 6 ∨ k = 7 ∨ k = 8 ∨ k = 9 ∨ k = 10 ∨ k = 11 ∨ k = 12 ∨ k = 13 ∨ k = 14 ∨ k = 15 ∨ k = 16 ∨ k = 17 ∨ k = 18 ∨ k = 19 ∨ k = 20 ∨ k = 21 ∨ k = 22 ∨ k = 23 ∨ k = 24 ∨ k = 25 ∨ k = 26 ∨ k = 27 ∨ k = 28 ∨ k = 29) with rfl | rfl | rfl | rfl | rfl | rfl | rfl | rfl | rfl | rfl | rfl | rfl | rfl | rfl | rfl | rfl | rfl | rfl | rfl | rfl | rfl | rfl | rfl | rfl | rfl | rfl | rfl | rfl | rfl | rfl <;> kernel_rfl
theorem form_any (k : Nat) (hk : k < 30) (w : World) : Calls Tryz.prog 25 #[.int .i64 (k : Int)] w fun e w' => e = .returned (.string (fm k)) ∧ Fr [] w w' := by
  have HO := Lib.hid (fun W => operations_any W)
  have hi := ops_at k hk
  generalize opsV = V at *
  generalize nm k = N at *
  generalize fm k = F at *
  have hfd : ∀ W, (Instr.field 39 (.agg #[.string N, .string F]) 1).run Tryz.prog W = .ok (.string F) W := fun W => by kernel_rfl
  clear hk
  go_enter Tryz.func25, Tryz.ntmps25
  go_wp2_with (go_at_call 21; refine (HO.out _).mono ?_; rintro e w1 ⟨rfl, hf⟩; have HF := Lib.hid hf; clear hf)
  go_ret
  exact ⟨rfl, HF.out⟩
def fitsB (is : Bool) (n lo hi : Int) : Bool := (is && decide (lo ≤ n) && decide (n ≤ hi)) || (!is && decide (n = 0))
theorem fits_any (is : Bool) (n lo hi : Int) (w : World) : Calls Tryz.prog 31 #[.bool is, .int .i64 n, .int .i64 lo, .int .i64 hi] w fun e w' => e = .returned (.bool (fitsB is n lo hi)) ∧ w = w' := by
  unfold fitsB
  cases is with
  | false =>
    by_cases h : n = 0
    · rw [decide_eq_true h]
      subst h
      go_enter Tryz.func31, Tryz.ntmps31
      go_wp2
      go_ret
      exact ⟨rfl, rfl⟩
    · rw [decide_eq_false h]
      have hb : (n == 0) = false := beq_eq_false_iff_ne.2 h
      go_enter Tryz.func31, Tryz.ntmps31
      go_wp2
      go_ret
      exact ⟨rfl, rfl⟩
  | true =>
    by_cases h1 : lo ≤ n
    · by_cases h2 : n ≤ hi
      · rw [decide_eq_true h1, decide_eq_true h2]
        go_enter Tryz.func31, Tryz.ntmps31
        go_wp2
        go_ret
        exact ⟨rfl, rfl⟩
      · rw [decide_eq_true h1, decide_eq_false h2]
        go_enter Tryz.func31, Tryz.ntmps31
        go_wp2
        go_ret
        exact ⟨rfl, rfl⟩
    · rw [decide_eq_false h1]
      go_enter Tryz.func31, Tryz.ntmps31
      go_wp2
      go_ret
      exact ⟨rfl, rfl⟩
end Go.Proofs.YtjijhjdemkgpgaaGreatDoor
