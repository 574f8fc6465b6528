/- Instructions: forms, Check, of the program. Instructions: Check, of the program. Instructions: Decode, of the program. -/
import Derived.Test.YtbmaecdlkchkeaaGreatDoorStr
import Derived.Test.YtbmaecdlkchkeaaGreatDoorL1
import Derived.Deep.WholeRow
import Derived.BigQuiet
import Derived.Deep.QuietTactic
import Derived.RegionTactic
namespace Go.Proofs.YtbmaecdlkchkeaaGreatDoor
open Go.RowKit
set_option linter.unusedVariables false
set_option linter.unusedSimpArgs false
set_option maxRecDepth 100000
abbrev In.v (i : In) : Value := .agg #[.int .i64 i.op, .int .i64 i.a, .int .i64 i.b, .int .i64 i.m]
def fm (k : Nat) : ByteArray := ⟨(formL.getD k []).toArray⟩
def nm (k : Nat) : ByteArray := ⟨(nameL.getD k []).toArray⟩
abbrev opsV : Value := .agg #[.string ⟨#[110, 111, 112]⟩, .string ⟨#[]⟩, .string ⟨#[115, 116, 111, 112]⟩, .string ⟨#[]⟩, .string ⟨#[115, 101, 116]⟩, .string ⟨#[97, 117]⟩, .string ⟨#[104, 105, 103, 104]⟩, .string ⟨#[97, 117]⟩, .string ⟨#[109, 111, 118, 101]⟩, .string ⟨#[97, 98]⟩, .string ⟨#[97, 100, 100]⟩, .string ⟨#[97, 98]⟩, .string ⟨#[115, 117, 98]⟩, .string ⟨#[97, 98]⟩, .string ⟨#[109, 117, 108]⟩, .string ⟨#[97, 98]⟩, .string ⟨#[100, 105, 118]⟩, .string ⟨#[97, 98]⟩, .string ⟨#[114, 101, 109]⟩, .string ⟨#[97, 98]⟩, .string ⟨#[97, 110, 100]⟩, .string ⟨#[97, 98]⟩, .string ⟨#[111, 114]⟩, .string ⟨#[97, 98]⟩, .string ⟨#[120, 111, 114]⟩, .string ⟨#[97, 98]⟩, .string ⟨#[110, 111, 116]⟩, .string ⟨#[97]⟩, .string ⟨#[115, 104, 108]⟩, .string ⟨#[97, 98]⟩, .string ⟨#[115, 104, 114]⟩, .string ⟨#[97, 98]⟩, .string ⟨#[108, 101, 115, 115]⟩, .string ⟨#[97, 98]⟩, .string ⟨#[98, 101, 108, 111, 119]⟩, .string ⟨#[97, 98]⟩, .string ⟨#[115, 97, 109, 101]⟩, .string ⟨#[97, 98]⟩, .string ⟨#[112, 108, 117, 115]⟩, .string ⟨#[97, 115]⟩, .string ⟨#[103, 101, 116, 49]⟩, .string ⟨#[97, 98, 117]⟩, .string ⟨#[103, 101, 116, 52]⟩, .string ⟨#[97, 98, 117]⟩, .string ⟨#[112, 117, 116, 49]⟩, .string ⟨#[97, 98, 117]⟩, .string ⟨#[112, 117, 116, 52]⟩, .string ⟨#[97, 98, 117]⟩, .string ⟨#[106, 117, 109, 112]⟩, .string ⟨#[115]⟩, .string ⟨#[122, 101, 114, 111]⟩, .string ⟨#[97, 115]⟩, .string ⟨#[115, 111, 109, 101]⟩, .string ⟨#[97, 115]⟩, .string ⟨#[116, 111]⟩, .string ⟨#[97]⟩, .string ⟨#[99, 97, 108, 108]⟩, .string ⟨#[97, 115]⟩, .string ⟨#[97, 115, 107]⟩, .string ⟨#[117]⟩]
set_option maxHeartbeats 4000000 in
theorem operations_any (w : World) : Calls Tryz.prog 49 #[] w fun e w' => e = .returned opsV ∧ Fr [] w w' := by
  have HF := Lib.hid (fun o => (Fr.refl [] w).alloc o)
  unfold opsV
  go_enter Tryz.func49, Tryz.ntmps49
  generalize (⟨#[110, 111, 112]⟩ : ByteArray) = n0 at *
  generalize (⟨#[115, 116, 111, 112]⟩ : ByteArray) = n1 at *
  generalize (⟨#[115, 101, 116]⟩ : ByteArray) = n2 at *
  generalize (⟨#[104, 105, 103, 104]⟩ : ByteArray) = n3 at *
  generalize (⟨#[109, 111, 118, 101]⟩ : ByteArray) = n4 at *
  generalize (⟨#[97, 100, 100]⟩ : ByteArray) = n5 at *
  generalize (⟨#[115, 117, 98]⟩ : ByteArray) = n6 at *
  generalize (⟨#[109, 117, 108]⟩ : ByteArray) = n7 at *
  generalize (⟨#[100, 105, 118]⟩ : ByteArray) = n8 at *
  generalize (⟨#[114, 101, 109]⟩ : ByteArray) = n9 at *
  generalize (⟨#[97, 110, 100]⟩ : ByteArray) = n10 at *
  generalize (⟨#[111, 114]⟩ : ByteArray) = n11 at *
  generalize (⟨#[120, 111, 114]⟩ : ByteArray) = n12 at *
  generalize (⟨#[110, 111, 116]⟩ : ByteArray) = n13 at *
  generalize (⟨#[115, 104, 108]⟩ : ByteArray) = n14 at *
  generalize (⟨#[115, 104, 114]⟩ : ByteArray) = n15 at *
  generalize (⟨#[108, 101, 115, 115]⟩ : ByteArray) = n16 at *
  generalize (⟨#[98, 101, 108, 111, 119]⟩ : ByteArray) = n17 at *
  generalize (⟨#[115, 97, 109, 101]⟩ : ByteArray) = n18 at *
  generalize (⟨#[112, 108, 117, 115]⟩ : ByteArray) = n19 at *
  generalize (⟨#[103, 101, 116, 49]⟩ : ByteArray) = n20 at *
  generalize (⟨#[103, 101, 116, 52]⟩ : ByteArray) = n21 at *
  generalize (⟨#[112, 117, 116, 49]⟩ : ByteArray) = n22 at *
  generalize (⟨#[112, 117, 116, 52]⟩ : ByteArray) = n23 at *
  generalize (⟨#[106, 117, 109, 112]⟩ : ByteArray) = n24 at *
  generalize (⟨#[122, 101, 114, 111]⟩ : ByteArray) = n25 at *
  generalize (⟨#[115, 111, 109, 101]⟩ : ByteArray) = n26 at *
  generalize (⟨#[116, 111]⟩ : ByteArray) = n27 at *
  generalize (⟨#[99, 97, 108, 108]⟩ : ByteArray) = n28 at *
  generalize (⟨#[97, 115, 107]⟩ : ByteArray) = n29 at *
  generalize (⟨#[97, 98, 117]⟩ : ByteArray) = f0 at *
  generalize (⟨#[97, 117]⟩ : ByteArray) = f1 at *
  generalize (⟨#[97, 98]⟩ : ByteArray) = f2 at *
  generalize (⟨#[97, 115]⟩ : ByteArray) = f3 at *
  generalize (⟨#[97]⟩ : ByteArray) = f4 at *
  generalize (⟨#[117]⟩ : ByteArray) = f5 at *
  generalize (⟨#[115]⟩ : ByteArray) = f6 at *
  generalize (⟨#[]⟩ : ByteArray) = f7 at *
  have hone : (#[.string n0, .string f7, .string n1, .string f7, .string n2, .string f1, .string n3, .string f1, .string n4, .string f2, .string n5, .string f2, .string n6, .string f2, .string n7, .string f2, .string n8, .string f2, .string n9, .string f2, .string n10, .string f2, .string n11, .string f2, .string n12, .string f2, .string n13, .string f4, .string n14, .string f2, .string n15, .string f2, .string n16, .string f2, .string n17, .string f2, .string n18, .string f2, .string n19, .string f3, .string n20, .string f0, .string n21, .string f0, .string n22, .string f0, .string n23, .string f0, .string n24, .string f6, .string n25, .string f3, .string n26, .string f3, .string n27, .string f4, .string n28, .string f3, .string n29, .string f5] : Array Value).all (·.oneCell') = true := by simp [Value.oneCell']
  iterate 103 go_step
  rename_i hK
  refine hK _ _ ?_
  refine wpList_store_row ?_ 112 (.tmp 0) (.tmp 31) ?_ w.heap.size #[.string n0, .string f7, .string n1, .string f7, .string n2, .string f1, .string n3, .string f1, .string n4, .string f2, .string n5, .string f2, .string n6, .string f2, .string n7, .string f2, .string n8, .string f2, .string n9, .string f2, .string n10, .string f2, .string n11, .string f2, .string n12, .string f2, .string n13, .string f4, .string n14, .string f2, .string n15, .string f2, .string n16, .string f2, .string n17, .string f2, .string n18, .string f2, .string n19, .string f3, .string n20, .string f0, .string n21, .string f0, .string n22, .string f0, .string n23, .string f0, .string n24, .string f6, .string n25, .string f3, .string n26, .string f3, .string n27, .string f4, .string n28, .string f3, .string n29, .string f5] ?_ ?_ 112 _ (heap_alloc_new w _) ?_ ?_ hone ?_
  · rfl
  · rfl
  · rfl
  · rfl
  · kernel_rfl
  · rfl
  rw [World.setRow_alloc_new]
  go_wp2
  exact bodyPost_ret (v := .agg #[.string n0, .string f7, .string n1, .string f7, .string n2, .string f1, .string n3, .string f1, .string n4, .string f2, .string n5, .string f2, .string n6, .string f2, .string n7, .string f2, .string n8, .string f2, .string n9, .string f2, .string n10, .string f2, .string n11, .string f2, .string n12, .string f2, .string n13, .string f4, .string n14, .string f2, .string n15, .string f2, .string n16, .string f2, .string n17, .string f2, .string n18, .string f2, .string n19, .string f3, .string n20, .string f0, .string n21, .string f0, .string n22, .string f0, .string n23, .string f0, .string n24, .string f6, .string n25, .string f3, .string n26, .string f3, .string n27, .string f4, .string n28, .string f3, .string n29, .string f5]) (results_cell_row Tryz.results49 _ _ w.heap.size 112 _ (0, 0) _ rfl (heap_alloc_new w _) Tryz.underlying112 rfl (by kernel_rfl)) rfl ⟨rfl, HF.out _⟩
theorem ops_at (k : Nat) (hk : k < 30) (w : World) : (Instr.index 112 opsV (.int .i64 (k : Int))).run Tryz.prog w = .ok (.agg #[.string (nm k), .string (fm k)]) w := by
  rcases (by omega : k = 0 ∨ k = 1 ∨ k = 2 ∨ k = 3 ∨ k = 4 ∨ k = 5 ∨ k = 6 ∨ k = 7 ∨ k = 8 ∨ k = 9 ∨ k = 10 ∨ k = 11 ∨ k = 12 ∨ k = 13 ∨ k = 14 ∨ k = 15 ∨ k = 16 ∨ k = 17 ∨ k = 18 ∨ k = 19 ∨ k = 20 ∨ k = 21 ∨ k = 22 ∨ k = 23 ∨ k = 24 ∨ k = 25 ∨ k = 26 ∨ k = 27 ∨ k = 28 ∨ k = 29) with rfl | rfl | rfl | rfl | rfl | rfl | rfl | rfl | rfl | rfl | rfl | rfl | rfl | rfl | rfl | rfl | rfl | rfl | rfl | rfl | rfl | rfl | rfl | rfl | rfl | rfl | rfl | rfl | rfl | rfl <;> kernel_rfl
theorem form_any (k : Nat) (hk : k < 30) (w : World) : Calls Tryz.prog 56 #[.int .i64 (k : Int)] w fun e w' => e = .returned (.string (fm k)) ∧ Fr [] w w' := by
  have HO := Lib.hid (fun W => operations_any W)
  have hi := ops_at k hk
  generalize opsV = V at *
  generalize nm k = N at *
  generalize fm k = F at *
  have hfd : ∀ W, (Instr.field 111 (.agg #[.string N, .string F]) 1).run Tryz.prog W = .ok (.string F) W := fun W => by kernel_rfl
  clear hk
  go_enter Tryz.func56, Tryz.ntmps56
  go_wp2_with (go_at_call 49; refine (HO.out _).mono ?_; rintro e w1 ⟨rfl, hf⟩; have HF := Lib.hid hf; clear hf)
  go_ret
  exact ⟨rfl, HF.out⟩
def fitsB (is : Bool) (n lo hi : Int) : Bool := (is && decide (lo ≤ n) && decide (n ≤ hi)) || (!is && decide (n = 0))
theorem fits_any (is : Bool) (n lo hi : Int) (w : World) : Calls Tryz.prog 58 #[.bool is, .int .i64 n, .int .i64 lo, .int .i64 hi] w fun e w' => e = .returned (.bool (fitsB is n lo hi)) ∧ w = w' := by
  unfold fitsB
  cases is with
  | false =>
    by_cases h : n = 0
    · rw [decide_eq_true h]
      subst h
      go_enter Tryz.func58, Tryz.ntmps58
      go_wp2
      go_ret
      exact ⟨rfl, rfl⟩
    · rw [decide_eq_false h]
      have hb : (n == 0) = false := beq_eq_false_iff_ne.2 h
      go_enter Tryz.func58, Tryz.ntmps58
      go_wp2
      go_ret
      exact ⟨rfl, rfl⟩
  | true =>
    by_cases h1 : lo ≤ n
    · by_cases h2 : n ≤ hi
      · rw [decide_eq_true h1, decide_eq_true h2]
        go_enter Tryz.func58, Tryz.ntmps58
        go_wp2
        go_ret
        exact ⟨rfl, rfl⟩
      · rw [decide_eq_true h1, decide_eq_false h2]
        go_enter Tryz.func58, Tryz.ntmps58
        go_wp2
        go_ret
        exact ⟨rfl, rfl⟩
    · rw [decide_eq_false h1]
      go_enter Tryz.func58, Tryz.ntmps58
      go_wp2
      go_ret
      exact ⟨rfl, rfl⟩
end Go.Proofs.YtbmaecdlkchkeaaGreatDoor
namespace Go.Proofs.YtbmaecdlkchkeaaGreatDoor
open Go.RowKit
set_option linter.unusedVariables false
set_option linter.unusedSimpArgs false
set_option maxRecDepth 100000
theorem fm_small (k : Nat) (hk : k < 30) : (fm k).size ≤ 8 ∧ ∀ (i : Nat) (h : i < (fm k).size), ((fm k)[i]'h).toNat < 128 := by
  have h1 : ∀ k, k < 30 → (fm k).size ≤ 8 ∧ ((fm k).data.toList.all fun c => decide (c.toNat < 128)) = true := by decide
  obtain ⟨h2, h3⟩ := h1 k hk
  refine ⟨h2, fun i h => ?_⟩
  rw [List.all_eq_true] at h3
  have hget : (fm k).data.toList[i]? = some ((fm k)[i]'h) := List.getElem?_eq_getElem (by exact h)
  have := h3 _ (List.mem_of_getElem? hget)
  simpa using this
def okI (i : In) (k : Nat) : Bool := fitsB (hasC (fm k) 97) i.a 0 15 && fitsB (hasC (fm k) 98) i.b 0 15 && fitsB (hasU (fm k)) i.m (if hasC (fm k) 115 then -32768 else 0) (if hasC (fm k) 115 then 32767 else 65535)
def chkI (i : In) : Int := if i.op < 0 ∨ 30 ≤ i.op then 90 else if okI i i.op.toNat then 0 else 90
/-- The cells of a box that the test reads. -/
def BxI (g : Nat) (i : In) (W : World) : Prop := W.cell? ⟨g, 1, none⟩ = some (.int .i64 i.a) ∧ W.cell? ⟨g, 2, none⟩ = some (.int .i64 i.b) ∧ W.cell? ⟨g, 3, none⟩ = some (.int .i64 i.m)
theorem BxI.fr {g : Nat} {i : In} {w w' : World} (h : BxI g i w) (hf : Fr [] w w') : BxI g i w' := ⟨hf.cell_some h.1 (by simp), hf.cell_some h.2.1 (by simp), hf.cell_some h.2.2 (by simp)⟩
set_option maxHeartbeats 4000000 in
theorem Check_in (i : In) (k : Nat) (hk : k < 30) (hop : i.op = (k : Int)) (w : World) : Calls Tryz.prog 26 #[i.v] w fun e w' => e = .returned (.int .i64 (if okI i k then 0 else 90)) ∧ Fr [] w w' := by
  obtain ⟨op, a, b, m⟩ := i
  simp only at hop
  subst hop
  have HF := Lib.hid (fun W => form_any k hk W)
  have hB1 : BxI w.heap.size ⟨k, a, b, m⟩ (w.alloc (.cells #[.int .i64 (k : Int), .int .i64 a, .int .i64 b, .int .i64 m] 55)) := ⟨by rw [(Blk.new _ _ _).cell]; rfl, by rw [(Blk.new _ _ _).cell]; rfl, by rw [(Blk.new _ _ _).cell]; rfl⟩
  have HB := Lib.hid hB1
  have H0 : Hid (Fr [] w (w.alloc (.cells #[.int .i64 (k : Int), .int .i64 a, .int .i64 b, .int .i64 m] 55))) := Lib.hid ((Fr.refl [] w).alloc _)
  have HA := Lib.hid (fun W => Contains_one (fm k) 97 W)
  have HBc := Lib.hid (fun W => Contains_one (fm k) 98 W)
  have HS := Lib.hid (fun W => Contains_one (fm k) 115 W)
  have HU := Lib.hid (fun W => ContainsAny_us (fm k) (fm_small k hk).1 (fm_small k hk).2 W)
  have hk0 : ¬ (k : Int) < 0 := by omega
  have hk1 : ¬ (30 : Int) ≤ (k : Int) := by omega
  unfold okI
  simp only
  have F1 := Lib.hid (fun W => fits_any (hasC (fm k) 97) a 0 15 W)
  have F2 := Lib.hid (fun W => fits_any (hasC (fm k) 98) b 0 15 W)
  have F3 := Lib.hid (fun W => fits_any (hasU (fm k)) m (if hasC (fm k) 115 then -32768 else 0) (if hasC (fm k) 115 then 32767 else 65535) W)
  generalize fitsB (hasC (fm k) 97) a 0 15 = B1 at *
  generalize fitsB (hasC (fm k) 98) b 0 15 = B2 at *
  generalize fitsB (hasU (fm k)) m (if hasC (fm k) 115 then -32768 else 0) (if hasC (fm k) 115 then 32767 else 65535) = B3 at *
  generalize hasU (fm k) = U at *
  generalize hasC (fm k) 97 = C1 at *
  generalize hasC (fm k) 98 = C2 at *
  generalize hasC (fm k) 115 = C3 at *
  generalize fm k = F at *
  clear hk hB1
  cases C3 with
  | false =>
    cases B1 with
    | false =>
      simp only [if_true, if_false, Bool.false_eq_true, Bool.and_self, Bool.and_true, Bool.and_false, Bool.true_and, Bool.false_and, ↓reduceIte] at F3 ⊢
      go_enter Tryz.func26, Tryz.ntmps26
      go_wp2_with (first
        | (go_at_call 56; refine (HF.out _).mono ?_; rintro e w1 ⟨rfl, hf⟩; have H1 := Lib.hid (H0.out.trans hf); have HB1 := Lib.hid (HB.out.fr hf); clear hf)
        | (go_at_call 57; refine (HS.out _).mono ?_; rintro e w2 ⟨rfl, rfl⟩))
      obtain ⟨c1, c2, c3⟩ := HB1.out
      go_quiet (first
        | (go_at_call 57; with_reducible exact Calls.quiet_of_same (same_of (HA.out _)))
        | (go_at_call 58; with_reducible exact Calls.quiet_of_same (same_of (F1.out _))))
      go_wp2_with fail
      go_ret
      exact ⟨rfl, H1.out.drewN _⟩
    | true =>
      cases B2 with
      | false =>
        simp only [if_true, if_false, Bool.false_eq_true, Bool.and_self, Bool.and_true, Bool.and_false, Bool.true_and, Bool.false_and, ↓reduceIte] at F3 ⊢
        go_enter Tryz.func26, Tryz.ntmps26
        go_wp2_with (first
          | (go_at_call 56; refine (HF.out _).mono ?_; rintro e w1 ⟨rfl, hf⟩; have H1 := Lib.hid (H0.out.trans hf); have HB1 := Lib.hid (HB.out.fr hf); clear hf)
          | (go_at_call 57; refine (HS.out _).mono ?_; rintro e w2 ⟨rfl, rfl⟩))
        obtain ⟨c1, c2, c3⟩ := HB1.out
        go_quiet (first
          | (go_at_call 57; with_reducible exact Calls.quiet_of_same (same_of (HA.out _)))
          | (go_at_call 57; with_reducible exact Calls.quiet_of_same (same_of (HBc.out _)))
          | (go_at_call 58; with_reducible exact Calls.quiet_of_same (same_of (F1.out _)))
          | (go_at_call 58; with_reducible exact Calls.quiet_of_same (same_of (F2.out _))))
        go_wp2_with fail
        go_ret
        exact ⟨rfl, H1.out.drewN _⟩
      | true =>
        cases B3 with
        | false =>
          simp only [if_true, if_false, Bool.false_eq_true, Bool.and_self, Bool.and_true, Bool.and_false, Bool.true_and, Bool.false_and, ↓reduceIte] at F3 ⊢
          go_enter Tryz.func26, Tryz.ntmps26
          go_wp2_with (first
            | (go_at_call 56; refine (HF.out _).mono ?_; rintro e w1 ⟨rfl, hf⟩; have H1 := Lib.hid (H0.out.trans hf); have HB1 := Lib.hid (HB.out.fr hf); clear hf)
            | (go_at_call 57; refine (HS.out _).mono ?_; rintro e w2 ⟨rfl, rfl⟩))
          obtain ⟨c1, c2, c3⟩ := HB1.out
          have HK := Lib.hid (fun W (hf : Fr [] w1.drew W) => (show W.cell? ⟨w.heap.size, 1, none⟩ = some (.int .i64 a) ∧ W.cell? ⟨w.heap.size, 2, none⟩ = some (.int .i64 b) ∧ W.cell? ⟨w.heap.size, 3, none⟩ = some (.int .i64 m) from HB1.out.fr ((Fr.refl [] w1).drew.trans hf)))
          go_region_held3 (fun W => W.cell? ⟨w.heap.size, 1, none⟩ = some (.int .i64 a) ∧ W.cell? ⟨w.heap.size, 2, none⟩ = some (.int .i64 b) ∧ W.cell? ⟨w.heap.size, 3, none⟩ = some (.int .i64 m)) (first | exact kk | exact ⟨c1, c2, c3⟩) (first
            | (go_at_call 57; (with_reducible refine (HA.out _).mono ?_); rintro e w2 ⟨rfl, rfl⟩)
            | (go_at_call 57; (with_reducible refine (HBc.out _).mono ?_); rintro e w2 ⟨rfl, rfl⟩)
            | (go_at_call 58; (with_reducible refine (F1.out _).mono ?_); rintro e w2 ⟨rfl, rfl⟩)
            | (go_at_call 58; (with_reducible refine (F2.out _).mono ?_); rintro e w2 ⟨rfl, rfl⟩)
            | (go_at_call 58; (with_reducible refine (F3.out _).mono ?_); rintro e w2 ⟨rfl, rfl⟩)
            | (go_at_call 59; (with_reducible refine (HU.out _).mono ?_); rintro e w2 ⟨rfl, hf⟩; have kk := HK.out _ hf))
          go_wp2_with fail
          go_ret
          exact ⟨rfl, H1.out.trans ((Fr.refl [] _).drew.trans hf)⟩
        | true =>
          simp only [if_true, if_false, Bool.false_eq_true, Bool.and_self, Bool.and_true, Bool.and_false, Bool.true_and, Bool.false_and, ↓reduceIte] at F3 ⊢
          go_enter Tryz.func26, Tryz.ntmps26
          go_wp2_with (first
            | (go_at_call 56; refine (HF.out _).mono ?_; rintro e w1 ⟨rfl, hf⟩; have H1 := Lib.hid (H0.out.trans hf); have HB1 := Lib.hid (HB.out.fr hf); clear hf)
            | (go_at_call 57; refine (HS.out _).mono ?_; rintro e w2 ⟨rfl, rfl⟩))
          obtain ⟨c1, c2, c3⟩ := HB1.out
          have HK := Lib.hid (fun W (hf : Fr [] w1.drew W) => (show W.cell? ⟨w.heap.size, 1, none⟩ = some (.int .i64 a) ∧ W.cell? ⟨w.heap.size, 2, none⟩ = some (.int .i64 b) ∧ W.cell? ⟨w.heap.size, 3, none⟩ = some (.int .i64 m) from HB1.out.fr ((Fr.refl [] w1).drew.trans hf)))
          go_region_held3 (fun W => W.cell? ⟨w.heap.size, 1, none⟩ = some (.int .i64 a) ∧ W.cell? ⟨w.heap.size, 2, none⟩ = some (.int .i64 b) ∧ W.cell? ⟨w.heap.size, 3, none⟩ = some (.int .i64 m)) (first | exact kk | exact ⟨c1, c2, c3⟩) (first
            | (go_at_call 57; (with_reducible refine (HA.out _).mono ?_); rintro e w2 ⟨rfl, rfl⟩)
            | (go_at_call 57; (with_reducible refine (HBc.out _).mono ?_); rintro e w2 ⟨rfl, rfl⟩)
            | (go_at_call 58; (with_reducible refine (F1.out _).mono ?_); rintro e w2 ⟨rfl, rfl⟩)
            | (go_at_call 58; (with_reducible refine (F2.out _).mono ?_); rintro e w2 ⟨rfl, rfl⟩)
            | (go_at_call 58; (with_reducible refine (F3.out _).mono ?_); rintro e w2 ⟨rfl, rfl⟩)
            | (go_at_call 59; (with_reducible refine (HU.out _).mono ?_); rintro e w2 ⟨rfl, hf⟩; have kk := HK.out _ hf))
          go_wp2_with fail
          go_ret
          exact ⟨rfl, H1.out.trans ((Fr.refl [] _).drew.trans hf)⟩
  | true =>
    cases B1 with
    | false =>
      simp only [if_true, if_false, Bool.false_eq_true, Bool.and_self, Bool.and_true, Bool.and_false, Bool.true_and, Bool.false_and, ↓reduceIte] at F3 ⊢
      go_enter Tryz.func26, Tryz.ntmps26
      go_wp2_with (first
        | (go_at_call 56; refine (HF.out _).mono ?_; rintro e w1 ⟨rfl, hf⟩; have H1 := Lib.hid (H0.out.trans hf); have HB1 := Lib.hid (HB.out.fr hf); clear hf)
        | (go_at_call 57; refine (HS.out _).mono ?_; rintro e w2 ⟨rfl, rfl⟩))
      obtain ⟨c1, c2, c3⟩ := HB1.out
      go_quiet (first
        | (go_at_call 57; with_reducible exact Calls.quiet_of_same (same_of (HA.out _)))
        | (go_at_call 58; with_reducible exact Calls.quiet_of_same (same_of (F1.out _))))
      go_wp2_with fail
      go_ret
      exact ⟨rfl, H1.out.drewN _⟩
    | true =>
      cases B2 with
      | false =>
        simp only [if_true, if_false, Bool.false_eq_true, Bool.and_self, Bool.and_true, Bool.and_false, Bool.true_and, Bool.false_and, ↓reduceIte] at F3 ⊢
        go_enter Tryz.func26, Tryz.ntmps26
        go_wp2_with (first
          | (go_at_call 56; refine (HF.out _).mono ?_; rintro e w1 ⟨rfl, hf⟩; have H1 := Lib.hid (H0.out.trans hf); have HB1 := Lib.hid (HB.out.fr hf); clear hf)
          | (go_at_call 57; refine (HS.out _).mono ?_; rintro e w2 ⟨rfl, rfl⟩))
        obtain ⟨c1, c2, c3⟩ := HB1.out
        go_quiet (first
          | (go_at_call 57; with_reducible exact Calls.quiet_of_same (same_of (HA.out _)))
          | (go_at_call 57; with_reducible exact Calls.quiet_of_same (same_of (HBc.out _)))
          | (go_at_call 58; with_reducible exact Calls.quiet_of_same (same_of (F1.out _)))
          | (go_at_call 58; with_reducible exact Calls.quiet_of_same (same_of (F2.out _))))
        go_wp2_with fail
        go_ret
        exact ⟨rfl, H1.out.drewN _⟩
      | true =>
        cases B3 with
        | false =>
          simp only [if_true, if_false, Bool.false_eq_true, Bool.and_self, Bool.and_true, Bool.and_false, Bool.true_and, Bool.false_and, ↓reduceIte] at F3 ⊢
          go_enter Tryz.func26, Tryz.ntmps26
          go_wp2_with (first
            | (go_at_call 56; refine (HF.out _).mono ?_; rintro e w1 ⟨rfl, hf⟩; have H1 := Lib.hid (H0.out.trans hf); have HB1 := Lib.hid (HB.out.fr hf); clear hf)
            | (go_at_call 57; refine (HS.out _).mono ?_; rintro e w2 ⟨rfl, rfl⟩))
          obtain ⟨c1, c2, c3⟩ := HB1.out
          have HK := Lib.hid (fun W (hf : Fr [] w1.drew W) => (show W.cell? ⟨w.heap.size, 1, none⟩ = some (.int .i64 a) ∧ W.cell? ⟨w.heap.size, 2, none⟩ = some (.int .i64 b) ∧ W.cell? ⟨w.heap.size, 3, none⟩ = some (.int .i64 m) from HB1.out.fr ((Fr.refl [] w1).drew.trans hf)))
          go_region_held3 (fun W => W.cell? ⟨w.heap.size, 1, none⟩ = some (.int .i64 a) ∧ W.cell? ⟨w.heap.size, 2, none⟩ = some (.int .i64 b) ∧ W.cell? ⟨w.heap.size, 3, none⟩ = some (.int .i64 m)) (first | exact kk | exact ⟨c1, c2, c3⟩) (first
            | (go_at_call 57; (with_reducible refine (HA.out _).mono ?_); rintro e w2 ⟨rfl, rfl⟩)
            | (go_at_call 57; (with_reducible refine (HBc.out _).mono ?_); rintro e w2 ⟨rfl, rfl⟩)
            | (go_at_call 58; (with_reducible refine (F1.out _).mono ?_); rintro e w2 ⟨rfl, rfl⟩)
            | (go_at_call 58; (with_reducible refine (F2.out _).mono ?_); rintro e w2 ⟨rfl, rfl⟩)
            | (go_at_call 58; (with_reducible refine (F3.out _).mono ?_); rintro e w2 ⟨rfl, rfl⟩)
            | (go_at_call 59; (with_reducible refine (HU.out _).mono ?_); rintro e w2 ⟨rfl, hf⟩; have kk := HK.out _ hf))
          go_wp2_with fail
          go_ret
          exact ⟨rfl, H1.out.trans ((Fr.refl [] _).drew.trans hf)⟩
        | true =>
          simp only [if_true, if_false, Bool.false_eq_true, Bool.and_self, Bool.and_true, Bool.and_false, Bool.true_and, Bool.false_and, ↓reduceIte] at F3 ⊢
          go_enter Tryz.func26, Tryz.ntmps26
          go_wp2_with (first
            | (go_at_call 56; refine (HF.out _).mono ?_; rintro e w1 ⟨rfl, hf⟩; have H1 := Lib.hid (H0.out.trans hf); have HB1 := Lib.hid (HB.out.fr hf); clear hf)
            | (go_at_call 57; refine (HS.out _).mono ?_; rintro e w2 ⟨rfl, rfl⟩))
          obtain ⟨c1, c2, c3⟩ := HB1.out
          have HK := Lib.hid (fun W (hf : Fr [] w1.drew W) => (show W.cell? ⟨w.heap.size, 1, none⟩ = some (.int .i64 a) ∧ W.cell? ⟨w.heap.size, 2, none⟩ = some (.int .i64 b) ∧ W.cell? ⟨w.heap.size, 3, none⟩ = some (.int .i64 m) from HB1.out.fr ((Fr.refl [] w1).drew.trans hf)))
          go_region_held3 (fun W => W.cell? ⟨w.heap.size, 1, none⟩ = some (.int .i64 a) ∧ W.cell? ⟨w.heap.size, 2, none⟩ = some (.int .i64 b) ∧ W.cell? ⟨w.heap.size, 3, none⟩ = some (.int .i64 m)) (first | exact kk | exact ⟨c1, c2, c3⟩) (first
            | (go_at_call 57; (with_reducible refine (HA.out _).mono ?_); rintro e w2 ⟨rfl, rfl⟩)
            | (go_at_call 57; (with_reducible refine (HBc.out _).mono ?_); rintro e w2 ⟨rfl, rfl⟩)
            | (go_at_call 58; (with_reducible refine (F1.out _).mono ?_); rintro e w2 ⟨rfl, rfl⟩)
            | (go_at_call 58; (with_reducible refine (F2.out _).mono ?_); rintro e w2 ⟨rfl, rfl⟩)
            | (go_at_call 58; (with_reducible refine (F3.out _).mono ?_); rintro e w2 ⟨rfl, rfl⟩)
            | (go_at_call 59; (with_reducible refine (HU.out _).mono ?_); rintro e w2 ⟨rfl, hf⟩; have kk := HK.out _ hf))
          go_wp2_with fail
          go_ret
          exact ⟨rfl, H1.out.trans ((Fr.refl [] _).drew.trans hf)⟩
end Go.Proofs.YtbmaecdlkchkeaaGreatDoor
namespace Go.Proofs.YtbmaecdlkchkeaaGreatDoor
open Go.RowKit
set_option linter.unusedVariables false
set_option linter.unusedSimpArgs false
set_option maxRecDepth 100000
def In0 : In := ⟨0, 0, 0, 0⟩
def imB (k n : Nat) : Int := if hasC (fm k) 115 = true ∧ 32768 ≤ n then (n : Int) - 65536 else (n : Int)
def mkI (c0 c1 c2 c3 : Nat) : In := ⟨c0, (c1 / 16 : Nat), (c1 % 16 : Nat), imB c0 (c2 * 256 + c3)⟩
def decB (c0 c1 c2 c3 : Nat) : In × Int := if c0 < 30 ∧ okI (mkI c0 c1 c2 c3) c0 = true then (mkI c0 c1 c2 c3, 0) else (In0, 91)
def decI (s : ByteArray) : In × Int := match s.data.toList with | [c0, c1, c2, c3] => decB c0.toNat c1.toNat c2.toNat c3.toNat | _ => (In0, 91)
theorem Decode_long (s : ByteArray) (h : s.size ≠ 4) (w : World) : Calls Tryz.prog 39 #[.string s] w fun e w' => e = .returned (.tuple #[In0.v, .int .i64 91]) ∧ Fr [] w w' := by
  have hb : ((s.size : Int) == 4) = false := beq_eq_false_iff_ne.2 (by omega)
  have HF := Lib.hid (fun o => (Fr.refl [] w).alloc o)
  unfold In0
  go_enter Tryz.func39, Tryz.ntmps39
  go_wp2
  exact bodyPost_ret (v := .tuple #[.agg #[.int .i64 0, .int .i64 0, .int .i64 0, .int .i64 0], .int .i64 91]) (by simp [results, Tryz.results39, go_sem]) rfl ⟨rfl, HF.out _⟩
theorem Decode_no (s : ByteArray) (c0 : Nat) (h : s.size = 4) (h0 : ∀ h, (s[0]'h).toNat = c0) (hc : 30 ≤ c0) (b0 : c0 < 256) (w : World) : Calls Tryz.prog 39 #[.string s] w fun e w' => e = .returned (.tuple #[In0.v, .int .i64 91]) ∧ Fr [] w w' := by
  have hz : (s.size : Int) = 4 := by omega
  have hc' : (30 : Int) ≤ (c0 : Int) := by omega
  have h4 : 0 < s.size := by omega
  have HF := Lib.hid (fun o => (Fr.refl [] w).alloc o)
  unfold In0
  go_enter Tryz.func39, Tryz.ntmps39
  go_wp2
  exact bodyPost_ret (v := .tuple #[.agg #[.int .i64 0, .int .i64 0, .int .i64 0, .int .i64 0], .int .i64 91]) (by simp [results, Tryz.results39, go_sem]) rfl ⟨rfl, HF.out _⟩
theorem or16 (a b : Nat) (ha : a < 256) (hb : b < 256) : bits .or .u16 ((a : Int) * 256) (b : Int) = ((a * 256 + b : Nat) : Int) := by
  have h1 : (a : Int) * 256 = ((a * 256 : Nat) : Int) := by omega
  have h2 : a * 256 ||| b = a * 256 + b := by
    rw [Nat.mul_comm a 256]
    exact (Nat.two_pow_add_eq_or_of_lt (i := 8) (by omega) a).symm
  have h4 : ∀ x y : Nat, x < 65536 → y < 65536 → x ||| y < 65536 → bits .or .u16 (x : Int) (y : Int) = ((x ||| y : Nat) : Int) := by
    intro x y hx hy hxy
    show IntKind.u16.wrap (((BitVec.ofInt 16 (x : Int) ||| BitVec.ofInt 16 (y : Int)).toNat : Nat) : Int) = _
    rw [BitVec.toNat_or, BitVec.ofInt_natCast, BitVec.ofInt_natCast, BitVec.toNat_ofNat, BitVec.toNat_ofNat, Nat.mod_eq_of_lt (by omega), Nat.mod_eq_of_lt (by omega)]
    exact IntWalk.u16_in _ (by omega)
  rw [h1, h4 _ _ (by omega) (by omega) (by rw [h2]; omega), h2]
abbrev Z4 : Array Value := #[.int .i64 0, .int .i64 0, .int .i64 0, .int .i64 0]
theorem Blk.set4 {w : World} {g : Nat} {t : TypeId} {a b c d : Value} (h : Blk w g t #[a, b, c, d]) (v0 v1 v2 v3 : Value) : Blk ((((w.setCell ⟨g, 0, none⟩ v0).setCell ⟨g, 1, none⟩ v1).setCell ⟨g, 2, none⟩ v2).setCell ⟨g, 3, none⟩ v3) g t #[v0, v1, v2, v3] := (((h.set_ 0 v0).set_ 1 v1).set_ 2 v2).set_ 3 v3
theorem Fr.set4 {S : List Nat} {w0 w : World} (h : Fr S w0 w) {g : Nat} (hg : g ∈ S ∨ w0.heap.size ≤ g) (v0 v1 v2 v3 : Value) : Fr S w0 ((((w.setCell ⟨g, 0, none⟩ v0).setCell ⟨g, 1, none⟩ v1).setCell ⟨g, 2, none⟩ v2).setCell ⟨g, 3, none⟩ v3) :=
  (((h.setCell (p := ⟨g, 0, none⟩) hg v0).setCell (p := ⟨g, 1, none⟩) hg v1).setCell (p := ⟨g, 2, none⟩) hg v2).setCell (p := ⟨g, 3, none⟩) hg v3
theorem res95 {tmps : Array Value} {w : World} {g : Nat} {e : Value} {cs : Array Value} (h2 : tmps.getD 2 undef = .pointer (some ⟨g, 0, none⟩)) (h3 : tmps.getD 3 undef = e) (hb : Blk w g 55 cs) (hs : cs.size = 4) : (results Tryz.f39 tmps).run Tryz.prog w = .ok (.tuple #[.agg cs, e]) w := by
  have h1 : (asAddr (tmps.getD 2 undef)).run Tryz.prog w = .ok ⟨g, 0, none⟩ w := by rw [h2]; rfl
  rw [results_cell_tmp Tryz.results39, h1, h3]
  have h4 := run_loadVar_row (P := Tryz.prog) w g 55 55 cs (0, 0) _ hb Tryz.underlying55 rfl (by rw [hs]; kernel_rfl)
  simp [Result.andThen, h4]
set_option maxHeartbeats 4000000 in
theorem Decode_four (s : ByteArray) (c0 c1 c2 c3 : Nat) (h : s.size = 4) (h0 : ∀ h, (s[0]'h).toNat = c0) (h1 : ∀ h, (s[1]'h).toNat = c1) (h2 : ∀ h, (s[2]'h).toNat = c2) (h3 : ∀ h, (s[3]'h).toNat = c3) (hc : c0 < 30) (b1 : c1 < 256) (b2 : c2 < 256) (b3 : c3 < 256) (w : World) :
    Calls Tryz.prog 39 #[.string s] w fun e w' => e = .returned (.tuple #[(if okI (mkI c0 c1 c2 c3) c0 = true then mkI c0 c1 c2 c3 else In0).v, .int .i64 (if okI (mkI c0 c1 c2 c3) c0 = true then 0 else 91)]) ∧ Fr [] w w' := by
  have hz : (s.size : Int) = 4 := by omega
  have hc' : ¬ (30 : Int) ≤ (c0 : Int) := by omega
  have h4 : 0 < s.size := by omega
  have h5 : 1 < s.size := by omega
  have h6 : 2 < s.size := by omega
  have h7 : 3 < s.size := by omega
  have hor := or16 c2 c3 b2 b3
  have hq1 : (c1 : Int) / 16 = ((c1 / 16 : Nat) : Int) := by omega
  have hq2 : (c1 : Int) % 16 = ((c1 % 16 : Nat) : Int) := by omega
  have HFm := Lib.hid (fun W => form_any c0 hc W)
  have HS := Lib.hid (fun W => Contains_one (fm c0) 115 W)
  have HC := Lib.hid (fun W => Check_in (mkI c0 c1 c2 c3) c0 hc rfl W)
  unfold mkI imB at *
  have hN : c2 * 256 + c3 < 65536 := by omega
  generalize c2 * 256 + c3 = N at *
  have hA : c1 / 16 < 16 := by omega
  have hB : c1 % 16 < 16 := by omega
  generalize c1 / 16 = A at *
  generalize c1 % 16 = B at *
  have HE : Hid (∀ W, Fr [] (w.alloc (.cells Z4 55)) W → Fr [] w W) := Lib.hid (fun W hf => ((Fr.refl [] w).alloc _).trans hf)
  obtain ⟨C3, hC3⟩ : ∃ C3, hasC (fm c0) 115 = C3 := ⟨_, rfl⟩
  rw [hC3] at HS HC ⊢
  cases C3 with
  | false =>
    simp only [Bool.false_eq_true, false_and, if_false] at HC ⊢
    obtain ⟨K, hK⟩ : ∃ K, okI ⟨(c0 : Int), (A : Int), (B : Int), (N : Int)⟩ c0 = K := ⟨_, rfl⟩
    rw [hK] at HC ⊢
    clear hC3 hK
    generalize fm c0 = F at *
    cases K with
    | false =>
      simp only [Bool.false_eq_true, if_false] at HC ⊢
      go_enter Tryz.func39, Tryz.ntmps39
      go_wp2_with fail
      go_region
      go_wp2_with fail
      go_region
      go_wp2_with (first
        | (go_at_call 56; refine (HFm.out _).mono ?_; rintro e w1 ⟨rfl, hf⟩; have HB := Lib.hid (show Blk w1 (w.heap.size + 1) 55 #[.int .i64 (c0 : Int), .int .i64 (A : Int), .int .i64 (B : Int), .int .i64 (N : Int)] from (Blk.new' (by simp)).drew.drew.fr hf (by simp)); have HR := Lib.hid (show Blk w1 w.heap.size 55 Z4 from ((Blk.new w 55 _).alloc _).drew.drew.fr hf (by simp)); have H1 := Lib.hid (show Fr [] w w1 from (((Fr.refl [] w).alloc _).alloc _).drew.drew.trans hf); clear hf; have k0 := (HB.out.cell 0).trans rfl; have k1 := (HB.out.cell 1).trans rfl; have k2 := (HB.out.cell 2).trans rfl; have k3 := (HB.out.cell 3).trans rfl; have kf := HB.out.frozen)
        | (go_at_call 57; refine (HS.out _).mono ?_; rintro e w2 ⟨rfl, rfl⟩)
        | (go_at_call 26; refine (HC.out _).mono ?_; rintro e w3 ⟨rfl, hf⟩; have HB3 := Lib.hid (HB.out.fr hf (by simp)); have HR3 := Lib.hid (HR.out.fr hf (by simp)); have H3 := Lib.hid (H1.out.trans hf); clear hf k0 k1 k2 k3 kf; have k0 := (HB3.out.cell 0).trans rfl; have k1 := (HB3.out.cell 1).trans rfl; have k2 := (HB3.out.cell 2).trans rfl; have k3 := (HB3.out.cell 3).trans rfl; have j0 := (HR3.out.cell 0).trans rfl; have j1 := (HR3.out.cell 1).trans rfl; have j2 := (HR3.out.cell 2).trans rfl; have j3 := (HR3.out.cell 3).trans rfl; have jf := HR3.out.frozen)
        | fail)
      exact bodyPost_ret (v := .tuple #[.agg #[.int .i64 0, .int .i64 0, .int .i64 0, .int .i64 0], .int .i64 91]) (res95 rfl rfl (HR3.out.set4 _ _ _ _) rfl) rfl ⟨rfl, H3.out.set4 (.inr (Nat.le_refl _)) _ _ _ _⟩
    | true =>
      simp only [if_true] at HC ⊢
      go_enter Tryz.func39, Tryz.ntmps39
      go_wp2_with fail
      go_region
      go_wp2_with fail
      go_region
      go_wp2_with (first
        | (go_at_call 56; refine (HFm.out _).mono ?_; rintro e w1 ⟨rfl, hf⟩; have HB := Lib.hid (show Blk w1 (w.heap.size + 1) 55 #[.int .i64 (c0 : Int), .int .i64 (A : Int), .int .i64 (B : Int), .int .i64 (N : Int)] from (Blk.new' (by simp)).drew.drew.fr hf (by simp)); have HR := Lib.hid (show Blk w1 w.heap.size 55 Z4 from ((Blk.new w 55 _).alloc _).drew.drew.fr hf (by simp)); have H1 := Lib.hid (show Fr [] w w1 from (((Fr.refl [] w).alloc _).alloc _).drew.drew.trans hf); clear hf; have k0 := (HB.out.cell 0).trans rfl; have k1 := (HB.out.cell 1).trans rfl; have k2 := (HB.out.cell 2).trans rfl; have k3 := (HB.out.cell 3).trans rfl; have kf := HB.out.frozen)
        | (go_at_call 57; refine (HS.out _).mono ?_; rintro e w2 ⟨rfl, rfl⟩)
        | (go_at_call 26; refine (HC.out _).mono ?_; rintro e w3 ⟨rfl, hf⟩; have HB3 := Lib.hid (HB.out.fr hf (by simp)); have HR3 := Lib.hid (HR.out.fr hf (by simp)); have H3 := Lib.hid (H1.out.trans hf); clear hf k0 k1 k2 k3 kf; have k0 := (HB3.out.cell 0).trans rfl; have k1 := (HB3.out.cell 1).trans rfl; have k2 := (HB3.out.cell 2).trans rfl; have k3 := (HB3.out.cell 3).trans rfl; have j0 := (HR3.out.cell 0).trans rfl; have j1 := (HR3.out.cell 1).trans rfl; have j2 := (HR3.out.cell 2).trans rfl; have j3 := (HR3.out.cell 3).trans rfl; have jf := HR3.out.frozen)
        | fail)
      exact bodyPost_ret (v := .tuple #[.agg #[.int .i64 (c0 : Int), .int .i64 (A : Int), .int .i64 (B : Int), .int .i64 (N : Int)], .int .i64 0]) (res95 rfl rfl (HR3.out.set4 _ _ _ _) rfl) rfl ⟨rfl, H3.out.set4 (.inr (Nat.le_refl _)) _ _ _ _⟩
  | true =>
    obtain ⟨M, hM⟩ : ∃ M : Int, (if 32768 ≤ N then (N : Int) - 65536 else (N : Int)) = M := ⟨_, rfl⟩
    simp only [true_and] at HC ⊢
    rw [hM] at HC ⊢
    have hwM : IntKind.i16.wrap (N : Int) = M := by rw [← hM]; simp [IntKind.wrap, IntKind.bits, IntKind.signed]; split <;> omega
    have hMb : -32768 ≤ M ∧ M ≤ 32767 := by rw [← hM]; split <;> omega
    clear hM
    obtain ⟨K, hK⟩ : ∃ K, okI ⟨(c0 : Int), (A : Int), (B : Int), M⟩ c0 = K := ⟨_, rfl⟩
    rw [hK] at HC ⊢
    clear hC3 hK
    generalize fm c0 = F at *
    cases K with
    | false =>
      simp only [Bool.false_eq_true, if_false] at HC ⊢
      go_enter Tryz.func39, Tryz.ntmps39
      go_wp2_with fail
      go_region
      go_wp2_with fail
      go_region
      go_wp2_with (first
        | (go_at_call 56; refine (HFm.out _).mono ?_; rintro e w1 ⟨rfl, hf⟩; have HB := Lib.hid (show Blk w1 (w.heap.size + 1) 55 #[.int .i64 (c0 : Int), .int .i64 (A : Int), .int .i64 (B : Int), .int .i64 (N : Int)] from (Blk.new' (by simp)).drew.drew.fr hf (by simp)); have HR := Lib.hid (show Blk w1 w.heap.size 55 Z4 from ((Blk.new w 55 _).alloc _).drew.drew.fr hf (by simp)); have H1 := Lib.hid (show Fr [] w w1 from (((Fr.refl [] w).alloc _).alloc _).drew.drew.trans hf); clear hf; have k0 := (HB.out.cell 0).trans rfl; have k1 := (HB.out.cell 1).trans rfl; have k2 := (HB.out.cell 2).trans rfl; have k3 := (HB.out.cell 3).trans rfl; have kf := HB.out.frozen)
        | (go_at_call 57; refine (HS.out _).mono ?_; rintro e w2 ⟨rfl, rfl⟩)
        | (go_at_call 26; refine (HC.out _).mono ?_; rintro e w3 ⟨rfl, hf⟩; have HB3 := Lib.hid (show Blk w3 (w.heap.size + 1) 55 #[.int .i64 (c0 : Int), .int .i64 (A : Int), .int .i64 (B : Int), .int .i64 M] from (HB.out.set_ 3 (.int .i64 M)).fr hf (by simp)); have HR3 := Lib.hid (show Blk w3 w.heap.size 55 Z4 from (HR.out.far (p := ⟨w.heap.size + 1, 3, none⟩) (by simp) (.int .i64 M)).fr hf (by simp)); have H3 := Lib.hid (show Fr [] w w3 from (H1.out.setCell (p := ⟨w.heap.size + 1, 3, none⟩) (.inr (by simp)) (.int .i64 M)).trans hf); clear hf k0 k1 k2 k3 kf; have k0 := (HB3.out.cell 0).trans rfl; have k1 := (HB3.out.cell 1).trans rfl; have k2 := (HB3.out.cell 2).trans rfl; have k3 := (HB3.out.cell 3).trans rfl; have j0 := (HR3.out.cell 0).trans rfl; have j1 := (HR3.out.cell 1).trans rfl; have j2 := (HR3.out.cell 2).trans rfl; have j3 := (HR3.out.cell 3).trans rfl; have jf := HR3.out.frozen)
        | fail)
      exact bodyPost_ret (v := .tuple #[.agg #[.int .i64 0, .int .i64 0, .int .i64 0, .int .i64 0], .int .i64 91]) (res95 rfl rfl (HR3.out.set4 _ _ _ _) rfl) rfl ⟨rfl, H3.out.set4 (.inr (Nat.le_refl _)) _ _ _ _⟩
    | true =>
      simp only [if_true] at HC ⊢
      go_enter Tryz.func39, Tryz.ntmps39
      go_wp2_with fail
      go_region
      go_wp2_with fail
      go_region
      go_wp2_with (first
        | (go_at_call 56; refine (HFm.out _).mono ?_; rintro e w1 ⟨rfl, hf⟩; have HB := Lib.hid (show Blk w1 (w.heap.size + 1) 55 #[.int .i64 (c0 : Int), .int .i64 (A : Int), .int .i64 (B : Int), .int .i64 (N : Int)] from (Blk.new' (by simp)).drew.drew.fr hf (by simp)); have HR := Lib.hid (show Blk w1 w.heap.size 55 Z4 from ((Blk.new w 55 _).alloc _).drew.drew.fr hf (by simp)); have H1 := Lib.hid (show Fr [] w w1 from (((Fr.refl [] w).alloc _).alloc _).drew.drew.trans hf); clear hf; have k0 := (HB.out.cell 0).trans rfl; have k1 := (HB.out.cell 1).trans rfl; have k2 := (HB.out.cell 2).trans rfl; have k3 := (HB.out.cell 3).trans rfl; have kf := HB.out.frozen)
        | (go_at_call 57; refine (HS.out _).mono ?_; rintro e w2 ⟨rfl, rfl⟩)
        | (go_at_call 26; refine (HC.out _).mono ?_; rintro e w3 ⟨rfl, hf⟩; have HB3 := Lib.hid (show Blk w3 (w.heap.size + 1) 55 #[.int .i64 (c0 : Int), .int .i64 (A : Int), .int .i64 (B : Int), .int .i64 M] from (HB.out.set_ 3 (.int .i64 M)).fr hf (by simp)); have HR3 := Lib.hid (show Blk w3 w.heap.size 55 Z4 from (HR.out.far (p := ⟨w.heap.size + 1, 3, none⟩) (by simp) (.int .i64 M)).fr hf (by simp)); have H3 := Lib.hid (show Fr [] w w3 from (H1.out.setCell (p := ⟨w.heap.size + 1, 3, none⟩) (.inr (by simp)) (.int .i64 M)).trans hf); clear hf k0 k1 k2 k3 kf; have k0 := (HB3.out.cell 0).trans rfl; have k1 := (HB3.out.cell 1).trans rfl; have k2 := (HB3.out.cell 2).trans rfl; have k3 := (HB3.out.cell 3).trans rfl; have j0 := (HR3.out.cell 0).trans rfl; have j1 := (HR3.out.cell 1).trans rfl; have j2 := (HR3.out.cell 2).trans rfl; have j3 := (HR3.out.cell 3).trans rfl; have jf := HR3.out.frozen)
        | fail)
      exact bodyPost_ret (v := .tuple #[.agg #[.int .i64 (c0 : Int), .int .i64 (A : Int), .int .i64 (B : Int), .int .i64 M], .int .i64 0]) (res95 rfl rfl (HR3.out.set4 _ _ _ _) rfl) rfl ⟨rfl, H3.out.set4 (.inr (Nat.le_refl _)) _ _ _ _⟩
theorem Decode_any (s : ByteArray) (w : World) : Calls Tryz.prog 39 #[.string s] w fun e w' => e = .returned (.tuple #[(decI s).1.v, .int .i64 (decI s).2]) ∧ Fr [] w w' := by
  have long : ∀ s : ByteArray, s.size ≠ 4 → decI s = (In0, 91) → Calls Tryz.prog 39 #[.string s] w fun e w' => e = .returned (.tuple #[(decI s).1.v, .int .i64 (decI s).2]) ∧ Fr [] w w' := by
    intro s h1 h2
    rw [h2]
    exact Decode_long s h1 w
  obtain ⟨⟨l⟩⟩ := s
  match l with
  | [] => exact long _ (by decide) rfl
  | [_] => exact long _ (by simp [ByteArray.size]) rfl
  | [_, _] => exact long _ (by simp [ByteArray.size]) rfl
  | [_, _, _] => exact long _ (by simp [ByteArray.size]) rfl
  | [c0, c1, c2, c3] =>
    show Calls Tryz.prog 39 #[.string ⟨⟨[c0, c1, c2, c3]⟩⟩] w fun e w' => e = .returned (.tuple #[(decB c0.toNat c1.toNat c2.toNat c3.toNat).1.v, .int .i64 (decB c0.toNat c1.toNat c2.toNat c3.toNat).2]) ∧ Fr [] w w'
    by_cases hc : c0.toNat < 30
    · refine (Decode_four ⟨⟨[c0, c1, c2, c3]⟩⟩ c0.toNat c1.toNat c2.toNat c3.toNat rfl (fun _ => rfl) (fun _ => rfl) (fun _ => rfl) (fun _ => rfl) hc (UInt8.toNat_lt c1) (UInt8.toNat_lt c2) (UInt8.toNat_lt c3) w).mono fun e w' ⟨he, hf⟩ => ⟨?_, hf⟩
      rw [he]
      unfold decB
      by_cases ho : okI (mkI c0.toNat c1.toNat c2.toNat c3.toNat) c0.toNat = true
      · rw [if_pos ho, if_pos ho, if_pos ⟨hc, ho⟩]
      · rw [if_neg ho, if_neg ho, if_neg (fun h => ho h.2)]
    · have e : decB c0.toNat c1.toNat c2.toNat c3.toNat = (In0, 91) := by
        unfold decB
        rw [if_neg (fun h => hc h.1)]
      rw [e]
      exact Decode_no ⟨⟨[c0, c1, c2, c3]⟩⟩ c0.toNat rfl (fun _ => rfl) (by omega) (UInt8.toNat_lt c0) w
  | _ :: _ :: _ :: _ :: _ :: _ => exact long _ (by simp [ByteArray.size]) rfl
/-- What a decoded instruction is. -/
theorem decI_ok {s : ByteArray} (h : (decI s).2 = 0) : ∃ (k a b : Nat), (decI s).1.op = (k : Int) ∧ (decI s).1.a = (a : Int) ∧ (decI s).1.b = (b : Int) ∧ k < 30 ∧ a < 16 ∧ b < 16 ∧ -32768 ≤ (decI s).1.m ∧ (decI s).1.m ≤ 65535 := by
  unfold decI at h ⊢
  split at h
  · next c0 c1 c2 c3 heq =>
    unfold decB at h ⊢
    have b1 := UInt8.toNat_lt c1
    have b2 := UInt8.toNat_lt c2
    have b3 := UInt8.toNat_lt c3
    split at h
    · next hk =>
      rw [if_pos hk]
      refine ⟨c0.toNat, c1.toNat / 16, c1.toNat % 16, rfl, rfl, rfl, hk.1, by omega, by omega, ?_⟩
      unfold mkI imB
      simp only
      split <;> omega
    · simp at h
  · simp at h
end Go.Proofs.YtbmaecdlkchkeaaGreatDoor
