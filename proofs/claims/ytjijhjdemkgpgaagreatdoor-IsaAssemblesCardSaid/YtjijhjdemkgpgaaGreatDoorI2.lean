/- Instructions: Check, of the program. -/
import Derived.Test.YtjijhjdemkgpgaaGreatDoorI1
import Derived.BigQuiet
import Derived.Deep.QuietTactic
namespace Go.Proofs.YtjijhjdemkgpgaaGreatDoor
open Go.RowKit
set_option linter.unusedVariables false
set_option linter.unusedSimpArgs false
set_option maxRecDepth 100000
theorem fm_small (k : Nat) (hk : k < 30) : (fm k).size ≤ 8 ∧ ∀ (i : Nat) (h : i < (fm k).size), ((fm k)[i]'h).toNat < 128 := by
  have h1 : ∀ k, k < 30 → (fm k).size ≤ 8 ∧ ((fm k).data.toList.all fun c => decide (c.toNat < 128)) = true := by decide
  obtain ⟨h2, h3⟩ := h1 k hk
  refine ⟨h2, fun i h => ?_⟩
  rw [List.all_eq_true] at h3
  have hget : (fm k).data.toList[i]? = some ((fm k)[i]'h) := List.getElem?_eq_getElem (by exact h)
  have := h3 _ (List.mem_of_getElem? hget)
  simpa using this
def okI (i : In) (k : Nat) : Bool := fitsB (hasC (fm k) 97) i.a 0 15 && fitsB (hasC (fm k) 98) i.b 0 15 && fitsB (hasU (fm k)) i.m (if hasC (fm k) 115 then -32768 else 0) (if hasC (fm k) 115 then 32767 else 65535)
def chkI (i : In) : Int := if i.op < 0 ∨ 30 ≤ i.op then 90 else if okI i i.op.toNat then 0 else 90
/-- The cells of a box that the test reads. -/
def BxI (g : Nat) (i : In) (W : World) : Prop := W.cell? ⟨g, 1, none⟩ = some (.int .i64 i.a) ∧ W.cell? ⟨g, 2, none⟩ = some (.int .i64 i.b) ∧ W.cell? ⟨g, 3, none⟩ = some (.int .i64 i.m)
theorem BxI.fr {g : Nat} {i : In} {w w' : World} (h : BxI g i w) (hf : Fr [] w w') : BxI g i w' := ⟨hf.cell_some h.1 (by simp), hf.cell_some h.2.1 (by simp), hf.cell_some h.2.2 (by simp)⟩
set_option maxHeartbeats 4000000 in
theorem Check_in (i : In) (k : Nat) (hk : k < 30) (hop : i.op = (k : Int)) (w : World) : Calls Tryz.prog 15 #[i.v] w fun e w' => e = .returned (.int .i64 (if okI i k then 0 else 90)) ∧ Fr [] w w' := by
  obtain ⟨op, a, b, m⟩ := i
  simp only at hop
  subst hop
  have HF := Lib.hid (fun W => form_any k hk W)
  have hB1 : BxI w.heap.size ⟨k, a, b, m⟩ (w.alloc (.cells #[.int .i64 (k : Int), .int .i64 a, .int .i64 b, .int .i64 m] 23)) := ⟨by rw [(Blk.new _ _ _).cell]; rfl, by rw [(Blk.new _ _ _).cell]; rfl, by rw [(Blk.new _ _ _).cell]; rfl⟩
  have HB := Lib.hid hB1
  have H0 : Hid (Fr [] w (w.alloc (.cells #[.int .i64 (k : Int), .int .i64 a, .int .i64 b, .int .i64 m] 23))) := Lib.hid ((Fr.refl [] w).alloc _)
  have HA := Lib.hid (fun W => Contains_one (fm k) 97 W)
  have HBc := Lib.hid (fun W => Contains_one (fm k) 98 W)
  have HS := Lib.hid (fun W => Contains_one (fm k) 115 W)
  have HU := Lib.hid (fun W => ContainsAny_us (fm k) (fm_small k hk).1 (fm_small k hk).2 W)
  have hk0 : ¬ (k : Int) < 0 := by omega
  have hk1 : ¬ (30 : Int) ≤ (k : Int) := by omega
  unfold okI
  simp only
  have F1 := Lib.hid (fun W => fits_any (hasC (fm k) 97) a 0 15 W)
  have F2 := Lib.hid (fun W => fits_any (hasC (fm k) 98) b 0 15 W)
  have F3 := Lib.hid (fun W => fits_any (hasU (fm k)) m (if hasC (fm k) 115 then -32768 else 0) (if hasC (fm k) 115 then 32767 else 65535) W)
  generalize fitsB (hasC (fm k) 97) a 0 15 = B1 at *
  generalize fitsB (hasC (fm k) 98) b 0 15 = B2 at *
  generalize fitsB (hasU (fm k)) m (if hasC (fm k) 115 then -32768 else 0) (if hasC (fm k) 115 then 32767 else 65535) = B3 at *
  generalize hasU (fm k) = U at *
  generalize hasC (fm k) 97 = C1 at *
  generalize hasC (fm k) 98 = C2 at *
  generalize hasC (fm k) 115 = C3 at *
  generalize fm k = F at *
  clear hk hB1
  cases C3 with
  | false =>
    cases B1 with
    | false =>
      simp only [if_true, if_false, Bool.false_eq_true, Bool.and_self, Bool.and_true, Bool.and_false, Bool.true_and, Bool.false_and, ↓reduceIte] at F3 ⊢
      go_enter Tryz.func15, Tryz.ntmps15
      go_wp2_with (first
        | (go_at_call 25; refine (HF.out _).mono ?_; rintro e w1 ⟨rfl, hf⟩; have H1 := Lib.hid (H0.out.trans hf); have HB1 := Lib.hid (HB.out.fr hf); clear hf)
        | (go_at_call 24; refine (HS.out _).mono ?_; rintro e w2 ⟨rfl, rfl⟩))
      obtain ⟨c1, c2, c3⟩ := HB1.out
      go_quiet (first
        | (go_at_call 24; with_reducible exact Calls.quiet_of_same (same_of (HA.out _)))
        | (go_at_call 31; with_reducible exact Calls.quiet_of_same (same_of (F1.out _))))
      go_wp2_with fail
      go_ret
      exact ⟨rfl, H1.out.drewN _⟩
    | true =>
      cases B2 with
      | false =>
        simp only [if_true, if_false, Bool.false_eq_true, Bool.and_self, Bool.and_true, Bool.and_false, Bool.true_and, Bool.false_and, ↓reduceIte] at F3 ⊢
        go_enter Tryz.func15, Tryz.ntmps15
        go_wp2_with (first
          | (go_at_call 25; refine (HF.out _).mono ?_; rintro e w1 ⟨rfl, hf⟩; have H1 := Lib.hid (H0.out.trans hf); have HB1 := Lib.hid (HB.out.fr hf); clear hf)
          | (go_at_call 24; refine (HS.out _).mono ?_; rintro e w2 ⟨rfl, rfl⟩))
        obtain ⟨c1, c2, c3⟩ := HB1.out
        go_quiet (first
          | (go_at_call 24; with_reducible exact Calls.quiet_of_same (same_of (HA.out _)))
          | (go_at_call 24; with_reducible exact Calls.quiet_of_same (same_of (HBc.out _)))
          | (go_at_call 31; with_reducible exact Calls.quiet_of_same (same_of (F1.out _)))
          | (go_at_call 31; with_reducible exact Calls.quiet_of_same (same_of (F2.out _))))
        go_wp2_with fail
        go_ret
        exact ⟨rfl, H1.out.drewN _⟩
      | true =>
        cases B3 with
        | false =>
          simp only [if_true, if_false, Bool.false_eq_true, Bool.and_self, Bool.and_true, Bool.and_false, Bool.true_and, Bool.false_and, ↓reduceIte] at F3 ⊢
          go_enter Tryz.func15, Tryz.ntmps15
          go_wp2_with (first
            | (go_at_call 25; refine (HF.out _).mono ?_; rintro e w1 ⟨rfl, hf⟩; have H1 := Lib.hid (H0.out.trans hf); have HB1 := Lib.hid (HB.out.fr hf); clear hf)
            | (go_at_call 24; refine (HS.out _).mono ?_; rintro e w2 ⟨rfl, rfl⟩))
          obtain ⟨c1, c2, c3⟩ := HB1.out
          have HK := Lib.hid (fun W (hf : Fr [] w1.drew W) => (show W.cell? ⟨w.heap.size, 1, none⟩ = some (.int .i64 a) ∧ W.cell? ⟨w.heap.size, 2, none⟩ = some (.int .i64 b) ∧ W.cell? ⟨w.heap.size, 3, none⟩ = some (.int .i64 m) from HB1.out.fr ((Fr.refl [] w1).drew.trans hf)))
          go_region_held3 (fun W => W.cell? ⟨w.heap.size, 1, none⟩ = some (.int .i64 a) ∧ W.cell? ⟨w.heap.size, 2, none⟩ = some (.int .i64 b) ∧ W.cell? ⟨w.heap.size, 3, none⟩ = some (.int .i64 m)) (first | exact kk | exact ⟨c1, c2, c3⟩) (first
            | (go_at_call 24; (with_reducible refine (HA.out _).mono ?_); rintro e w2 ⟨rfl, rfl⟩)
            | (go_at_call 24; (with_reducible refine (HBc.out _).mono ?_); rintro e w2 ⟨rfl, rfl⟩)
            | (go_at_call 31; (with_reducible refine (F1.out _).mono ?_); rintro e w2 ⟨rfl, rfl⟩)
            | (go_at_call 31; (with_reducible refine (F2.out _).mono ?_); rintro e w2 ⟨rfl, rfl⟩)
            | (go_at_call 31; (with_reducible refine (F3.out _).mono ?_); rintro e w2 ⟨rfl, rfl⟩)
            | (go_at_call 32; (with_reducible refine (HU.out _).mono ?_); rintro e w2 ⟨rfl, hf⟩; have kk := HK.out _ hf))
          go_wp2_with fail
          go_ret
          exact ⟨rfl, H1.out.trans ((Fr.refl [] _).drew.trans hf)⟩
        | true =>
          simp only [if_true, if_false, Bool.false_eq_true, Bool.and_self, Bool.and_true, Bool.and_false, Bool.true_and, Bool.false_and, ↓reduceIte] at F3 ⊢
          go_enter Tryz.func15, Tryz.ntmps15
          go_wp2_with (first
            | (go_at_call 25; refine (HF.out _).mono ?_; rintro e w1 ⟨rfl, hf⟩; have H1 := Lib.hid (H0.out.trans hf); have HB1 := Lib.hid (HB.out.fr hf); clear hf)
            | (go_at_call 24; refine (HS.out _).mono ?_; rintro e w2 ⟨rfl, rfl⟩))
          obtain ⟨c1, c2, c3⟩ := HB1.out
          have HK := Lib.hid (fun W (hf : Fr [] w1.drew W) => (show W.cell? ⟨w.heap.size, 1, none⟩ = some (.int .i64 a) ∧ W.cell? ⟨w.heap.size, 2, none⟩ = some (.int .i64 b) ∧ W.cell? ⟨w.heap.size, 3, none⟩ = some (.int .i64 m) from HB1.out.fr ((Fr.refl [] w1).drew.trans hf)))
          go_region_held3 (fun W => W.cell? ⟨w.heap.size, 1, none⟩ = some (.int .i64 a) ∧ W.cell? ⟨w.heap.size, 2, none⟩ = some (.int .i64 b) ∧ W.cell? ⟨w.heap.size, 3, none⟩ = some (.int .i64 m)) (first | exact kk | exact ⟨c1, c2, c3⟩) (first
            | (go_at_call 24; (with_reducible refine (HA.out _).mono ?_); rintro e w2 ⟨rfl, rfl⟩)
            | (go_at_call 24; (with_reducible refine (HBc.out _).mono ?_); rintro e w2 ⟨rfl, rfl⟩)
            | (go_at_call 31; (with_reducible refine (F1.out _).mono ?_); rintro e w2 ⟨rfl, rfl⟩)
            | (go_at_call 31; (with_reducible refine (F2.out _).mono ?_); rintro e w2 ⟨rfl, rfl⟩)
            | (go_at_call 31; (with_reducible refine (F3.out _).mono ?_); rintro e w2 ⟨rfl, rfl⟩)
            | (go_at_call 32; (with_reducible refine (HU.out _).mono ?_); rintro e w2 ⟨rfl, hf⟩; have kk := HK.out _ hf))
          go_wp2_with fail
          go_ret
          exact ⟨rfl, H1.out.trans ((Fr.refl [] _).drew.trans hf)⟩
  | true =>
    cases B1 with
    | false =>
      simp only [if_true, if_false, Bool.false_eq_true, Bool.and_self, Bool.and_true, Bool.and_false, Bool.true_and, Bool.false_and, ↓reduceIte] at F3 ⊢
      go_enter Tryz.func15, Tryz.ntmps15
      go_wp2_with (first
        | (go_at_call 25; refine (HF.out _).mono ?_; rintro e w1 ⟨rfl, hf⟩; have H1 := Lib.hid (H0.out.trans hf); have HB1 := Lib.hid (HB.out.fr hf); clear hf)
        | (go_at_call 24; refine (HS.out _).mono ?_; rintro e w2 ⟨rfl, rfl⟩))
      obtain ⟨c1, c2, c3⟩ := HB1.out
      go_quiet (first
        | (go_at_call 24; with_reducible exact Calls.quiet_of_same (same_of (HA.out _)))
        | (go_at_call 31; with_reducible exact Calls.quiet_of_same (same_of (F1.out _))))
      go_wp2_with fail
      go_ret
      exact ⟨rfl, H1.out.drewN _⟩
    | true =>
      cases B2 with
      | false =>
        simp only [if_true, if_false, Bool.false_eq_true, Bool.and_self, Bool.and_true, Bool.and_false, Bool.true_and, Bool.false_and, ↓reduceIte] at F3 ⊢
        go_enter Tryz.func15, Tryz.ntmps15
        go_wp2_with (first
          | (go_at_call 25; refine (HF.out _).mono ?_; rintro e w1 ⟨rfl, hf⟩; have H1 := Lib.hid (H0.out.trans hf); have HB1 := Lib.hid (HB.out.fr hf); clear hf)
          | (go_at_call 24; refine (HS.out _).mono ?_; rintro e w2 ⟨rfl, rfl⟩))
        obtain ⟨c1, c2, c3⟩ := HB1.out
        go_quiet (first
          | (go_at_call 24; with_reducible exact Calls.quiet_of_same (same_of (HA.out _)))
          | (go_at_call 24; with_reducible exact Calls.quiet_of_same (same_of (HBc.out _)))
          | (go_at_call 31; with_reducible exact Calls.quiet_of_same (same_of (F1.out _)))
          | (go_at_call 31; with_reducible exact Calls.quiet_of_same (same_of (F2.out _))))
        go_wp2_with fail
        go_ret
        exact ⟨rfl, H1.out.drewN _⟩
      | true =>
        cases B3 with
        | false =>
          simp only [if_true, if_false, Bool.false_eq_true, Bool.and_self, Bool.and_true, Bool.and_false, Bool.true_and, Bool.false_and, ↓reduceIte] at F3 ⊢
          go_enter Tryz.func15, Tryz.ntmps15
          go_wp2_with (first
            | (go_at_call 25; refine (HF.out _).mono ?_; rintro e w1 ⟨rfl, hf⟩; have H1 := Lib.hid (H0.out.trans hf); have HB1 := Lib.hid (HB.out.fr hf); clear hf)
            | (go_at_call 24; refine (HS.out _).mono ?_; rintro e w2 ⟨rfl, rfl⟩))
          obtain ⟨c1, c2, c3⟩ := HB1.out
          have HK := Lib.hid (fun W (hf : Fr [] w1.drew W) => (show W.cell? ⟨w.heap.size, 1, none⟩ = some (.int .i64 a) ∧ W.cell? ⟨w.heap.size, 2, none⟩ = some (.int .i64 b) ∧ W.cell? ⟨w.heap.size, 3, none⟩ = some (.int .i64 m) from HB1.out.fr ((Fr.refl [] w1).drew.trans hf)))
          go_region_held3 (fun W => W.cell? ⟨w.heap.size, 1, none⟩ = some (.int .i64 a) ∧ W.cell? ⟨w.heap.size, 2, none⟩ = some (.int .i64 b) ∧ W.cell? ⟨w.heap.size, 3, none⟩ = some (.int .i64 m)) (first | exact kk | exact ⟨c1, c2, c3⟩) (first
            | (go_at_call 24; (with_reducible refine (HA.out _).mono ?_); rintro e w2 ⟨rfl, rfl⟩)
            | (go_at_call 24; (with_reducible refine (HBc.out _).mono ?_); rintro e w2 ⟨rfl, rfl⟩)
            | (go_at_call 31; (with_reducible refine (F1.out _).mono ?_); rintro e w2 ⟨rfl, rfl⟩)
            | (go_at_call 31; (with_reducible refine (F2.out _).mono ?_); rintro e w2 ⟨rfl, rfl⟩)
            | (go_at_call 31; (with_reducible refine (F3.out _).mono ?_); rintro e w2 ⟨rfl, rfl⟩)
            | (go_at_call 32; (with_reducible refine (HU.out _).mono ?_); rintro e w2 ⟨rfl, hf⟩; have kk := HK.out _ hf))
          go_wp2_with fail
          go_ret
          exact ⟨rfl, H1.out.trans ((Fr.refl [] _).drew.trans hf)⟩
        | true =>
          simp only [if_true, if_false, Bool.false_eq_true, Bool.and_self, Bool.and_true, Bool.and_false, Bool.true_and, Bool.false_and, ↓reduceIte] at F3 ⊢
          go_enter Tryz.func15, Tryz.ntmps15
          go_wp2_with (first
            | (go_at_call 25; refine (HF.out _).mono ?_; rintro e w1 ⟨rfl, hf⟩; have H1 := Lib.hid (H0.out.trans hf); have HB1 := Lib.hid (HB.out.fr hf); clear hf)
            | (go_at_call 24; refine (HS.out _).mono ?_; rintro e w2 ⟨rfl, rfl⟩))
          obtain ⟨c1, c2, c3⟩ := HB1.out
          have HK := Lib.hid (fun W (hf : Fr [] w1.drew W) => (show W.cell? ⟨w.heap.size, 1, none⟩ = some (.int .i64 a) ∧ W.cell? ⟨w.heap.size, 2, none⟩ = some (.int .i64 b) ∧ W.cell? ⟨w.heap.size, 3, none⟩ = some (.int .i64 m) from HB1.out.fr ((Fr.refl [] w1).drew.trans hf)))
          go_region_held3 (fun W => W.cell? ⟨w.heap.size, 1, none⟩ = some (.int .i64 a) ∧ W.cell? ⟨w.heap.size, 2, none⟩ = some (.int .i64 b) ∧ W.cell? ⟨w.heap.size, 3, none⟩ = some (.int .i64 m)) (first | exact kk | exact ⟨c1, c2, c3⟩) (first
            | (go_at_call 24; (with_reducible refine (HA.out _).mono ?_); rintro e w2 ⟨rfl, rfl⟩)
            | (go_at_call 24; (with_reducible refine (HBc.out _).mono ?_); rintro e w2 ⟨rfl, rfl⟩)
            | (go_at_call 31; (with_reducible refine (F1.out _).mono ?_); rintro e w2 ⟨rfl, rfl⟩)
            | (go_at_call 31; (with_reducible refine (F2.out _).mono ?_); rintro e w2 ⟨rfl, rfl⟩)
            | (go_at_call 31; (with_reducible refine (F3.out _).mono ?_); rintro e w2 ⟨rfl, rfl⟩)
            | (go_at_call 32; (with_reducible refine (HU.out _).mono ?_); rintro e w2 ⟨rfl, hf⟩; have kk := HK.out _ hf))
          go_wp2_with fail
          go_ret
          exact ⟨rfl, H1.out.trans ((Fr.refl [] _).drew.trans hf)⟩
end Go.Proofs.YtjijhjdemkgpgaaGreatDoor
