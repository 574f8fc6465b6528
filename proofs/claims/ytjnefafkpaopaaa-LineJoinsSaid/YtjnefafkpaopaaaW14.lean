/- Line: Receive on the document's row. -/
import Derived.Test.YtjnefafkpaopaaaW13
import Derived.Laws.IdiomStrings
namespace Go.Proofs.Ytjnefafkpaopaaa
open Go.RowKit
set_option linter.unusedVariables false
set_option linter.unusedSimpArgs false
def good3 : List (Nat × Nat) := [(13837309855095848960, 4613937818241073152), (4607182418800017408, 13837309855095848960), (13837309855095848960, 4607182418800017408)]
theorem nearm3 (w : World) : Calls Try.prog 13 #[.complex .f64 13837309855095848960 4613937818241073152] w fun e w' => e = .returned (.tuple #[.complex .f64 13837309855095848960 4613937818241073152, .bool true]) ∧ w = w' := by
  have h := Near_any 13837309855095848960 4613937818241073152 w
  have h1 : (ins4 13837309855095848960 && ins4 4613937818241073152) = true := by kernel_rfl
  have h2 : nn 13837309855095848960 4613937818241073152 = 3 := by kernel_rfl
  rw [h1, h2] at h
  exact h
theorem indexm3 (g cap : Nat) (w : World) (hb : Blk w g 27 #[.complex .f64 4613937818241073152 4613937818241073152, .complex .f64 13837309855095848960 4613937818241073152, .complex .f64 13837309855095848960 13837309855095848960, .complex .f64 4613937818241073152 13837309855095848960]) (hc : 4 ≤ cap) (hc2 : cap ≤ maxLen) :
    Calls Try.prog 18 #[.slice (some ⟨g, 0, none⟩) 4 cap, .complex .f64 13837309855095848960 4613937818241073152] w fun e w' => e = .returned (.int .i64 1) ∧ w = w' := by
  refine index_any pilots _ _ 4 _ _ 1 w ⟨rfl, .inr ⟨g, 0, cap, _, rfl, hc, hc2, hb, fun j u hu => ?_⟩⟩ (by omega) (by omega) (fun i p hp hi => ?_)
  · simpa [pilots, enc] using hu
  · match i, hi with
    | 0, _ =>
      simp [pilots] at hp
      subst hp
      have he : ((FloatKind.f64.format.order 13837309855095848960 4613937818241073152 == some .eq) && (FloatKind.f64.format.order 4613937818241073152 4613937818241073152 == some .eq)) = (0 == 1) := by kernel_rfl
      exact he
    | 1, _ =>
      simp [pilots] at hp
      subst hp
      have he : ((FloatKind.f64.format.order 13837309855095848960 13837309855095848960 == some .eq) && (FloatKind.f64.format.order 4613937818241073152 4613937818241073152 == some .eq)) = (1 == 1) := by kernel_rfl
      exact he
theorem own_cell1 {w : World} {base : Nat} {e : TypeId} {v : Value} {x : Value} (h : w.ownsRow base e 1 v 1 [x]) : ∃ g cap, v = .slice (some ⟨g, 0, none⟩) 1 cap ∧ w.cell? ⟨g, 0, none⟩ = some x ∧ base ≤ g := by
  obtain ⟨g, cap, rfl⟩ := own_succ h
  refine ⟨g, cap, rfl, ?_, ?_⟩
  · rw [h.cellAt 0 (by omega)]; rfl
  · exact (h.lt g rfl).1
theorem cells27 {w : World} {g : Nat} (h : w.cell? ⟨g, 0, none⟩ = some (.int .u8 27)) : ∀ j (hj : j < [(27 : UInt8)].length), w.cell? ((⟨g, 0, none⟩ : Addr).add j) = some (.int .u8 (([(27 : UInt8)][j]).toNat : Int)) := by
  intro j hj
  obtain rfl : j = 0 := by simpa using hj
  exact h
theorem conv27 {w : World} {g cap : Nat} (h : w.cell? ⟨g, 0, none⟩ = some (.int .u8 27)) : (convert 31 9 (.slice (some ⟨g, 0, none⟩) 1 cap)).run Try.prog w = .ok (.string ⟨#[27]⟩) w :=
  run_convert_bytes_back (P := Try.prog) w 31 9 5 ⟨g, 0, none⟩ cap [27] Try.underlying31 Try.underlying5 Try.underlying9 (cells27 h)
theorem Try.info5 : (Try.prog.info? 5).map (fun i => (i.zero, i.size, i.bytes)) = some (some (.int .u8 0), 1, 1) := by kernel_rfl
set_option maxRecDepth 100000 in
set_option maxHeartbeats 1000000 in
theorem Recv_good (g : Nat) (w : World) (hb : Blk w g 27 #[.complex .f64 13837309855095848960 4613937818241073152, .complex .f64 4607182418800017408 13837309855095848960, .complex .f64 13837309855095848960 4607182418800017408]) : Calls Try.prog 12 #[.slice (some ⟨g, 0, none⟩) 3 3] w fun e w' => e = .returned (.tuple #[.string ⟨#[27]⟩, .int .i64 0]) ∧ Fr [] w w' := by
  obtain ⟨i0, hi0, hz0, hz1, hz2⟩ := info3 Try.info5
  have c0 := hb.cell 0
  simp at c0
  have HN := Lib.hid fun w => nearm3 w
  have HX := Lib.hid fun (w : World) h => indexm3 w.heap.size 4 (w.alloc (.cells #[.complex .f64 4613937818241073152 4613937818241073152, .complex .f64 13837309855095848960 4613937818241073152, .complex .f64 13837309855095848960 13837309855095848960, .complex .f64 4613937818241073152 13837309855095848960] 27)) h (by omega) (by simp [maxLen])
  have HT := Lib.hid (Turn_0 good3 g 0 3 3 (-1) (w.alloc (.cells #[.complex .f64 4613937818241073152 4613937818241073152, .complex .f64 13837309855095848960 4613937818241073152, .complex .f64 13837309855095848960 13837309855095848960, .complex .f64 4613937818241073152 13837309855095848960] 27)) ((row3 (a := (_, _)) (b := (_, _)) (c := (_, _)) hb (by omega) (by simp [maxLen])).fr ((Fr.refl [] w).alloc _) (by simp)) (by omega) 3 (by kernel_rfl) (.inr rfl))
  have HM := Lib.hid fun w => num_of 13837309855095848960 13830554455654793216 1 true w (by kernel_rfl) (by kernel_rfl)
  have HK := Lib.hid fun w => num_of 4607182418800017408 4613937818241073152 11 true w (by kernel_rfl) (by kernel_rfl)
  have sh : ∀ w : World, (binOp .shl 5 (.int .u8 1) (.int .u64 4)).run Try.prog w = .ok (.int .u8 16) w := fun w => by kernel_rfl
  have so : ∀ w : World, (binOp .or 5 (.int .u8 16) (.int .u8 11)).run Try.prog w = .ok (.int .u8 27) w := fun w => by kernel_rfl
  clear hb
  go_enter Try.func12, Try.ntmps12
  go_wp2
  refine wp_scope_jumps 0 (fun _ _ => False) (fun _ _ => 0) rfl ?first ?pass
  case pass => exact fun _ _ h => h.elim
  case first =>
    go_wp2_with fail
    refine (HN.out _).mono ?_
    rintro e w1 ⟨rfl, rfl⟩
    go_wp2_with fail
    refine (HX.out _ (Blk.new _ _ _)).mono ?_
    rintro e w1 ⟨rfl, rfl⟩
    go_wp2_with fail
    refine HT.out.mono ?_
    rintro e w2 ⟨g1, cap1, rfl, hT, -⟩
    have c1 := hT.at_ (j := 1) rfl (by omega)
    have c2 := hT.at_ (j := 2) rfl (by omega)
    have e1 : ng 4607182418800017408 = 13830554455654793216 := by kernel_rfl
    have e2 : ng 13837309855095848960 = 4613937818241073152 := by kernel_rfl
    simp only [rot, e1, e2] at c1 c2
    clear e1 e2
    have hf2 := ((Fr.refl [] w).alloc (.cells #[.complex .f64 4613937818241073152 4613937818241073152, .complex .f64 13837309855095848960 4613937818241073152, .complex .f64 13837309855095848960 13837309855095848960, .complex .f64 4613937818241073152 13837309855095848960] 27)).trans hT.fr
    have hs2 := hf2.size
    have HF := Lib.hid hf2
    clear hT hf2
    have hX0 := (World.ownsRow_nil w2 w.heap.size 5 1).alloc (.cells #[.int .u8 27] 5)
    have hc27 : (w2.alloc (.cells #[.int .u8 27] 5)).cell? ⟨w2.heap.size, 0, none⟩ = some (.int .u8 27) := (Blk.new w2 5 #[.int .u8 27]).cell 0
    go_wp2_with fail
    refine wp_loop_rounds 2 ?_
    rw [rounds_succ]
    go_wp2_with fail
    refine (HM.out _).mono ?_
    rintro e w1 ⟨rfl, rfl⟩
    go_wp2_with fail
    refine (HK.out _).mono ?_
    rintro e w1 ⟨rfl, rfl⟩
    go_wp2_with (at_builtin; go_must (refine wpList_append_own _ rfl (.tmp 70) (.tmp 75) 31 rfl w.heap.size 5 i0 (.int .u8 0) 1 1 Try.underlying31 hi0 hz0 hz1 hz2 rfl (by decide) _ _ _ rfl hX0 ⟨w2.heap.size, 0, none⟩ 1 1 [.int .u8 27] rfl rfl (news1 hc27) (by simp [Value.oneCell']) (by simp [maxLen]) (by omega) (by simp; omega) ?_; intro x' w4 hox4 hgx4 _; have hf4 := (HF.out.alloc (.cells #[.int .u8 27] 5)).own hX0 hgx4; obtain ⟨g4, cap4, rfl, c4, hg4⟩ := own_cell1 hox4; have HF4 := Lib.hid hf4; have hcv := conv27 (cap := cap4) c4; clear hf4 hox4 hgx4))
    rw [rounds_succ]
    go_wp2_with fail
    refine wp_label ?_
    go_wp2_with fail
    unfold Exit.jump
    go_ret2
    exact ⟨rfl, HF4.out⟩
end Go.Proofs.Ytjnefafkpaopaaa
