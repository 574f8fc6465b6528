/- The program's consoles: New. -/
import Derived.Test.YtkjahokffpihmaaDoorC14
namespace Go.Proofs.YtkjahokffpihmaaDoor
open Go.RowKit
set_option linter.unusedVariables false
set_option linter.unusedSimpArgs false
set_option maxRecDepth 100000
def hd0 : Array Value := #[.int .i64 0, .string ⟨#[]⟩, .int .i64 0, .bool false, .string ⟨#[]⟩, .slice none 0 0]
theorem info70 : (Tryd.prog.info? 70).map (fun i => (i.zero, i.size)) = some (some (.agg (scells hd0 (zs 0))), 152) := by kernel_rfl
def okNew (lv : Int) (lg : ByteArray) : Bool := decide (1 ≤ lv) && decide (lv ≤ 8) && lgB lg
/-- A new console's state, ahead of its start. -/
def con0 (lv : Nat) (lg : ByteArray) : Con := ⟨lv, lg, 0, false, empty, [], sclear⟩
def newCon (lv : Nat) (lg : ByteArray) : Con := reset (con0 lv lg)
theorem lgB_spec {lg : ByteArray} (h : lgB lg = true) : okLg lg = true ∧ 1 ≤ lg.size ∧ lg.size ≤ 16 := by
  unfold lgB at h
  simp only [Bool.and_eq_true, decide_eq_true_eq] at h
  exact ⟨h.1.1, h.1.2, h.2⟩
theorem con0_ok {lv : Nat} {lg : ByteArray} (h1 : 1 ≤ lv) (h8 : lv ≤ 8) (hg : lgB lg = true) : ({ con0 lv lg with ks := List.replicate lv empty } : Con).Ok := by
  obtain ⟨-, g1, g2⟩ := lgB_spec hg
  exact ⟨h1, h8, g1, g2, by simp [con0], by simp only [con0]; omega, by simp [con0, empty, ByteArray.size], by simp [con0], fun s hs => by simp at hs; rw [hs.2]; simp [empty, ByteArray.size], sclear_ok⟩
theorem newCon_ok {lv : Nat} {lg : ByteArray} (h1 : 1 ≤ lv) (h8 : lv ≤ 8) (hg : lgB lg = true) : (newCon lv lg).Ok := by
  exact trust_ok (con0_ok h1 h8 hg)
/-- What New hands back. -/
def NewP (w : World) (lv : Int) (lg : ByteArray) (e : Ending) (w' : World) : Prop :=
  Fr [] w w' ∧ ((okNew lv lg = false ∧ e = .returned (.tuple #[.pointer none, .int .i64 220])) ∨
    (okNew lv lg = true ∧ ∃ c k, e = .returned (.tuple #[ptr c, .int .i64 0]) ∧ ConAt w' c k (newCon lv.toNat lg) ∧ w.heap.size ≤ c ∧ w.heap.size ≤ k))
set_option maxHeartbeats 2000000 in
theorem new_bad (lv : Int) (lg : ByteArray) (w : World) (h : okNew lv lg = false) : Calls Tryd.prog 21 #[.int .i64 lv, .string lg] w (NewP w lv lg) := by
  have HC := Lib.hid (containsFunc_any lg w)
  have HB := Lib.hid h
  have hd : lv < 1 ∨ 8 < lv ∨ lg.size = 0 ∨ 16 < lg.size ∨ okLg lg = false := by
    unfold okNew lgB at h
    simp only [Bool.and_eq_false_iff, decide_eq_false_iff_not] at h
    rcases h with (h | h) | (h | h) | h
    · left; omega
    · right; left; omega
    · right; right; right; right; exact h
    · right; right; left; omega
    · right; right; right; left; omega
  clear h
  by_cases h1 : lv < 1
  · clear hd
    go_enter Tryd.func21, Tryd.ntmps21
    go_wp2_with (go_at_call 40; refine HC.out.mono ?_; rintro e w1 ⟨rfl, hf⟩; have HF := Lib.hid hf; clear hf)
    go_ret2
    exact ⟨HF.out, .inl ⟨HB.out, rfl⟩⟩
  · by_cases h2 : 8 < lv
    · clear hd
      go_enter Tryd.func21, Tryd.ntmps21
      go_wp2_with (go_at_call 40; refine HC.out.mono ?_; rintro e w1 ⟨rfl, hf⟩; have HF := Lib.hid hf; clear hf)
      go_ret2
      exact ⟨HF.out, .inl ⟨HB.out, rfl⟩⟩
    · by_cases h3 : lg.size = 0
      · have e : lg = ⟨#[]⟩ := by
          apply ByteArray.ext
          exact Array.eq_empty_of_size_eq_zero h3
        subst e
        clear hd h3
        go_enter Tryd.func21, Tryd.ntmps21
        go_wp2_with (go_at_call 40; refine HC.out.mono ?_; rintro e w1 ⟨rfl, hf⟩; have HF := Lib.hid hf; clear hf)
        go_ret2
        exact ⟨HF.out, .inl ⟨HB.out, rfl⟩⟩
      · have q1 : lg.toList ≠ [] := by rw [ByteArray.toList_eq]; intro h; apply h3; have := congrArg List.length h; simpa using this
        by_cases h4 : (16 : Int) < (lg.size : Int)
        · clear hd h3
          go_enter Tryd.func21, Tryd.ntmps21
          go_wp2_with (go_at_call 40; refine HC.out.mono ?_; rintro e w1 ⟨rfl, hf⟩; have HF := Lib.hid hf; clear hf)
          go_ret2
          exact ⟨HF.out, .inl ⟨HB.out, rfl⟩⟩
        · have h5 : okLg lg = false := by rcases hd with h | h | h | h | h <;> first | exact h | omega
          unfold LgP at HC
          rw [h5] at HC
          clear hd h3 h5
          go_enter Tryd.func21, Tryd.ntmps21
          go_wp2_with (go_at_call 40; refine HC.out.mono ?_; rintro e w1 ⟨rfl, hf⟩; have HF := Lib.hid hf; clear hf)
          go_ret2
          exact ⟨HF.out, .inl ⟨HB.out, rfl⟩⟩
set_option maxHeartbeats 2000000 in
theorem new_ok (lv : Int) (lg : ByteArray) (w : World) (h : okNew lv lg = true) : Calls Tryd.prog 21 #[.int .i64 lv, .string lg] w (NewP w lv lg) := by
  have HC := Lib.hid (containsFunc_any lg w)
  have HB := Lib.hid h
  unfold okNew at h
  simp only [Bool.and_eq_true, decide_eq_true_eq] at h
  obtain ⟨⟨h1, h8⟩, hg⟩ := h
  obtain ⟨g0, g1, g16⟩ := lgB_spec hg
  obtain ⟨n, rfl⟩ := Int.eq_ofNat_of_zero_le (show 0 ≤ lv by omega)
  unfold LgP at HC
  rw [g0] at HC
  have q1 : lg.toList ≠ [] := by rw [ByteArray.toList_eq]; intro h; have := congrArg List.length h; simp at this; have h0 : lg.size = 0 := by rw [ByteArray.size, this]; rfl
                                 omega
  have q2 : lg.toList.isEmpty = false := by
    cases h : lg.toList with
    | nil => exact absurd h q1
    | cons a l => rfl
  have d1 : ¬ (n : Int) < 1 := by omega
  have d2 : ¬ (8 : Int) < (n : Int) := by omega
  have d3 : ¬ (16 : Int) < (lg.size : Int) := by omega
  obtain ⟨hz, hs70⟩ := zero_of_info info70
  have hz70 : (scells hd0 (zs 0)).size = 152 := scells_size _ _
  have h1' : 1 ≤ n := by omega
  have h8' : n ≤ 8 := by omega
  have HX : Hid (∀ W : World, Calls Tryd.prog 27 #[ptr W.heap.size] (W.alloc (.cells (((scells hd0 (zs 0)).setIfInBounds 0 (.int .i64 (n : Int))).setIfInBounds 1 (.string lg)) 70)) (ConN (W.alloc (.cells (((scells hd0 (zs 0)).setIfInBounds 0 (.int .i64 (n : Int))).setIfInBounds 1 (.string lg)) 70)) W.heap.size (newCon n lg))) := Lib.hid fun W => by
    obtain ⟨y, hy⟩ : ∃ y : Con, ({ con0 n lg with ks := List.replicate n empty } : Con) = y := ⟨_, rfl⟩
    have hyo : y.Ok := by rw [← hy]; exact con0_ok h1' h8' hg
    have hyr : reset y = newCon n lg := by rw [← hy]; rfl
    have e : ((scells hd0 (zs 0)).setIfInBounds 0 (.int .i64 (n : Int))).setIfInBounds 1 (.string lg) = scells (hd y (.slice none 0 0)) (zs 0) := by
      rw [scells_head _ rfl _ 0 (by omega), scells_head _ rfl _ 1 (by omega), ← hy]
      rfl
    rw [e, ← hyr]
    exact reset_head _ _ y hyo _ ⟨_, _, _, rfl⟩ _ (Blk.new W 70 _)
  clear h1 h8 hg g0 g1 g16 h1' h8'
  generalize scells hd0 (zs 0) = Z at *
  have hzn : ¬ Z = #[] := by rintro rfl; simp at hz70
  have hz1 : 1 < Z.size := by omega
  go_enter Tryd.func21, Tryd.ntmps21
  go_wp2_with (first
    | (go_at_call 40; refine HC.out.mono ?_; rintro e w1 ⟨rfl, hf⟩; have HF := Lib.hid hf; clear hf)
    | (go_at_call 27; refine (HX.out w1).mono ?_; rintro e w2 hP; obtain ⟨rfl, k, hk, hf2, hk2⟩ := hP; have HQ := Lib.hid (And.intro hk (And.intro hf2 hk2)); clear hk hf2 hk2))
  go_ret2
  exact ⟨(HF.out.alloc _).step HQ.out.2.1 (fun j hj => by simp at hj; right; have := HF.out.size; omega), .inr ⟨HB.out, w1.heap.size, k, rfl, HQ.out.1, HF.out.size, by have := HQ.out.2.2; have := HF.out.size; simp at *; omega⟩⟩
theorem new_any (lv : Int) (lg : ByteArray) (w : World) : Calls Tryd.prog 21 #[.int .i64 lv, .string lg] w (NewP w lv lg) := by
  cases h : okNew lv lg with
  | false => exact new_bad lv lg w h
  | true => exact new_ok lv lg w h
end Go.Proofs.YtkjahokffpihmaaDoor
