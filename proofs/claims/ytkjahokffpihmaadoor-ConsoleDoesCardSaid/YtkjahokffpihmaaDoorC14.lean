/- What a login may be: strings.ContainsFunc with the program's test; the document's test. -/
import Derived.Test.YtkjahokffpihmaaDoorC13
import Derived.Laws.RangeString
import Derived.Laws.RangeAny
import Derived.LoopTactic
namespace Go.Proofs.YtkjahokffpihmaaDoor
open Go.RowKit
set_option linter.unusedVariables false
set_option linter.unusedSimpArgs false
set_option maxRecDepth 100000
def okb (b : UInt8) : Bool := decide (33 ≤ b.toNat) && decide (b.toNat ≤ 126)
/-- Are all its bytes seen? -/
def okLg (s : ByteArray) : Bool := s.data.toList.all okb
theorem odd_any (r : Int) (w : World) : Calls Tryd.prog 41 #[.int .i32 r] w fun e w' => e = .returned (.bool (decide (r < 33) || decide (126 < r))) ∧ w = w' := by
  by_cases h : r < 33
  · rw [decide_eq_true h, Bool.true_or]
    go_enter Tryd.func41, Tryd.ntmps41
    go_wp2
    go_ret
    exact ⟨rfl, rfl⟩
  · rw [decide_eq_false h, Bool.false_or]
    go_enter Tryd.func41, Tryd.ntmps41
    go_wp2
    go_ret
    exact ⟨rfl, rfl⟩
def IdxP (s : ByteArray) (w : World) (e : Ending) (w' : World) : Prop := ∃ n : Int, e = .returned (.int .i64 n) ∧ decide (0 ≤ n) = !okLg s ∧ Fr [] w w'
set_option maxHeartbeats 2000000 in
theorem indexFunc_any (s : ByteArray) (w : World) : Calls Tryd.prog 70 #[.string s, .func (.func 41) #[] #[], .bool true] w (IdxP s w) := by
  have HF := Lib.hid (fun pos => (Fr.refl [] w).alloc (.stringIter s pos))
  have hsz : s.data.toList.length = s.size := rfl
  go_enter Tryd.func70, Tryd.ntmps70
  go_wp2_with fail
  go_loopw [7, 8] (fun i r w' => ∃ (pos : Nat), w' = w.iter s pos ∧ pos ≤ s.size ∧ (s.data.toList.take pos).all okb = true) (fun _ _ w' => s.size - w'.iterPos w.heap.size)
  case atStart => exact ⟨0, rfl, by omega, by simp⟩
  case round =>
    obtain ⟨pos, rfl, hp, hall⟩ := hrel
    by_cases hlt : pos < s.size
    · have hget : s.data.toList[pos]? = some (s[pos]'hlt) := List.getElem?_eq_getElem (by rw [hsz]; exact hlt)
      have hp0 : (0 : Int) ≤ (pos : Int) := by omega
      by_cases hb : okb (s[pos]'hlt) = true
      · have hb' := hb
        unfold okb at hb'
        simp only [Bool.and_eq_true, decide_eq_true_eq] at hb'
        have hd := decode_ascii s pos hlt (by omega)
        have hnx : ∀ ty, (Instr.next (.pointer (some ⟨w.heap.size, 0, none⟩)) true ty).run Tryd.prog (w.iter s pos) = .ok (.tuple #[.bool true, .int .i64 pos, .int .i32 ((s[pos]'hlt).toNat : Int)]) (w.iter s (pos + 1)) := fun ty => by
          rw [run_next_any w s pos ty hlt, hd]
        have HN : Hid ((s.data.toList.take (pos + 1)).all okb = true) := Lib.hid (by
          rw [List.take_add_one, hget]
          simp [hall, hb])
        have H := Lib.hid (fun W => odd_any ((s[pos]'hlt).toNat : Int) W)
        rw [decide_eq_false (by omega), decide_eq_false (by omega)] at H
        generalize (s[pos]'hlt).toNat = c at *
        clear hget hd hsz hb hb' hall
        go_wp2_with (go_at_call 41; refine (H.out _).mono ?_; rintro e w1 ⟨rfl, rfl⟩)
        go_roundw
        case rel => exact ⟨pos + 1, rfl, by omega, HN.out⟩
        case measure => simp; omega
      · have HX : Hid (decide ((0 : Int) ≤ (pos : Int)) = !okLg s) := Lib.hid (by
          have : okLg s = false := by
            unfold okLg
            cases h : s.data.toList.all okb with
            | false => rfl
            | true => exact absurd (List.all_eq_true.1 h _ (List.mem_of_getElem? hget)) hb
          rw [this, decide_eq_true hp0]
          rfl)
        have hod : (decide (((Utf8.decode s pos).1 : Int) < 33) || decide ((126 : Int) < ((Utf8.decode s pos).1 : Int))) = true := by
          by_cases h128 : (s[pos]'hlt).toNat < 128
          · rw [decode_ascii s pos hlt h128]
            unfold okb at hb
            simp only [Bool.and_eq_true, decide_eq_true_eq] at hb
            simp only [Bool.or_eq_true, decide_eq_true_eq]
            omega
          · have := (decode_high s pos hlt (by omega)).1
            simp only [Bool.or_eq_true, decide_eq_true_eq]
            omega
        have hle := decode_le s pos
        have hnx : ∀ ty, (Instr.next (.pointer (some ⟨w.heap.size, 0, none⟩)) true ty).run Tryd.prog (w.iter s pos) = _ := fun ty => run_next_any w s pos ty hlt
        have H := Lib.hid (fun W => odd_any ((Utf8.decode s pos).1 : Int) W)
        rw [hod] at H
        generalize (Utf8.decode s pos).1 = r at *
        generalize (Utf8.decode s pos).2 = d at *
        clear hget hsz hb hall hod
        go_wp2_with (go_at_call 41; refine (H.out _).mono ?_; rintro e w1 ⟨rfl, rfl⟩)
        go_ret
        exact ⟨_, rfl, HX.out, HF.out _⟩
    · have hnx : ∀ ty, (Instr.next (.pointer (some ⟨w.heap.size, 0, none⟩)) true ty).run Tryd.prog (w.iter s pos) = _ := fun ty => run_next_end w s pos ty hlt
      have HX : Hid (decide ((0 : Int) ≤ -1) = !okLg s) := Lib.hid (by
        rw [List.take_of_length_le (by rw [hsz]; omega)] at hall
        unfold okLg
        rw [hall]
        rfl)
      clear hall hsz
      go_wp2_with fail
      go_ret
      exact ⟨_, rfl, HX.out, HF.out _⟩
def LgP (s : ByteArray) (w : World) (e : Ending) (w' : World) : Prop := e = .returned (.bool (!okLg s)) ∧ Fr [] w w'
theorem containsFunc_any (s : ByteArray) (w : World) : Calls Tryd.prog 40 #[.string s, .func (.func 41) #[] #[]] w (LgP s w) := by
  have H1 : Calls Tryd.prog 60 #[.string s, .func (.func 41) #[] #[]] w (IdxP s w) := by
    have H := Lib.hid (indexFunc_any s w)
    go_enter Tryd.func60, Tryd.ntmps60
    go_wp2_with (go_at_call 70; refine H.out.mono ?_; rintro e w1 ⟨n, rfl, hn, hf⟩; have HN := Lib.hid hn; have HF := Lib.hid hf; clear hn hf)
    go_ret
    exact ⟨_, rfl, HN.out, HF.out⟩
  have H := Lib.hid H1
  clear H1
  go_enter Tryd.func40, Tryd.ntmps40
  go_wp2_with (go_at_call 60; refine H.out.mono ?_; rintro e w1 ⟨n, rfl, hn, hf⟩; have HN := Lib.hid hn; have HF := Lib.hid hf; clear hn hf)
  go_ret
  exact ⟨by rw [← HN.out]; rfl, HF.out⟩
/-- May it be a login? -/
def lgB (s : ByteArray) : Bool := okLg s && decide (1 ≤ s.size) && decide (s.size ≤ 16)
set_option maxHeartbeats 1000000 in
theorem rLogin_any (s : ByteArray) (hs : s.size ≤ maxLen) (w : World) : Calls Tryd.prog 32 #[.string s] w fun e w' => e = .returned (.bool (lgB s)) ∧ w = w' := by
  have hsz : s.data.toList.length = s.size := rfl
  have hmx : s.size ≤ 9223372036854775807 := by simpa [maxLen] using hs
  clear hs
  go_enter Tryd.func32, Tryd.ntmps32
  go_wp2_with fail
  go_loop [3] (fun i => ∃ k : Nat, k ≤ s.size ∧ i = .int .i64 k ∧ (s.data.toList.take k).all okb = true) (fun i => s.size - (intOf i).toNat)
  case atStart => exact ⟨0, by omega, rfl, by simp⟩
  case round =>
    obtain ⟨k, hk, rfl, hall⟩ := hrel
    by_cases hlt : k < s.size
    · have hget : s.data.toList[k]? = some (s[k]'hlt) := List.getElem?_eq_getElem (by rw [hsz]; exact hlt)
      have i1 : (k : Int) < (s.size : Int) := by omega
      have i0 : (0 : Int) ≤ (k : Int) := by omega
      by_cases hb : okb (s[k]'hlt) = true
      · have HN : Hid ((s.data.toList.take (k + 1)).all okb = true) := Lib.hid (by
          rw [List.take_add_one, hget]
          simp [hall, hb])
        unfold okb at hb
        simp only [Bool.and_eq_true, decide_eq_true_eq] at hb
        have d1 : ¬ ((s[k]'hlt).toNat : Int) < 33 := by omega
        have d2 : ¬ (126 : Int) < ((s[k]'hlt).toNat : Int) := by omega
        clear hget hsz hb hall
        go_wp2_with fail
        go_round
        case rel => exact ⟨k + 1, by omega, by go_num, HN.out⟩
        case measure => simp [intOf]; omega
      · have HX : Hid (lgB s = false) := Lib.hid (by
          have : okLg s = false := by
            unfold okLg
            cases h : s.data.toList.all okb with
            | false => rfl
            | true => exact absurd (List.all_eq_true.1 h _ (List.mem_of_getElem? hget)) hb
          unfold lgB
          rw [this]
          rfl)
        unfold okb at hb
        simp only [Bool.and_eq_true, decide_eq_true_eq] at hb
        by_cases h33 : ((s[k]'hlt).toNat : Int) < 33
        · clear hget hsz hb hall
          go_wp2_with fail
          go_ret
          exact ⟨by rw [HX.out]; rfl, rfl⟩
        · have d2 : (126 : Int) < ((s[k]'hlt).toNat : Int) := by omega
          clear hget hsz hb hall
          go_wp2_with fail
          go_ret
          exact ⟨by rw [HX.out]; rfl, rfl⟩
    · have hl : ¬ (k : Int) < (s.size : Int) := by omega
      rw [List.take_of_length_le (by rw [hsz]; omega)] at hall
      have HX : Hid (lgB s = (decide (1 ≤ s.size) && decide (s.size ≤ 16))) := Lib.hid (by
        unfold lgB okLg
        rw [hall, Bool.true_and])
      clear hall hsz
      by_cases h1 : 1 ≤ s.size
      · by_cases h2 : s.size ≤ 16
        · have e1 : (1 : Int) ≤ (s.size : Int) := by omega
          have e2 : (s.size : Int) ≤ 16 := by omega
          rw [decide_eq_true h1, decide_eq_true h2] at HX
          clear h1 h2
          go_wp2_with fail
          go_ret
          exact ⟨by rw [HX.out]; rfl, rfl⟩
        · have e1 : (1 : Int) ≤ (s.size : Int) := by omega
          have e2 : ¬ (s.size : Int) ≤ 16 := by omega
          rw [decide_eq_true h1, decide_eq_false h2] at HX
          clear h1 h2
          go_wp2_with fail
          go_ret
          exact ⟨by rw [HX.out]; rfl, rfl⟩
      · have e1 : ¬ (1 : Int) ≤ (s.size : Int) := by omega
        rw [decide_eq_false h1] at HX
        clear h1
        go_wp2_with fail
        go_ret
        exact ⟨by rw [HX.out]; rfl, rfl⟩
end Go.Proofs.YtkjahokffpihmaaDoor
