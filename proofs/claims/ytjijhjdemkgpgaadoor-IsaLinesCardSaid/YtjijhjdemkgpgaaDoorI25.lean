/- IsaMoves, walked. -/
import Derived.Test.YtjijhjdemkgpgaaDoorI24
import Derived.Test.YtjijhjdemkgpgaaDoorI14
import Derived.Laws.MakeOwn
namespace Go.Proofs.YtjijhjdemkgpgaaDoor
open Go.RowKit Go.Maps
set_option linter.unusedVariables false
set_option linter.unusedSimpArgs false
set_option maxRecDepth 100000
theorem pass1_le : ∀ (ks : List LK) (n size : Nat) (pl : Pl) (s : Nat) (q : Pl), pass1 ks n size pl = .fine (s, q) → size ≤ 4096 → s ≤ 4096
  | [], n, size, pl, s, q, h, hs => by
    injection h with h
    injection h with h1 _
    omega
  | k :: ks, n, size, pl, s, q, h, hs => by
    cases k with
    | blank => exact pass1_le ks (n + 1) size pl s q h hs
    | lab l =>
      unfold pass1 at h
      split at h
      · cases h
      · exact pass1_le ks (n + 1) size _ s q h hs
    | ins i lb =>
      unfold pass1 at h
      split at h
      · cases h
      · exact pass1_le ks (n + 1) (size + 4) pl s q h (by omega)
    | wrd w =>
      unfold pass1 at h
      split at h
      · cases h
      · exact pass1_le ks (n + 1) (size + 4) pl s q h (by omega)
    | bad => cases h
theorem asm_len (L : List UInt8) : (asm L).1.length ≤ 4096 := by
  unfold asm
  split
  · exact Nat.zero_le _
  · cases h : asmK ((splitC 10 L).map lineK) with
    | bad n e => exact Nat.zero_le _
    | fine x =>
      obtain ⟨q, h1, -⟩ := asmK_fine h
      exact pass1_le _ _ _ _ _ _ h1 (by omega)
theorem pass1_line : ∀ (ks : List LK) (n size : Nat) (pl : Pl) (m : Nat) (e : Int), pass1 ks n size pl = .bad m e → m ≤ n + ks.length
  | [], n, size, pl, m, e, h => by cases h
  | k :: ks, n, size, pl, m, e, h => by
    rw [List.length_cons]
    cases k with
    | blank => have := pass1_line ks (n + 1) size pl m e h; omega
    | lab l =>
      unfold pass1 at h
      split at h
      · injection h with h _; omega
      · have := pass1_line ks (n + 1) size _ m e h; omega
    | ins i lb =>
      unfold pass1 at h
      split at h
      · injection h with h _; omega
      · have := pass1_line ks (n + 1) _ pl m e h; omega
    | wrd w =>
      unfold pass1 at h
      split at h
      · injection h with h _; omega
      · have := pass1_line ks (n + 1) _ pl m e h; omega
    | bad => injection h with h _; omega
theorem pass2_line : ∀ (ks : List LK) (n : Nat) (out : List UInt8) (pl : Pl) (m : Nat) (e : Int), pass2 ks n out pl = .bad m e → m ≤ n + ks.length
  | [], n, out, pl, m, e, h => by cases h
  | k :: ks, n, out, pl, m, e, h => by
    rw [List.length_cons]
    cases k with
    | blank => have := pass2_line ks (n + 1) out pl m e h; omega
    | lab l => have := pass2_line ks (n + 1) out pl m e h; omega
    | wrd w => have := pass2_line ks (n + 1) _ pl m e h; omega
    | bad => have := pass2_line ks (n + 1) out pl m e h; omega
    | ins i lb =>
      rw [pass2_ins] at h
      split at h
      · have := pass2_line ks (n + 1) _ pl m e h; omega
      · split at h
        · injection h with h _; omega
        · split at h
          · have := pass2_line ks (n + 1) _ pl m e h; omega
          · injection h with h _; omega
theorem asm_at (L : List UInt8) : (asm L).2.1 ≤ 32769 := by
  unfold asm
  split
  · exact Nat.zero_le _
  · have hc := splitC_count 10 L
    cases h : asmK ((splitC 10 L).map lineK) with
    | fine x => exact Nat.zero_le _
    | bad n e =>
      show n ≤ 32769
      have hlen : ((splitC 10 L).map lineK).length = (splitC 10 L).length := List.length_map _
      unfold asmK at h
      split at h
      · next n' e' h1 =>
        have := pass1_line _ _ _ _ _ _ h1
        injection h with h _
        omega
      · have := pass2_line _ _ _ _ _ _ h
        omega
theorem made_z (n : Nat) (hn : n ≤ 524288) : ∃ Z : Array Value, n ≤ Z.size ∧ (∀ j, j < n → Z[j]? = some (.int .u8 0)) ∧ ∀ w : World, (Instr.makeSlice 37 (.int .i64 (n : Int)) (.int .i64 (n : Int))).run Tryd.prog w = .ok (.slice (some ⟨w.heap.size, 0, none⟩) n n) (w.alloc (.cells Z 5)) := by
  obtain ⟨i0, hi0, hz0, hz1, hz2⟩ : ∃ i, Tryd.prog.info? 5 = some i ∧ i.zero = some (.int .u8 0) ∧ i.size = 1 ∧ i.bytes = 1 := ⟨_, rfl, rfl, rfl, rfl⟩
  refine ⟨madeCells (Value.int .u8 0).cells (n * i0.size), ?_, fun j hj => ?_, fun w => ?_⟩
  · rw [hz1]
    simp [madeCells]
  · rw [hz1]
    have h3 : (Value.int .u8 0).cells = #[.int .u8 0] := rfl
    rw [h3]
    simp [madeCells, hj, Nat.mod_one]
  · have := run_make (P := Tryd.prog) w 37 5 i0 _ Tryd.underlying37 hi0 hz0 .i64 .i64 n n (by omega) (by omega) (by rw [hz2]; omega) (by omega)
    simpa using this
set_option maxHeartbeats 8000000 in
theorem moves_walk (s : ByteArray) (hs : s.size ≤ 140737488355328) (v : Int) (w : World) (hw : Std w) : Calls Tryd.prog 5 #[.string s, .int .i64 v] w fun e w' => e = .returned (.bool true) ∧ Fr [] w w' := by
  have HS := Lib.hid hw
  have HFx := Lib.hid (fun W hW => fixed_any W hW)
  clear hw
  by_cases h0 : v < 0
  · clear hs
    go_enter Tryd.func5, Tryd.ntmps5
    go_wp2_with (first
      | (go_at_call 8; refine (HFx.out _ HS.out).mono ?_; rintro e w1 ⟨rfl, hf⟩; have G1 := Lib.hid hf; clear hf)
      | fail)
    go_ret
    exact ⟨rfl, G1.out⟩
  · by_cases h9 : (900 : Int) < v
    · clear hs
      go_enter Tryd.func5, Tryd.ntmps5
      go_wp2_with (first
        | (go_at_call 8; refine (HFx.out _ HS.out).mono ?_; rintro e w1 ⟨rfl, hf⟩; have G1 := Lib.hid hf; clear hf)
        | fail)
      go_ret
      exact ⟨rfl, G1.out⟩
    · obtain ⟨k, rfl⟩ : ∃ k : Nat, v = (k : Int) := ⟨v.toNat, by omega⟩
      have hk : k ≤ 900 := by omega
      have hsz : s.data.toList.length = s.size := rfl
      have hlaw := moves_law hk s.data.toList
      have HA := Lib.hid (fun W hW => Assemble_any s W hW)
      have hcat : (⟨(nopC k).toArray⟩ : ByteArray) ++ s = ⟨(linesB k ++ s.data.toList).toArray⟩ := by
        rw [nopC_lines]
        exact bcat (linesB k) s.data.toList
      have HB := Lib.hid (fun W hW => Assemble_any ⟨(linesB k ++ s.data.toList).toArray⟩ W hW)
      have HLn := Lib.hid (fun W => lines_any k (by omega) W)
      have hln := nopC_len k
      have hnc : ¬ 9223372036854775807 < (⟨(nopC k).toArray⟩ : ByteArray).size + s.size := by show ¬ _ < (nopC k).length + s.size; omega
      have hal := asm_len s.data.toList
      have hat := asm_at s.data.toList
      have HAl := Lib.hid hal
      have HK := Lib.hid hk
      have h0' : ¬ (k : Int) < 0 := by omega
      have h9' : (k : Int) ≤ 900 := by omega
      have a1 : IntKind.i64.wrap (4 * (k : Int)) = 4 * (k : Int) := IntWalk.i64_in _ (by omega)
      have a2 : IntKind.i64.wrap ((s.size : Int) + 4 * (k : Int)) = (s.size : Int) + 4 * (k : Int) := IntWalk.i64_in _ (by omega)
      rw [show (⟨(linesB k ++ s.data.toList).toArray⟩ : ByteArray).data.toList = linesB k ++ s.data.toList from rfl] at HB
      generalize asm (linesB k ++ s.data.toList) = R2 at *
      generalize asm s.data.toList = R1 at *
      generalize (⟨(linesB k ++ s.data.toList).toArray⟩ : ByteArray) = S2 at *
      obtain ⟨A, l, e1⟩ := R1
      obtain ⟨B, n, e2⟩ := R2
      unfold MovesOk at hlaw
      rw [hsz] at hlaw
      simp only at hlaw hal hat HA HB
      generalize (⟨(nopC k).toArray⟩ : ByteArray) = S1 at *
      clear hln hs hsz h0 h9 hk
      by_cases c1 : e1 = 94 ∨ e2 = 94
      · rw [if_pos c1] at hlaw
        obtain ⟨rfl, rfl, hor⟩ := hlaw
        clear c1
        have HFin : Hid ((decide ((32768 : Int) < (s.size : Int) + 4 * (k : Int)) || decide (0 < n)) = true) := Lib.hid (by
          rw [Bool.or_eq_true, decide_eq_true_eq, decide_eq_true_eq]
          omega)
        clear hor
        by_cases c2 : e1 = 94
        · subst c2
          go_enter Tryd.func5, Tryd.ntmps5
          go_wp2_with (first
            | (go_at_call 8; refine (HFx.out _ HS.out).mono ?_; rintro e w1 ⟨rfl, hf⟩; have G1 := Lib.hid hf; clear hf)
            | (go_at_call 15; with_reducible refine (HA.out _ (HS.out.fr G1.out)).mono ?_; rintro e w2 ⟨rfl, hf⟩; have G2 := Lib.hid (G1.out.trans hf); clear hf)
            | (go_at_call 17; refine (HLn.out _).mono ?_; rintro e w3 ⟨rfl, hf⟩; have G3 := Lib.hid (G2.out.trans hf); clear hf)
            | (go_at_call 15; with_reducible refine (HB.out _ (HS.out.fr G3.out)).mono ?_; rintro e w4 ⟨rfl, hf⟩; have G4 := Lib.hid (G3.out.trans hf); clear hf)
            | fail)
          all_goals
            go_ret
            refine ⟨?_, G4.out⟩
            first
              | rfl
              | (show Ending.returned (.bool (decide ((32768 : Int) < (s.size : Int) + 4 * (k : Int)) || decide (0 < n))) = _; rw [HFin.out])
              | (have hfin := HFin.out; simp_all; done)
        · have c5 : (e1 == 94) = false := beq_eq_false_iff_ne.2 c2
          have c6 : (e1 != 94) = true := bne_iff_ne.2 c2
          clear c2
          go_enter Tryd.func5, Tryd.ntmps5
          go_wp2_with (first
            | (go_at_call 8; refine (HFx.out _ HS.out).mono ?_; rintro e w1 ⟨rfl, hf⟩; have G1 := Lib.hid hf; clear hf)
            | (go_at_call 15; with_reducible refine (HA.out _ (HS.out.fr G1.out)).mono ?_; rintro e w2 ⟨rfl, hf⟩; have G2 := Lib.hid (G1.out.trans hf); clear hf)
            | (go_at_call 17; refine (HLn.out _).mono ?_; rintro e w3 ⟨rfl, hf⟩; have G3 := Lib.hid (G2.out.trans hf); clear hf)
            | (go_at_call 15; with_reducible refine (HB.out _ (HS.out.fr G3.out)).mono ?_; rintro e w4 ⟨rfl, hf⟩; have G4 := Lib.hid (G3.out.trans hf); clear hf)
            | fail)
          all_goals
            go_ret
            refine ⟨?_, G4.out⟩
            first
              | rfl
              | (show Ending.returned (.bool (decide ((32768 : Int) < (s.size : Int) + 4 * (k : Int)) || decide (0 < n))) = _; rw [HFin.out])
              | (have hfin := HFin.out; simp_all; done)
      · rw [if_neg c1] at hlaw
        have d1 : (e1 == 94) = false := beq_eq_false_iff_ne.2 (fun e => c1 (Or.inl e))
        have d2 : (e2 == 94) = false := beq_eq_false_iff_ne.2 (fun e => c1 (Or.inr e))
        clear c1
        by_cases c2 : e1 ≠ 0
        · rw [if_pos c2] at hlaw
          obtain ⟨rfl, rfl, rfl, rfl⟩ := hlaw
          have d3 : (e1 != 0) = true := bne_iff_ne.2 c2
          have d5 : (e1 == e1) = true := by simp
          have d6 : (0 : Int) ≤ (l : Int) := by omega
          have hq : IntKind.i64.wrap ((l : Int) + (k : Int)) = (l : Int) + (k : Int) := IntWalk.i64_in _ (by have := HK.out; omega)
          have hq2 : ((l + k : Nat) : Int) = (l : Int) + (k : Int) := by omega
          clear c2 hat hal
          go_enter Tryd.func5, Tryd.ntmps5
          go_wp2_with (first
            | (go_at_call 8; refine (HFx.out _ HS.out).mono ?_; rintro e w1 ⟨rfl, hf⟩; have G1 := Lib.hid hf; clear hf)
            | (go_at_call 15; with_reducible refine (HA.out _ (HS.out.fr G1.out)).mono ?_; rintro e w2 ⟨rfl, hf⟩; have G2 := Lib.hid (G1.out.trans hf); clear hf)
            | (go_at_call 17; refine (HLn.out _).mono ?_; rintro e w3 ⟨rfl, hf⟩; have G3 := Lib.hid (G2.out.trans hf); clear hf)
            | (go_at_call 15; with_reducible refine (HB.out _ (HS.out.fr G3.out)).mono ?_; rintro e w4 ⟨rfl, hf⟩; have G4 := Lib.hid (G3.out.trans hf); clear hf)
            | fail)
          go_ret
          exact ⟨rfl, G4.out⟩
        · rw [if_neg c2] at hlaw
          obtain ⟨rfl, rfl, rfl, hB⟩ := hlaw
          have hc0 : e1 = 0 := by simpa using c2
          subst hc0
          clear c2
          obtain ⟨Z, hZs, hZ, hmk⟩ := made_z (4 * k) (by omega)
          have hl4 : (List.replicate (4 * k) (0 : UInt8)).length = 4 * k := List.length_replicate
          have hcv : ∀ W : World, (convert 37 9 (.slice (some ⟨W.heap.size, 0, none⟩) (4 * k) (4 * k))).run Tryd.prog (W.alloc (.cells Z 5)) = .ok (.string ⟨(List.replicate (4 * k) (0 : UInt8)).toArray⟩) (W.alloc (.cells Z 5)) := fun W => by
            have h := run_convert_bytes_back (P := Tryd.prog) (W.alloc (.cells Z 5)) 37 9 5 ⟨W.heap.size, 0, none⟩ (4 * k) (List.replicate (4 * k) 0) Tryd.underlying37 Tryd.underlying5 Tryd.underlying9 (fun j hj => by
              rw [hl4] at hj
              have hz := (Blk.new W 5 Z).cell j
              rw [hZ j hj] at hz
              rw [List.getElem_replicate]
              have e : (⟨W.heap.size, 0, none⟩ : Addr).add j = ⟨W.heap.size, j, none⟩ := by unfold Addr.add; split <;> simp_all
              rw [e]
              exact hz)
            rw [hl4] at h
            exact h
          have hct : (⟨(List.replicate (4 * k) (0 : UInt8)).toArray⟩ : ByteArray) ++ ⟨A.toArray⟩ = ⟨B.toArray⟩ := by
            rw [hB]
            exact bcat _ _
          have HFin : Hid ((B == ((⟨Array.replicate (4 * k) 0⟩ : ByteArray) ++ ⟨A.toArray⟩).toList) = true) := Lib.hid (by
            rw [show (⟨Array.replicate (4 * k) 0⟩ : ByteArray) = ⟨(List.replicate (4 * k) (0 : UInt8)).toArray⟩ by simp, hct, ByteArray.toList_eq]
            simp)
          have hnn : ¬ 9223372036854775807 < 4 * k + A.length := by have := HK.out; omega
          have hse : ((⟨B.toArray⟩ : ByteArray).toList == (⟨B.toArray⟩ : ByteArray).toList) = true := by simp
          have hse2 : (B == B) = true := by simp
          have hmk2 : ∀ w : World, (Instr.makeSlice 37 (.int .i64 (4 * (k : Int))) (.int .i64 (4 * (k : Int)))).run Tryd.prog w = .ok (.slice (some ⟨w.heap.size, 0, none⟩) (4 * k) (4 * k)) (w.alloc (.cells Z 5)) := fun W => by
            have h := hmk W
            rw [show ((4 * k : Nat) : Int) = 4 * (k : Int) by omega] at h
            exact h
          have HMk := Lib.hid hmk2
          have HCv := Lib.hid hcv
          have HSz : Hid ((List.replicate (4 * k) (0 : UInt8)).length = 4 * k) := Lib.hid hl4
          clear hmk hmk2 hcv hZ hZs hB hl4
          go_enter Tryd.func5, Tryd.ntmps5
          go_wp2_with (first
            | (go_at_call 8; refine (HFx.out _ HS.out).mono ?_; rintro e w1 ⟨rfl, hf⟩; have G1 := Lib.hid hf; clear hf)
            | (go_at_call 15; with_reducible refine (HA.out _ (HS.out.fr G1.out)).mono ?_; rintro e w2 ⟨rfl, hf⟩; have G2 := Lib.hid (G1.out.trans hf); clear hf)
            | (go_at_call 17; refine (HLn.out _).mono ?_; rintro e w3 ⟨rfl, hf⟩; have G3 := Lib.hid (G2.out.trans hf); clear hf)
            | (go_at_call 15; with_reducible refine (HB.out _ (HS.out.fr G3.out)).mono ?_; rintro e w4 ⟨rfl, hf⟩; have G4 := Lib.hid (G3.out.trans hf); clear hf; have hmk := HMk.out w4; have hcv := HCv.out w4; have hsz := HSz.out)
            | fail)
          go_ret
          refine ⟨?_, G4.out.alloc _⟩
          show Ending.returned (.bool (B == ((⟨Array.replicate (4 * k) 0⟩ : ByteArray) ++ ⟨A.toArray⟩).toList)) = _
          rw [HFin.out]
end Go.Proofs.YtjijhjdemkgpgaaDoor
