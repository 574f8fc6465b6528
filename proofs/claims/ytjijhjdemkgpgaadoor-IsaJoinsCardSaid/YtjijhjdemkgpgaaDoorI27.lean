/- IsaJoins, walked. -/
import Derived.Test.YtjijhjdemkgpgaaDoorI25
namespace Go.Proofs.YtjijhjdemkgpgaaDoor
open Go.RowKit Go.Maps
set_option linter.unusedVariables false
set_option linter.unusedSimpArgs false
set_option maxRecDepth 100000
theorem asm_zero (L : List UInt8) : ((asm L).2.2 = 0 → (asm L).2.1 = 0) ∧ ((asm L).2.2 ≠ 0 → (asm L).1 = []) := by
  unfold asm
  split
  · exact ⟨fun h => absurd h (by decide), fun _ => rfl⟩
  · cases h : asmK ((splitC 10 L).map lineK) with
    | bad n e =>
      have := (asmK_bad h).2
      exact ⟨fun h => by simp only [told] at h; omega, fun _ => rfl⟩
    | fine x => exact ⟨fun _ => rfl, fun h => absurd rfl h⟩
set_option maxHeartbeats 8000000 in
theorem joins_walk (s0 s1 : ByteArray) (h0 : s0.size ≤ 140737488351232) (h1 : s1.size ≤ 140737488351232) (w : World) (hw : Std w) : Calls Tryd.prog 6 #[.string s0, .string s1] w fun e w' => e = .returned (.bool true) ∧ Fr [] w w' := by
  have HS := Lib.hid hw
  have HFx := Lib.hid (fun W hW => fixed_any W hW)
  clear hw
  have hsz0 : s0.data.toList.length = s0.size := rfl
  have hsz1 : s1.data.toList.length = s1.size := rfl
  have hcat : (s0 ++ (⟨#[10]⟩ : ByteArray)) ++ s1 = ⟨(s0.data.toList ++ 10 :: s1.data.toList).toArray⟩ := by
    have e1 : s0 ++ (⟨#[10]⟩ : ByteArray) = ⟨(s0.data.toList ++ [10]).toArray⟩ := bcat s0.data.toList [10]
    rw [e1]
    have e2 := bcat (s0.data.toList ++ [10]) s1.data.toList
    rw [List.append_assoc] at e2
    exact e2
  have n1 : ¬ 9223372036854775807 < s0.size + 1 := by omega
  have n2 : ¬ 9223372036854775807 < s0.size + 1 + s1.size := by omega
  have HA := Lib.hid (fun W hW => Assemble_any s0 W hW)
  have HB := Lib.hid (fun W hW => Assemble_any s1 W hW)
  have HC := Lib.hid (fun W hW => Assemble_any ⟨(s0.data.toList ++ 10 :: s1.data.toList).toArray⟩ W hW)
  rw [show (⟨(s0.data.toList ++ 10 :: s1.data.toList).toArray⟩ : ByteArray).data.toList = s0.data.toList ++ 10 :: s1.data.toList from rfl] at HC
  have hlaw := joins_law s0.data.toList s1.data.toList
  have z0 := asm_zero s0.data.toList
  have z1 := asm_zero s1.data.toList
  have l0 := asm_len s0.data.toList
  have l1 := asm_len s1.data.toList
  rw [hsz0, hsz1] at hlaw
  simp only at hlaw
  generalize asm (s0.data.toList ++ 10 :: s1.data.toList) = R3 at *
  generalize asm s0.data.toList = R1 at *
  generalize asm s1.data.toList = R2 at *
  generalize (⟨(s0.data.toList ++ 10 :: s1.data.toList).toArray⟩ : ByteArray) = S3 at *
  obtain ⟨A, l, e1⟩ := R1
  obtain ⟨B, n, e2⟩ := R2
  obtain ⟨C, m, e3⟩ := R3
  simp only at hlaw z0 z1 l0 l1 HA HB HC
  by_cases c1 : e1 = 0
  · by_cases c2 : e2 = 0
    · have hl := z0.1 c1
      have hn := z1.1 c2
      subst c1
      subst c2
      subst hl
      subst hn
      have hlw := hlaw A B rfl rfl
      clear hlaw z0 z1
      by_cases c3 : e3 = 0
      · obtain ⟨hC, hm⟩ := hlw.2 c3
        subst c3
        subst hC
        subst hm
        have hct : (⟨A.toArray⟩ : ByteArray) ++ ⟨B.toArray⟩ = ⟨(A ++ B).toArray⟩ := bcat A B
        have n3 : ¬ 9223372036854775807 < A.length + B.length := by omega
        have n4 : ((A ++ B) == (A ++ B)) = true := by simp
        generalize hAB : A ++ B = AB at *
        clear hlw hsz0 hsz1 h0 h1 l0 l1 hAB
        go_enter Tryd.func6, Tryd.ntmps6
        go_wp2_with (first
          | (go_at_call 15; with_reducible refine (HA.out _ HS.out).mono ?_; rintro e w1 ⟨rfl, hf⟩; have G1 := Lib.hid hf; clear hf)
          | (go_at_call 15; with_reducible refine (HB.out _ (HS.out.fr G1.out)).mono ?_; rintro e w2 ⟨rfl, hf⟩; have G2 := Lib.hid (G1.out.trans hf); clear hf)
          | (go_at_call 8; refine (HFx.out _ (HS.out.fr G2.out)).mono ?_; rintro e w3 ⟨rfl, hf⟩; have G3 := Lib.hid (G2.out.trans hf); clear hf)
          | (go_at_call 15; with_reducible refine (HC.out _ (HS.out.fr G3.out)).mono ?_; rintro e w4 ⟨rfl, hf⟩; have G4 := Lib.hid (G3.out.trans hf); clear hf)
          | fail)
        all_goals
          go_ret
          refine ⟨?_, G4.out⟩
          first
            | rfl
            | (simp_all; done)
      · obtain ⟨hC, hor⟩ := hlw.1 c3
        subst hC
        clear hlw
        have a1 : IntKind.i64.wrap ((A.length : Int) + (B.length : Int)) = (A.length : Int) + (B.length : Int) := IntWalk.i64_in _ (by omega)
        have a2 : IntKind.i64.wrap ((s0.size : Int) + (s1.size : Int)) = (s0.size : Int) + (s1.size : Int) := IntWalk.i64_in _ (by omega)
        have a3 : IntKind.i64.wrap ((s0.size : Int) + (s1.size : Int) + 1) = (s0.size : Int) + (s1.size : Int) + 1 := IntWalk.i64_in _ (by omega)
        rcases hor with ⟨rfl, hm⟩ | ⟨rfl, hor⟩
        · have hm' : (0 : Int) < (m : Int) := by omega
          clear hsz0 hsz1 h0 h1 l0 l1 hm
          go_enter Tryd.func6, Tryd.ntmps6
          go_wp2_with (first
            | (go_at_call 15; with_reducible refine (HA.out _ HS.out).mono ?_; rintro e w1 ⟨rfl, hf⟩; have G1 := Lib.hid hf; clear hf)
            | (go_at_call 15; with_reducible refine (HB.out _ (HS.out.fr G1.out)).mono ?_; rintro e w2 ⟨rfl, hf⟩; have G2 := Lib.hid (G1.out.trans hf); clear hf)
            | (go_at_call 8; refine (HFx.out _ (HS.out.fr G2.out)).mono ?_; rintro e w3 ⟨rfl, hf⟩; have G3 := Lib.hid (G2.out.trans hf); clear hf)
            | (go_at_call 15; with_reducible refine (HC.out _ (HS.out.fr G3.out)).mono ?_; rintro e w4 ⟨rfl, hf⟩; have G4 := Lib.hid (G3.out.trans hf); clear hf)
            | fail)
          all_goals
            go_ret
            refine ⟨?_, G4.out⟩
            first
              | rfl
              | (simp_all; done)
        · by_cases c4 : 4096 < A.length + B.length
          · have c5 : (4096 : Int) < (A.length : Int) + (B.length : Int) := by omega
            clear hsz0 hsz1 h0 h1 l0 l1 hor c4
            go_enter Tryd.func6, Tryd.ntmps6
            go_wp2_with (first
              | (go_at_call 15; with_reducible refine (HA.out _ HS.out).mono ?_; rintro e w1 ⟨rfl, hf⟩; have G1 := Lib.hid hf; clear hf)
              | (go_at_call 15; with_reducible refine (HB.out _ (HS.out.fr G1.out)).mono ?_; rintro e w2 ⟨rfl, hf⟩; have G2 := Lib.hid (G1.out.trans hf); clear hf)
              | (go_at_call 8; refine (HFx.out _ (HS.out.fr G2.out)).mono ?_; rintro e w3 ⟨rfl, hf⟩; have G3 := Lib.hid (G2.out.trans hf); clear hf)
              | (go_at_call 15; with_reducible refine (HC.out _ (HS.out.fr G3.out)).mono ?_; rintro e w4 ⟨rfl, hf⟩; have G4 := Lib.hid (G3.out.trans hf); clear hf)
              | fail)
            all_goals
              go_ret
              refine ⟨?_, G4.out⟩
              first
                | rfl
                | (simp_all; done)
          · have c6 : 32768 < s0.size + s1.size + 1 := by omega
            have c5 : ¬ (4096 : Int) < (A.length : Int) + (B.length : Int) := by omega
            have c7 : (32768 : Int) < (s0.size : Int) + (s1.size : Int) + 1 := by omega
            clear hsz0 hsz1 h0 h1 l0 l1 hor c4 c6
            go_enter Tryd.func6, Tryd.ntmps6
            go_wp2_with (first
              | (go_at_call 15; with_reducible refine (HA.out _ HS.out).mono ?_; rintro e w1 ⟨rfl, hf⟩; have G1 := Lib.hid hf; clear hf)
              | (go_at_call 15; with_reducible refine (HB.out _ (HS.out.fr G1.out)).mono ?_; rintro e w2 ⟨rfl, hf⟩; have G2 := Lib.hid (G1.out.trans hf); clear hf)
              | (go_at_call 8; refine (HFx.out _ (HS.out.fr G2.out)).mono ?_; rintro e w3 ⟨rfl, hf⟩; have G3 := Lib.hid (G2.out.trans hf); clear hf)
              | (go_at_call 15; with_reducible refine (HC.out _ (HS.out.fr G3.out)).mono ?_; rintro e w4 ⟨rfl, hf⟩; have G4 := Lib.hid (G3.out.trans hf); clear hf)
              | fail)
            all_goals
              go_ret
              refine ⟨?_, G4.out⟩
              first
                | rfl
                | (simp_all; done)
    · have hB := z1.2 c2
      subst hB
      subst c1
      have b1 : (e2 == 0) = false := beq_eq_false_iff_ne.2 c2
      have b2 : (e2 != 0) = true := bne_iff_ne.2 c2
      clear hlaw z0 z1 c2 l0 l1
      go_enter Tryd.func6, Tryd.ntmps6
      go_wp2_with (first
        | (go_at_call 15; with_reducible refine (HA.out _ HS.out).mono ?_; rintro e w1 ⟨rfl, hf⟩; have G1 := Lib.hid hf; clear hf)
        | (go_at_call 15; with_reducible refine (HB.out _ (HS.out.fr G1.out)).mono ?_; rintro e w2 ⟨rfl, hf⟩; have G2 := Lib.hid (G1.out.trans hf); clear hf)
        | (go_at_call 8; refine (HFx.out _ (HS.out.fr G2.out)).mono ?_; rintro e w3 ⟨rfl, hf⟩; have G3 := Lib.hid (G2.out.trans hf); clear hf)
        | (go_at_call 15; with_reducible refine (HC.out _ (HS.out.fr G3.out)).mono ?_; rintro e w4 ⟨rfl, hf⟩; have G4 := Lib.hid (G3.out.trans hf); clear hf)
        | fail)
      all_goals
        go_ret
        refine ⟨?_, G3.out⟩
        first
          | rfl
          | (simp_all; done)
  · have hA := z0.2 c1
    subst hA
    have b1 : (e1 == 0) = false := beq_eq_false_iff_ne.2 c1
    have b2 : (e1 != 0) = true := bne_iff_ne.2 c1
    by_cases c2 : e2 = 0
    · subst c2
      clear hlaw z0 z1 c1 l0 l1
      go_enter Tryd.func6, Tryd.ntmps6
      go_wp2_with (first
        | (go_at_call 15; with_reducible refine (HA.out _ HS.out).mono ?_; rintro e w1 ⟨rfl, hf⟩; have G1 := Lib.hid hf; clear hf)
        | (go_at_call 15; with_reducible refine (HB.out _ (HS.out.fr G1.out)).mono ?_; rintro e w2 ⟨rfl, hf⟩; have G2 := Lib.hid (G1.out.trans hf); clear hf)
        | (go_at_call 8; refine (HFx.out _ (HS.out.fr G2.out)).mono ?_; rintro e w3 ⟨rfl, hf⟩; have G3 := Lib.hid (G2.out.trans hf); clear hf)
        | (go_at_call 15; with_reducible refine (HC.out _ (HS.out.fr G3.out)).mono ?_; rintro e w4 ⟨rfl, hf⟩; have G4 := Lib.hid (G3.out.trans hf); clear hf)
        | fail)
      all_goals
        go_ret
        refine ⟨?_, G3.out⟩
        first
          | rfl
          | (simp_all; done)
    · have hB := z1.2 c2
      subst hB
      have b3 : (e2 == 0) = false := beq_eq_false_iff_ne.2 c2
      have b4 : (e2 != 0) = true := bne_iff_ne.2 c2
      clear hlaw z0 z1 c1 c2 l0 l1
      go_enter Tryd.func6, Tryd.ntmps6
      go_wp2_with (first
        | (go_at_call 15; with_reducible refine (HA.out _ HS.out).mono ?_; rintro e w1 ⟨rfl, hf⟩; have G1 := Lib.hid hf; clear hf)
        | (go_at_call 15; with_reducible refine (HB.out _ (HS.out.fr G1.out)).mono ?_; rintro e w2 ⟨rfl, hf⟩; have G2 := Lib.hid (G1.out.trans hf); clear hf)
        | (go_at_call 8; refine (HFx.out _ (HS.out.fr G2.out)).mono ?_; rintro e w3 ⟨rfl, hf⟩; have G3 := Lib.hid (G2.out.trans hf); clear hf)
        | (go_at_call 15; with_reducible refine (HC.out _ (HS.out.fr G3.out)).mono ?_; rintro e w4 ⟨rfl, hf⟩; have G4 := Lib.hid (G3.out.trans hf); clear hf)
        | fail)
      all_goals
        go_ret
        refine ⟨?_, G3.out⟩
        first
          | rfl
          | (simp_all; done)
end Go.Proofs.YtjijhjdemkgpgaaDoor
