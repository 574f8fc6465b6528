/- SchedApart: the walk. -/
import Derived.Test.YtnpdljmgjpngaaaL6
namespace Go.Proofs.Ytnpdljmgjpngaaa
open Go.RowKit
set_option linter.unusedVariables false
set_option linter.unusedSimpArgs false

set_option maxRecDepth 100000 in
set_option maxHeartbeats 4000000 in
theorem apart_ok (m : Nat) (one : Int) (A : Option Addr) (n cap : Nat) (ops : Nat → Op3) (w : World) (hm : m ≤ 8) (hn : n ≤ 4611686018427387904) (hO : OpsIn w A n ops) :
    Calls Try.prog 6 #[.int .i64 (m : Int), .int .i64 one, .slice A n cap] w fun e w' => e = .returned (.bool true) ∧ Fr [] w w' := by
  have HN := Lib.hid fun w => New_ok m w hm
  have HO := Lib.hid hO
  clear hO
  go_enter Try.func6, Try.ntmps6
  go_wp2_with fail
  refine (HN.out _).mono ?_
  rintro e w1 ⟨p, g, rfl, ht1, hf1, hp1, hg1⟩
  go_wp2_with fail
  refine (HN.out _).mono ?_
  rintro e w2 ⟨q, h, rfl, ht2, hf2, hp2, hg2⟩
  have hgl := ht1.lt.2
  have hAI0 : AI w m one 0 p g q h (new0 m) (new0 m) w2 :=
    ⟨by simpa using ht1.fr hf2 (by simp) (by simp), by simpa using ht2, by simp [new0], ⟨rfl, fun _ _ => rfl⟩, new0_bd m, new0_bd m, hf1.trans hf2, hg1, by have := hf1.size; omega, by omega⟩
  have HAI0 := Lib.hid hAI0
  clear hAI0 ht1 ht2 hf1 hf2 hp1 hg1 hp2 hg2 hgl HN
  go_wp2_with fail
  go_loopg [11] n (fun gg i wr => ∃ (k : Nat) (S U : List (Bool × Int)), k + gg = n ∧ i = .int .i64 k ∧ AI w m one k p g q h S U wr)
  case atStart => exact ⟨0, _, _, by omega, rfl, HAI0.out⟩
  case round =>
    obtain ⟨k, S, U, hk, rfl, hI⟩ := hrel
    have HI := Lib.hid hI
    have Hk := Lib.hid hk
    have hSm := hI.l
    have hUm : U.length = m := by rw [← hI.same.1]; exact hSm
    by_cases hlt : k < n
    · obtain ⟨b, off, hA, hbl, c0, c1, c2⟩ := (HO.out.fr hI.fr) k hlt
      subst hA
      generalize ops k = o at *
      have HIa := Lib.hid (hI.al (.cells #[.int .i64 o.On, .int .i64 o.K, .int .i64 o.P] 47))
      have hob := Blk.new wr 47 #[.int .i64 o.On, .int .i64 o.K, .int .i64 o.P]
      have Hob := Lib.hid hob
      have Hgl := Lib.hid (And.intro (hI.t.lt.2) (hI.u.lt.2))
      have HE1 := Lib.hid fun i => Enter_any p g S _ i HIa.out.t (by omega) (fun x hx => by have := hI.bs x hx; omega)
      have HT1 := Lib.hid fun i => Trap_any p g S _ i HIa.out.t (by omega)
      clear hob hI hk
      by_cases k0 : o.K = 0
      · have t0 : (o.K == 0) = true := by simp [k0]
        clear k0
        by_cases ho : o.P = one
        · subst ho
          go_wp2_with fail
          refine (HE1.out o.P).mono ?_
          rintro e w3 ⟨rfl, hS3, hf3⟩
          have hob3 := Hob.out.fr hf3 (by simp; have := Hgl.out.1; omega)
          have o1 := hob3.cell 1
          have o2 := hob3.cell 2
          simp at o1 o2
          have hwl : wr.heap.size < w3.heap.size := hob3.lt
          have HE2 := Enter_any q h U w3 o.P (HIa.out.u' hf3) (by omega) (fun x hx => by have := HI.out.bu x hx; omega)
          rw [HI.out.same.entB, HI.out.same.argE] at HE2
          have hJ := fun (w4 : World) (hU4 : TabAt w4 q h (entS U o.P)) (hf4 : Fr [h] w3 w4) => HIa.out.both hS3 hf3 hU4 hf4 (entS_len _ _) HI.out.same.entS (HI.out.bs.entS _) (HI.out.bu.entS _)
          generalize entB S o.P = B at *
          generalize argE S o.P = E at *
          have HE2 := Lib.hid HE2
          have HJ := Lib.hid hJ
          clear hJ hS3
          go_wp2_with fail
          refine HE2.out.mono ?_
          rintro e w4 ⟨rfl, hU4, hf4⟩
          have HJ4 := Lib.hid (HJ.out _ hU4 hf4)
          clear hU4
          go_wp2_with fail
          go_roundg (n - (k + 1))
          case measure => have := Hk.out; omega
          case rel => exact ⟨k + 1, _, _, by have := Hk.out; omega, by go_num, HJ4.out⟩
        · skip
          go_wp2_with fail
          refine (HE1.out o.P).mono ?_
          rintro e w3 ⟨rfl, hS3, hf3⟩
          have hob3 := Hob.out.fr hf3 (by simp; have := Hgl.out.1; omega)
          have o1 := hob3.cell 1
          have o2 := hob3.cell 2
          simp at o1 o2
          have hwl : wr.heap.size < w3.heap.size := hob3.lt
          have HJ4 := Lib.hid (HIa.out.step1 hS3 hf3 (entS_len _ _) (HI.out.same.entS1 ho) (HI.out.bs.entS _))
          generalize entB S o.P = B at *
          generalize argE S o.P = E at *
          clear hS3
          have o3 : (o.P != one) = true := by simp [ho]
          go_wp2_with fail
          go_roundg (n - (k + 1))
          case measure => have := Hk.out; omega
          case rel => exact ⟨k + 1, _, _, by have := Hk.out; omega, by go_num, HJ4.out⟩
      · have t0 : (o.K == 0) = false := by rw [beq_eq_false_iff_ne]; exact k0
        clear k0
        by_cases ho : o.P = one
        · subst ho
          go_wp2_with fail
          refine (HT1.out o.P).mono ?_
          rintro e w3 ⟨rfl, hS3, hf3⟩
          have hob3 := Hob.out.fr hf3 (by simp; have := Hgl.out.1; omega)
          have o1 := hob3.cell 1
          have o2 := hob3.cell 2
          simp at o1 o2
          have hwl : wr.heap.size < w3.heap.size := hob3.lt
          have HE2 := Trap_any q h U w3 o.P (HIa.out.u' hf3) (by omega)
          rw [HI.out.same.argE] at HE2
          have hJ := fun (w4 : World) (hU4 : TabAt w4 q h (trapS U o.P)) (hf4 : Fr [h] w3 w4) => HIa.out.both hS3 hf3 hU4 hf4 (trapS_len _ _) HI.out.same.trapS ((HI.out.bs.trapS _).mono (Nat.le_succ k)) ((HI.out.bu.trapS _).mono (Nat.le_succ k))
          generalize argE S o.P = E at *
          have HE2 := Lib.hid HE2
          have HJ := Lib.hid hJ
          clear hJ hS3
          go_wp2_with fail
          refine HE2.out.mono ?_
          rintro e w4 ⟨rfl, hU4, hf4⟩
          have HJ4 := Lib.hid (HJ.out _ hU4 hf4)
          clear hU4
          go_wp2_with fail
          go_roundg (n - (k + 1))
          case measure => have := Hk.out; omega
          case rel => exact ⟨k + 1, _, _, by have := Hk.out; omega, by go_num, HJ4.out⟩
        · skip
          go_wp2_with fail
          refine (HT1.out o.P).mono ?_
          rintro e w3 ⟨rfl, hS3, hf3⟩
          have hob3 := Hob.out.fr hf3 (by simp; have := Hgl.out.1; omega)
          have o1 := hob3.cell 1
          have o2 := hob3.cell 2
          simp at o1 o2
          have hwl : wr.heap.size < w3.heap.size := hob3.lt
          have HJ4 := Lib.hid (HIa.out.step1 hS3 hf3 (trapS_len _ _) (HI.out.same.trapS1 ho) ((HI.out.bs.trapS _).mono (Nat.le_succ k)))
          generalize argE S o.P = E at *
          clear hS3
          have o3 : (o.P != one) = true := by simp [ho]
          go_wp2_with fail
          go_roundg (n - (k + 1))
          case measure => have := Hk.out; omega
          case rel => exact ⟨k + 1, _, _, by have := Hk.out; omega, by go_num, HJ4.out⟩
    · have hkn : k ≤ 4611686018427387904 := by omega
      have HR1 := Lib.hid fun w h => Runs_any p g S w one h (by omega)
      have HR2 := Lib.hid fun w h' => Runs_any q h U w one h' (by omega)
      have HS1 := Lib.hid fun w h => Starts_any p g S w one h (by omega)
      have HS2 := Lib.hid fun w h' => Starts_any q h U w one h' (by omega)
      rw [hI.same.runsV] at HR2
      rw [hI.same.startsV] at HS2
      generalize runsV S one = B at *
      generalize startsV S one = E at *
      clear hk hI
      go_wp2_with (first
        | (go_at_call 22; go_must (first | ((with_reducible refine (HR1.out _ HI.out.t).mono ?_); rintro e w3 ⟨rfl, rfl⟩) | ((with_reducible refine (HR2.out _ HI.out.u).mono ?_); rintro e w3 ⟨rfl, rfl⟩)))
        | (go_at_call 23; go_must (first | ((with_reducible refine (HS1.out _ HI.out.t).mono ?_); rintro e w3 ⟨rfl, rfl⟩) | ((with_reducible refine (HS2.out _ HI.out.u).mono ?_); rintro e w3 ⟨rfl, rfl⟩)))
        | (go_at_call 18; go_must ((with_reducible refine (fixed_any _).mono ?_); rintro e w3 ⟨rfl, hf3⟩)))
      go_ret
      exact ⟨rfl, HI.out.fr.trans hf3⟩

theorem apart_walk (m one : Int) (A : Option Addr) (n cap : Nat) (ops : Nat → Op3) (w : World) (hO : OpsIn w A n ops) (hn : n ≤ 4611686018427387904) :
    Calls Try.prog 6 #[.int .i64 m, .int .i64 one, .slice A n cap] w fun e w' => e = .returned (.bool true) ∧ Fr [] w w' := by
  by_cases hm : m < 0 ∨ 8 < m
  · exact apart_no m one A n cap w hm
  · obtain ⟨m', rfl⟩ : ∃ m' : Nat, m = m' := ⟨m.toNat, by omega⟩
    exact apart_ok m' one A n cap ops w (by omega) hn hO
end Go.Proofs.Ytnpdljmgjpngaaa
