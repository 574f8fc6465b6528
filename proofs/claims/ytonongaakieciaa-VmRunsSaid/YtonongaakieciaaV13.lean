/- The machine's step: all. -/
import Derived.Test.YtonongaakieciaaV7
import Derived.Test.YtonongaakieciaaV8
import Derived.Test.YtonongaakieciaaV10
import Derived.Test.YtonongaakieciaaV11
import Derived.Test.YtonongaakieciaaV12
namespace Go.Proofs.Ytonongaakieciaa
open Go.RowKit
set_option linter.unusedVariables false
set_option linter.unusedSimpArgs false
set_option maxRecDepth 100000
/-- What an instruction comes to: the event; the machine; the memory. -/
def stepI (x : Vm) (st : St) (t : List Pg) (k a b : Nat) (m : Int) : (Int × Int) × Vm × St :=
  match k with
  | 0 => ((0, 0), putP x ((x.pl + 4) % 4294967296), st)
  | 1 => ((1, 0), x, st)
  | 2 => ((0, 0), putP (putR x a (m % 4294967296)) ((x.pl + 4) % 4294967296), st)
  | 3 => ((0, 0), putP (putR x a (hiV (x.r a) m)) ((x.pl + 4) % 4294967296), st)
  | 8 => if x.r b = 0 then ((2, 5), x, st) else ((0, 0), putP (putR x a (x.r a / x.r b)) ((x.pl + 4) % 4294967296), st)
  | 9 => if x.r b = 0 then ((2, 5), x, st) else ((0, 0), putP (putR x a (x.r a % x.r b)) ((x.pl + 4) % 4294967296), st)
  | 19 => ((0, 0), putP (putR x a ((x.r a + m) % 4294967296)) ((x.pl + 4) % 4294967296), st)
  | 20 => touchV 20 x st t a ((x.r b + m) % 4294967296) 1 ((x.pl + 4) % 4294967296)
  | 21 => touchV 21 x st t a ((x.r b + m) % 4294967296) 4 ((x.pl + 4) % 4294967296)
  | 22 => touchV 22 x st t a ((x.r b + m) % 4294967296) 1 ((x.pl + 4) % 4294967296)
  | 23 => touchV 23 x st t a ((x.r b + m) % 4294967296) 4 ((x.pl + 4) % 4294967296)
  | 24 => ((0, 0), putP x ((((x.pl + 4) % 4294967296) + 4 * m) % 4294967296), st)
  | 25 => ((0, 0), putP x (if x.r a = 0 then ((((x.pl + 4) % 4294967296) + 4 * m) % 4294967296) else ((x.pl + 4) % 4294967296)), st)
  | 26 => ((0, 0), putP x (if x.r a = 0 then ((x.pl + 4) % 4294967296) else ((((x.pl + 4) % 4294967296) + 4 * m) % 4294967296)), st)
  | 27 => ((0, 0), putP x (x.r a), st)
  | 28 => ((0, 0), putP (putR x a ((x.pl + 4) % 4294967296)) ((((x.pl + 4) % 4294967296) + 4 * m) % 4294967296), st)
  | 29 => ((3, m), putP (putW x true) ((x.pl + 4) % 4294967296), st)
  | k => ((0, 0), putP (putR x a (sumV k (x.r a) (x.r b))) ((x.pl + 4) % 4294967296), st)
/-- What a step comes to. -/
def stepV (x : Vm) (st : St) (t : List Pg) : (Int × Int) × Vm × St :=
  if (fetI x st t).2 ≠ 0 then ((2, (fetI x st t).2), x, st) else stepI x st t (fetI x st t).1.op.toNat (fetI x st t).1.a.toNat (fetI x st t).1.b.toNat (fetI x st t).1.m
set_option maxHeartbeats 4000000 in
theorem step_trap (v p F bt mm cap : Nat) (x : Vm) (st : St) (A : Option Addr) (t : List Pg) (w : World) (hv : VmAt w v x) (hm : MemAt w p F st) (ht : Tb w bt (.slice A mm cap) t) (hbw : bt < w.heap.size) (n : Int) (hf : (fetI x st t).2 = n) (hn : n ≠ 0) :
    Calls Try.prog 34 #[ptr v, ptr p, .slice A mm cap] w (StepQ w v p F (2, n) x st) := by
  have HFe := Lib.hid (fetched hv hm ht hbw)
  rw [hf] at HFe
  have HT := Lib.hid (fun n W => trapped_any n W)
  have hnb : (n != 0) = true := by simpa using hn
  generalize (fetI x st t).1 = I at *
  clear hv hm ht hf hn
  go_enter Try.func34, Try.ntmps34
  go_wp2
  refine scope_step rfl w v p F w.heap.size (2, n) x st _ _ ?_
  go_wp2_with (first
    | (go_at_call 74; refine HFe.out.mono ?_; rintro e w1 ⟨rfl, hM, hT, hT2, hF⟩; have HM := Lib.hid hM; clear hM hT hT2 hF HFe)
    | (go_at_call 75; refine (HT.out _ _).mono ?_; rintro e w2 ⟨rfl, hf⟩; have HM2 := Lib.hid ((HM.out.fr ((Fr.refl [] w1).alloc _)).fr hf); clear hf; have e0 : w2.cell? ⟨w.heap.size, 0, none⟩ = some (.int .i64 0) := HM2.out.hb.cell 0; have e1 : w2.cell? ⟨w.heap.size, 1, none⟩ = some (.int .i64 0) := HM2.out.hb.cell 1; have ef := HM2.out.hb.frozen; have HE := HM2.out.end_ 2 n)
    | fail)
  unfold jumps
  refine bodyPost_ret (v := .agg #[.int .i64 2, .int .i64 n]) ?_ rfl HE.2
  exact results_cell_row Try.results34 _ _ w.heap.size 65 _ (0, 0) _ rfl HE.1 Try.underlying65 rfl (by kernel_rfl)
theorem stepI_any (v p F bt mm cap : Nat) (x : Vm) (st : St) (A : Option Addr) (t : List Pg) (w : World) (hv : VmAt w v x) (hm : MemAt w p F st) (ht : Tb w bt (.slice A mm cap) t) (hbw : bt < w.heap.size) (k a b : Nat) (m : Int) (hk : k < 30) (ha : a < 16) (hb : b < 16) (hf : fetI x st t = (⟨k, a, b, m⟩, 0)) :
    Calls Try.prog 34 #[ptr v, ptr p, .slice A mm cap] w (StepQ w v p F (stepI x st t k a b m).1 (stepI x st t k a b m).2.1 (stepI x st t k a b m).2.2) := by
  rcases (by omega : k = 0 ∨ k = 1 ∨ k = 2 ∨ k = 3 ∨ k = 4 ∨ k = 5 ∨ k = 6 ∨ k = 7 ∨ k = 8 ∨ k = 9 ∨ k = 10 ∨ k = 11 ∨ k = 12 ∨ k = 13 ∨ k = 14 ∨ k = 15 ∨ k = 16 ∨ k = 17 ∨ k = 18 ∨ k = 19 ∨ k = 20 ∨ k = 21 ∨ k = 22 ∨ k = 23 ∨ k = 24 ∨ k = 25 ∨ k = 26 ∨ k = 27 ∨ k = 28 ∨ k = 29) with rfl | rfl | rfl | rfl | rfl | rfl | rfl | rfl | rfl | rfl | rfl | rfl | rfl | rfl | rfl | rfl | rfl | rfl | rfl | rfl | rfl | rfl | rfl | rfl | rfl | rfl | rfl | rfl | rfl | rfl
  · exact step_0 v p F bt mm cap x st A t w hv hm ht hbw a b m ha hb hf
  · exact step_1 v p F bt mm cap x st A t w hv hm ht hbw a b m ha hb hf
  · exact step_2 v p F bt mm cap x st A t w hv hm ht hbw a b m ha hb hf
  · exact step_3 v p F bt mm cap x st A t w hv hm ht hbw a b m ha hb hf
  · exact step_4 v p F bt mm cap x st A t w hv hm ht hbw a b m ha hb hf
  · exact step_5 v p F bt mm cap x st A t w hv hm ht hbw a b m ha hb hf
  · exact step_6 v p F bt mm cap x st A t w hv hm ht hbw a b m ha hb hf
  · exact step_7 v p F bt mm cap x st A t w hv hm ht hbw a b m ha hb hf
  · by_cases hz : x.r b = 0
    · have e : stepI x st t 8 a b m = ((2, 5), x, st) := by show (if x.r b = 0 then _ else _) = _; rw [if_pos hz]
      rw [e]
      exact step_8_z v p F bt mm cap x st A t w hv hm ht hbw a b m ha hb hz hf
    · have e : stepI x st t 8 a b m = (((0, 0), putP (putR x a (x.r a / x.r b)) ((x.pl + 4) % 4294967296), st)) := by show (if x.r b = 0 then _ else _) = _; rw [if_neg hz]
      rw [e]
      exact step_8 v p F bt mm cap x st A t w hv hm ht hbw a b m ha hb hz hf
  · by_cases hz : x.r b = 0
    · have e : stepI x st t 9 a b m = ((2, 5), x, st) := by show (if x.r b = 0 then _ else _) = _; rw [if_pos hz]
      rw [e]
      exact step_9_z v p F bt mm cap x st A t w hv hm ht hbw a b m ha hb hz hf
    · have e : stepI x st t 9 a b m = (((0, 0), putP (putR x a (x.r a % x.r b)) ((x.pl + 4) % 4294967296), st)) := by show (if x.r b = 0 then _ else _) = _; rw [if_neg hz]
      rw [e]
      exact step_9 v p F bt mm cap x st A t w hv hm ht hbw a b m ha hb hz hf
  · exact step_10 v p F bt mm cap x st A t w hv hm ht hbw a b m ha hb hf
  · exact step_11 v p F bt mm cap x st A t w hv hm ht hbw a b m ha hb hf
  · exact step_12 v p F bt mm cap x st A t w hv hm ht hbw a b m ha hb hf
  · exact step_13 v p F bt mm cap x st A t w hv hm ht hbw a b m ha hb hf
  · exact step_14 v p F bt mm cap x st A t w hv hm ht hbw a b m ha hb hf
  · exact step_15 v p F bt mm cap x st A t w hv hm ht hbw a b m ha hb hf
  · exact step_16 v p F bt mm cap x st A t w hv hm ht hbw a b m ha hb hf
  · exact step_17 v p F bt mm cap x st A t w hv hm ht hbw a b m ha hb hf
  · exact step_18 v p F bt mm cap x st A t w hv hm ht hbw a b m ha hb hf
  · exact step_19 v p F bt mm cap x st A t w hv hm ht hbw a b m ha hb hf
  · exact step_20 v p F bt mm cap x st A t w hv hm ht hbw a b m ha hb hf
  · exact step_21 v p F bt mm cap x st A t w hv hm ht hbw a b m ha hb hf
  · exact step_22 v p F bt mm cap x st A t w hv hm ht hbw a b m ha hb hf
  · exact step_23 v p F bt mm cap x st A t w hv hm ht hbw a b m ha hb hf
  · exact step_24 v p F bt mm cap x st A t w hv hm ht hbw a b m ha hb hf
  · by_cases hz : x.r a = 0
    · have e : stepI x st t 25 a b m = ((0, 0), putP x ((((x.pl + 4) % 4294967296) + 4 * m) % 4294967296), st) := by show ((0, 0), putP x (if x.r a = 0 then _ else _), st) = _; rw [if_pos hz]
      rw [e]
      exact step_25_0 v p F bt mm cap x st A t w hv hm ht hbw a b m ha hb hz hf
    · have e : stepI x st t 25 a b m = ((0, 0), putP x ((x.pl + 4) % 4294967296), st) := by show ((0, 0), putP x (if x.r a = 0 then _ else _), st) = _; rw [if_neg hz]
      rw [e]
      exact step_25_1 v p F bt mm cap x st A t w hv hm ht hbw a b m ha hb hz hf
  · by_cases hz : x.r a = 0
    · have e : stepI x st t 26 a b m = ((0, 0), putP x ((x.pl + 4) % 4294967296), st) := by show ((0, 0), putP x (if x.r a = 0 then _ else _), st) = _; rw [if_pos hz]
      rw [e]
      exact step_26_0 v p F bt mm cap x st A t w hv hm ht hbw a b m ha hb hz hf
    · have e : stepI x st t 26 a b m = ((0, 0), putP x ((((x.pl + 4) % 4294967296) + 4 * m) % 4294967296), st) := by show ((0, 0), putP x (if x.r a = 0 then _ else _), st) = _; rw [if_neg hz]
      rw [e]
      exact step_26_1 v p F bt mm cap x st A t w hv hm ht hbw a b m ha hb hz hf
  · exact step_27 v p F bt mm cap x st A t w hv hm ht hbw a b m ha hb hf
  · exact step_28 v p F bt mm cap x st A t w hv hm ht hbw a b m ha hb hf
  · exact step_29 v p F bt mm cap x st A t w hv hm ht hbw a b m ha hb hf
/-- The step, whatever the machine, the memory and the table. -/
theorem Step_any (v p F bt mm cap : Nat) (x : Vm) (st : St) (A : Option Addr) (t : List Pg) (w : World) (hv : VmAt w v x) (hm : MemAt w p F st) (ht : Tb w bt (.slice A mm cap) t) (hbw : bt < w.heap.size) :
    Calls Try.prog 34 #[ptr v, ptr p, .slice A mm cap] w (StepQ w v p F (stepV x st t).1 (stepV x st t).2.1 (stepV x st t).2.2) := by
  by_cases h : (fetI x st t).2 = 0
  · obtain ⟨-, k, a, b, h1, h2, h3, hk, ha, hb, -⟩ := fetI_ok h
    have hf : fetI x st t = (⟨k, a, b, (fetI x st t).1.m⟩, 0) := by
      rw [← h1, ← h2, ← h3, ← h]
    have e : stepV x st t = stepI x st t k a b (fetI x st t).1.m := by
      unfold stepV
      rw [if_neg (by omega), h1, h2, h3]
      simp
    rw [e]
    exact stepI_any v p F bt mm cap x st A t w hv hm ht hbw k a b _ hk ha hb hf
  · have e : stepV x st t = ((2, (fetI x st t).2), x, st) := by
      unfold stepV
      rw [if_pos h]
    rw [e]
    exact step_trap v p F bt mm cap x st A t w hv hm ht hbw _ rfl h
end Go.Proofs.Ytonongaakieciaa
