/- The machine's step: all. What a machine's step may turn (no program in sight). The laws of VmBlind and VmKeeps: a step hangs on the table's own frames alone; what it may turn (no program in sight). Two tables over two memories that say the same: a step through the one is a step through the other (no program in sight). -/
import Derived.Test.YtbmaecdlkchkeaaGreatDoorV9
import Derived.Test.YtbmaecdlkchkeaaGreatDoorV10
import Derived.Test.YtbmaecdlkchkeaaGreatDoorV11
import Derived.Test.YtbmaecdlkchkeaaGreatDoorV12
import Derived.Test.YtbmaecdlkchkeaaGreatDoorB6
namespace Go.Proofs.YtbmaecdlkchkeaaGreatDoor
open Go.RowKit
set_option linter.unusedVariables false
set_option linter.unusedSimpArgs false
set_option maxRecDepth 100000
/-- What an instruction comes to: the event; the machine; the memory. -/
def stepI (x : Vm) (st : St) (t : List Pg) (k a b : Nat) (m : Int) : (Int × Int) × Vm × St :=
  match k with
  | 0 => ((0, 0), putP x ((x.pl + 4) % 4294967296), st)
  | 1 => ((1, 0), x, st)
  | 2 => ((0, 0), putP (putR x a (m % 4294967296)) ((x.pl + 4) % 4294967296), st)
  | 3 => ((0, 0), putP (putR x a (hiV (x.r a) m)) ((x.pl + 4) % 4294967296), st)
  | 8 => if x.r b = 0 then ((2, 5), x, st) else ((0, 0), putP (putR x a (x.r a / x.r b)) ((x.pl + 4) % 4294967296), st)
  | 9 => if x.r b = 0 then ((2, 5), x, st) else ((0, 0), putP (putR x a (x.r a % x.r b)) ((x.pl + 4) % 4294967296), st)
  | 19 => ((0, 0), putP (putR x a ((x.r a + m) % 4294967296)) ((x.pl + 4) % 4294967296), st)
  | 20 => touchV 20 x st t a ((x.r b + m) % 4294967296) 1 ((x.pl + 4) % 4294967296)
  | 21 => touchV 21 x st t a ((x.r b + m) % 4294967296) 4 ((x.pl + 4) % 4294967296)
  | 22 => touchV 22 x st t a ((x.r b + m) % 4294967296) 1 ((x.pl + 4) % 4294967296)
  | 23 => touchV 23 x st t a ((x.r b + m) % 4294967296) 4 ((x.pl + 4) % 4294967296)
  | 24 => ((0, 0), putP x ((((x.pl + 4) % 4294967296) + 4 * m) % 4294967296), st)
  | 25 => ((0, 0), putP x (if x.r a = 0 then ((((x.pl + 4) % 4294967296) + 4 * m) % 4294967296) else ((x.pl + 4) % 4294967296)), st)
  | 26 => ((0, 0), putP x (if x.r a = 0 then ((x.pl + 4) % 4294967296) else ((((x.pl + 4) % 4294967296) + 4 * m) % 4294967296)), st)
  | 27 => ((0, 0), putP x (x.r a), st)
  | 28 => ((0, 0), putP (putR x a ((x.pl + 4) % 4294967296)) ((((x.pl + 4) % 4294967296) + 4 * m) % 4294967296), st)
  | 29 => ((3, m), putP (putW x true) ((x.pl + 4) % 4294967296), st)
  | k => ((0, 0), putP (putR x a (sumV k (x.r a) (x.r b))) ((x.pl + 4) % 4294967296), st)
/-- What a step comes to. -/
def stepV (x : Vm) (st : St) (t : List Pg) : (Int × Int) × Vm × St :=
  if (fetI x st t).2 ≠ 0 then ((2, (fetI x st t).2), x, st) else stepI x st t (fetI x st t).1.op.toNat (fetI x st t).1.a.toNat (fetI x st t).1.b.toNat (fetI x st t).1.m
set_option maxHeartbeats 4000000 in
theorem step_trap (v p F bt mm cap : Nat) (x : Vm) (st : St) (A : Option Addr) (t : List Pg) (w : World) (hv : VmAt w v x) (hm : MemAt w p F st) (ht : Tb w bt (.slice A mm cap) t) (hbw : bt < w.heap.size) (n : Int) (hf : (fetI x st t).2 = n) (hn : n ≠ 0) :
    Calls Tryz.prog 11 #[ptr v, ptr p, .slice A mm cap] w (StepQ w v p F (2, n) x st) := by
  have HFe := Lib.hid (fetched hv hm ht hbw)
  rw [hf] at HFe
  have HT := Lib.hid (fun n W => trapped_any n W)
  have hnb : (n != 0) = true := by simpa using hn
  generalize (fetI x st t).1 = I at *
  clear hv hm ht hf hn
  go_enter Tryz.func11, Tryz.ntmps11
  go_wp2
  refine scope_step rfl w v p F w.heap.size (2, n) x st _ _ ?_
  go_wp2_with (first
    | (go_at_call 41; refine HFe.out.mono ?_; rintro e w1 ⟨rfl, hM, hT, hT2, hF⟩; have HM := Lib.hid hM; clear hM hT hT2 hF HFe)
    | (go_at_call 42; refine (HT.out _ _).mono ?_; rintro e w2 ⟨rfl, hf⟩; have HM2 := Lib.hid ((HM.out.fr ((Fr.refl [] w1).alloc _)).fr hf); clear hf; have e0 : w2.cell? ⟨w.heap.size, 0, none⟩ = some (.int .i64 0) := HM2.out.hb.cell 0; have e1 : w2.cell? ⟨w.heap.size, 1, none⟩ = some (.int .i64 0) := HM2.out.hb.cell 1; have ef := HM2.out.hb.frozen; have HE := HM2.out.end_ 2 n)
    | fail)
  unfold jumps
  refine bodyPost_ret (v := .agg #[.int .i64 2, .int .i64 n]) ?_ rfl HE.2
  exact results_cell_row Tryz.results11 _ _ w.heap.size 39 _ (0, 0) _ rfl HE.1 Tryz.underlying39 rfl (by kernel_rfl)
theorem stepI_any (v p F bt mm cap : Nat) (x : Vm) (st : St) (A : Option Addr) (t : List Pg) (w : World) (hv : VmAt w v x) (hm : MemAt w p F st) (ht : Tb w bt (.slice A mm cap) t) (hbw : bt < w.heap.size) (k a b : Nat) (m : Int) (hk : k < 30) (ha : a < 16) (hb : b < 16) (hf : fetI x st t = (⟨k, a, b, m⟩, 0)) :
    Calls Tryz.prog 11 #[ptr v, ptr p, .slice A mm cap] w (StepQ w v p F (stepI x st t k a b m).1 (stepI x st t k a b m).2.1 (stepI x st t k a b m).2.2) := by
  rcases (by omega : k = 0 ∨ k = 1 ∨ k = 2 ∨ k = 3 ∨ k = 4 ∨ k = 5 ∨ k = 6 ∨ k = 7 ∨ k = 8 ∨ k = 9 ∨ k = 10 ∨ k = 11 ∨ k = 12 ∨ k = 13 ∨ k = 14 ∨ k = 15 ∨ k = 16 ∨ k = 17 ∨ k = 18 ∨ k = 19 ∨ k = 20 ∨ k = 21 ∨ k = 22 ∨ k = 23 ∨ k = 24 ∨ k = 25 ∨ k = 26 ∨ k = 27 ∨ k = 28 ∨ k = 29) with rfl | rfl | rfl | rfl | rfl | rfl | rfl | rfl | rfl | rfl | rfl | rfl | rfl | rfl | rfl | rfl | rfl | rfl | rfl | rfl | rfl | rfl | rfl | rfl | rfl | rfl | rfl | rfl | rfl | rfl
  · exact step_0 v p F bt mm cap x st A t w hv hm ht hbw a b m ha hb hf
  · exact step_1 v p F bt mm cap x st A t w hv hm ht hbw a b m ha hb hf
  · exact step_2 v p F bt mm cap x st A t w hv hm ht hbw a b m ha hb hf
  · exact step_3 v p F bt mm cap x st A t w hv hm ht hbw a b m ha hb hf
  · exact step_4 v p F bt mm cap x st A t w hv hm ht hbw a b m ha hb hf
  · exact step_5 v p F bt mm cap x st A t w hv hm ht hbw a b m ha hb hf
  · exact step_6 v p F bt mm cap x st A t w hv hm ht hbw a b m ha hb hf
  · exact step_7 v p F bt mm cap x st A t w hv hm ht hbw a b m ha hb hf
  · by_cases hz : x.r b = 0
    · have e : stepI x st t 8 a b m = ((2, 5), x, st) := by show (if x.r b = 0 then _ else _) = _; rw [if_pos hz]
      rw [e]
      exact step_8_z v p F bt mm cap x st A t w hv hm ht hbw a b m ha hb hz hf
    · have e : stepI x st t 8 a b m = (((0, 0), putP (putR x a (x.r a / x.r b)) ((x.pl + 4) % 4294967296), st)) := by show (if x.r b = 0 then _ else _) = _; rw [if_neg hz]
      rw [e]
      exact step_8 v p F bt mm cap x st A t w hv hm ht hbw a b m ha hb hz hf
  · by_cases hz : x.r b = 0
    · have e : stepI x st t 9 a b m = ((2, 5), x, st) := by show (if x.r b = 0 then _ else _) = _; rw [if_pos hz]
      rw [e]
      exact step_9_z v p F bt mm cap x st A t w hv hm ht hbw a b m ha hb hz hf
    · have e : stepI x st t 9 a b m = (((0, 0), putP (putR x a (x.r a % x.r b)) ((x.pl + 4) % 4294967296), st)) := by show (if x.r b = 0 then _ else _) = _; rw [if_neg hz]
      rw [e]
      exact step_9 v p F bt mm cap x st A t w hv hm ht hbw a b m ha hb hz hf
  · exact step_10 v p F bt mm cap x st A t w hv hm ht hbw a b m ha hb hf
  · exact step_11 v p F bt mm cap x st A t w hv hm ht hbw a b m ha hb hf
  · exact step_12 v p F bt mm cap x st A t w hv hm ht hbw a b m ha hb hf
  · exact step_13 v p F bt mm cap x st A t w hv hm ht hbw a b m ha hb hf
  · exact step_14 v p F bt mm cap x st A t w hv hm ht hbw a b m ha hb hf
  · exact step_15 v p F bt mm cap x st A t w hv hm ht hbw a b m ha hb hf
  · exact step_16 v p F bt mm cap x st A t w hv hm ht hbw a b m ha hb hf
  · exact step_17 v p F bt mm cap x st A t w hv hm ht hbw a b m ha hb hf
  · exact step_18 v p F bt mm cap x st A t w hv hm ht hbw a b m ha hb hf
  · exact step_19 v p F bt mm cap x st A t w hv hm ht hbw a b m ha hb hf
  · exact step_20 v p F bt mm cap x st A t w hv hm ht hbw a b m ha hb hf
  · exact step_21 v p F bt mm cap x st A t w hv hm ht hbw a b m ha hb hf
  · exact step_22 v p F bt mm cap x st A t w hv hm ht hbw a b m ha hb hf
  · exact step_23 v p F bt mm cap x st A t w hv hm ht hbw a b m ha hb hf
  · exact step_24 v p F bt mm cap x st A t w hv hm ht hbw a b m ha hb hf
  · by_cases hz : x.r a = 0
    · have e : stepI x st t 25 a b m = ((0, 0), putP x ((((x.pl + 4) % 4294967296) + 4 * m) % 4294967296), st) := by show ((0, 0), putP x (if x.r a = 0 then _ else _), st) = _; rw [if_pos hz]
      rw [e]
      exact step_25_0 v p F bt mm cap x st A t w hv hm ht hbw a b m ha hb hz hf
    · have e : stepI x st t 25 a b m = ((0, 0), putP x ((x.pl + 4) % 4294967296), st) := by show ((0, 0), putP x (if x.r a = 0 then _ else _), st) = _; rw [if_neg hz]
      rw [e]
      exact step_25_1 v p F bt mm cap x st A t w hv hm ht hbw a b m ha hb hz hf
  · by_cases hz : x.r a = 0
    · have e : stepI x st t 26 a b m = ((0, 0), putP x ((x.pl + 4) % 4294967296), st) := by show ((0, 0), putP x (if x.r a = 0 then _ else _), st) = _; rw [if_pos hz]
      rw [e]
      exact step_26_0 v p F bt mm cap x st A t w hv hm ht hbw a b m ha hb hz hf
    · have e : stepI x st t 26 a b m = ((0, 0), putP x ((((x.pl + 4) % 4294967296) + 4 * m) % 4294967296), st) := by show ((0, 0), putP x (if x.r a = 0 then _ else _), st) = _; rw [if_neg hz]
      rw [e]
      exact step_26_1 v p F bt mm cap x st A t w hv hm ht hbw a b m ha hb hz hf
  · exact step_27 v p F bt mm cap x st A t w hv hm ht hbw a b m ha hb hf
  · exact step_28 v p F bt mm cap x st A t w hv hm ht hbw a b m ha hb hf
  · exact step_29 v p F bt mm cap x st A t w hv hm ht hbw a b m ha hb hf
/-- The step, whatever the machine, the memory and the table. -/
theorem Step_any (v p F bt mm cap : Nat) (x : Vm) (st : St) (A : Option Addr) (t : List Pg) (w : World) (hv : VmAt w v x) (hm : MemAt w p F st) (ht : Tb w bt (.slice A mm cap) t) (hbw : bt < w.heap.size) :
    Calls Tryz.prog 11 #[ptr v, ptr p, .slice A mm cap] w (StepQ w v p F (stepV x st t).1 (stepV x st t).2.1 (stepV x st t).2.2) := by
  by_cases h : (fetI x st t).2 = 0
  · obtain ⟨-, k, a, b, h1, h2, h3, hk, ha, hb, -⟩ := fetI_ok h
    have hf : fetI x st t = (⟨k, a, b, (fetI x st t).1.m⟩, 0) := by
      rw [← h1, ← h2, ← h3, ← h]
    have e : stepV x st t = stepI x st t k a b (fetI x st t).1.m := by
      unfold stepV
      rw [if_neg (by omega), h1, h2, h3]
      simp
    rw [e]
    exact stepI_any v p F bt mm cap x st A t w hv hm ht hbw k a b _ hk ha hb hf
  · have e : stepV x st t = ((2, (fetI x st t).2), x, st) := by
      unfold stepV
      rw [if_pos h]
    rw [e]
    exact step_trap v p F bt mm cap x st A t w hv hm ht hbw _ rfl h
end Go.Proofs.YtbmaecdlkchkeaaGreatDoor
namespace Go.Proofs.YtbmaecdlkchkeaaGreatDoor
open Go.RowKit
set_option linter.unusedVariables false
set_option linter.unusedSimpArgs false
set_option maxRecDepth 100000
theorem Wr.touchV (k : Nat) (y : Vm) (st : St) (t : List Pg) (a : Nat) (ad wd nx : Int) : Wr t st (touchV k y st t a ad wd nx).2.2 := by
  unfold Go.Proofs.YtbmaecdlkchkeaaGreatDoor.touchV
  split
  · split <;> exact Wr.refl t st
  · split
    · exact Wr.refl t st
    · exact Wr.stS ..
theorem Wr.stepI (y : Vm) (st : St) (t : List Pg) (k a b : Nat) (m : Int) : Wr t st (stepI y st t k a b m).2.2 := by
  unfold Go.Proofs.YtbmaecdlkchkeaaGreatDoor.stepI
  split
  all_goals first
    | exact Wr.refl t st
    | exact Wr.touchV ..
    | (split <;> exact Wr.refl t st)
theorem Wr.stepV (y : Vm) (st : St) (t : List Pg) : Wr t st (stepV y st t).2.2 := by
  unfold Go.Proofs.YtbmaecdlkchkeaaGreatDoor.stepV
  split
  · exact Wr.refl t st
  · exact Wr.stepI ..
end Go.Proofs.YtbmaecdlkchkeaaGreatDoor
namespace Go.Proofs.YtbmaecdlkchkeaaGreatDoor
open Go.RowKit
set_option linter.unusedVariables false
set_option linter.unusedSimpArgs false
set_option maxRecDepth 100000
/-- Two memories that are alike in the frames of a table. -/
structure AlkS (t : List Pg) (s1 s2 : St) : Prop where
  n : s1.n = s2.n
  b : ∀ p ∈ t, 0 ≤ p.f → ∀ o, o < 256 → s1.b (p.f.toNat * 256 + o) = s2.b (p.f.toNat * 256 + o)
section
variable {t : List Pg} {s1 s2 : St} (h : AlkS t s1 s2)
include h
theorem AlkS.at_ {r a : Int} (hc : ch1 t r a = 0) : s1.b (loc t a) = s2.b (loc t a) := by
  obtain ⟨q, p, -, hq, hp, f0, -, e⟩ := ch1_in hc
  rw [e]
  exact h.b p (List.mem_of_getElem? hp) f0 _ (by omega)
theorem AlkS.rd (a n r : Int) : rdRM s1 t a n r = rdRM s2 t a n r := by
  unfold rdRM
  rw [h.n]
  split
  · rfl
  · split
    · rfl
    · split
      · next hz =>
        have hc := thr_of_zero hz
        congr 1
        refine List.map_congr_left (fun i hi => ?_)
        exact h.at_ (hc i (List.mem_range.1 hi))
      · rfl
theorem AlkS.ld (a k r : Int) : ldR s1 t a k r = ldR s2 t a k r := by
  unfold ldR
  rw [h.n, h.rd]
theorem AlkS.stE_ (a k n : Int) : stE s1 t a k n = stE s2 t a k n := by
  unfold stE wrE
  rw [h.n]
omit h in
theorem wrB_alk {P : Nat → Prop} {t : List Pg} : ∀ (s : List UInt8) (b1 b2 : Nat → UInt8) (a : Int), (∀ k, P k → b1 k = b2 k) → ∀ k, P k → wrB t b1 a s k = wrB t b2 a s k := by
  intro s
  induction s with
  | nil => intro b1 b2 a h k hk; exact h k hk
  | cons c s ih =>
    intro b1 b2 a h k hk
    rw [wrB, wrB]
    refine ih _ _ _ (fun j hj => ?_) k hk
    unfold upd
    split
    · rfl
    · exact h j hj
theorem AlkS.stS_ (a k n : Int) : AlkS t (stS s1 t a k n) (stS s2 t a k n) := by
  have e : ∀ s, wrE s1 t a s = wrE s2 t a s := fun s => by unfold wrE; rw [h.n]
  unfold Go.Proofs.YtbmaecdlkchkeaaGreatDoor.stS Go.Proofs.YtbmaecdlkchkeaaGreatDoor.wrS
  rw [h.n, e]
  split
  · exact h
  · split
    · exact h
    · split
      · refine ⟨rfl, fun p hp hf o ho => ?_⟩
        exact wrB_alk (P := fun j => ∃ p ∈ t, 0 ≤ p.f ∧ ∃ o, o < 256 ∧ j = p.f.toNat * 256 + o) _ _ _ _ (fun j ⟨p, hp, hf, o, ho, e⟩ => by rw [e]; exact h.b p hp hf o ho) _ ⟨p, hp, hf, o, ho, rfl⟩
      · exact h
theorem AlkS.fet (x : Vm) : fetI x s1 t = fetI x s2 t := by
  unfold fetI
  rw [h.rd]
end
/-- What a step may be. -/
def EvOk (x : Vm) (E : Int × Int) (X : Vm) : Prop := E.1 = 0 ∨ (E.1 = 1 ∧ X = x) ∨ (E.1 = 2 ∧ X = x) ∨ (E.1 = 3 ∧ X.wt = true)
theorem stepI_form (x : Vm) (t : List Pg) (k a b : Nat) (m : Int) : (∃ ad wd nx, ∀ st, stepI x st t k a b m = touchV k x st t a ad wd nx) ∨ ∃ E X, EvOk x E X ∧ ∀ st, stepI x st t k a b m = (E, X, st) := by
  by_cases h20 : k = 20
  · subst h20; exact .inl ⟨_, _, _, fun _ => rfl⟩
  by_cases h21 : k = 21
  · subst h21; exact .inl ⟨_, _, _, fun _ => rfl⟩
  by_cases h22 : k = 22
  · subst h22; exact .inl ⟨_, _, _, fun _ => rfl⟩
  by_cases h23 : k = 23
  · subst h23; exact .inl ⟨_, _, _, fun _ => rfl⟩
  right
  by_cases h8 : k = 8
  · subst h8
    by_cases hz : x.r b = 0
    · exact ⟨_, _, .inr (.inr (.inl ⟨rfl, rfl⟩)), fun st => by show (if x.r b = 0 then ((2, 5), x, st) else _) = ((2, 5), x, st); rw [if_pos hz]⟩
    · exact ⟨(0, 0), putP (putR x a (x.r a / x.r b)) ((x.pl + 4) % 4294967296), .inl rfl, fun st => by show (if x.r b = 0 then _ else _) = _; rw [if_neg hz]⟩
  by_cases h9 : k = 9
  · subst h9
    by_cases hz : x.r b = 0
    · exact ⟨_, _, .inr (.inr (.inl ⟨rfl, rfl⟩)), fun st => by show (if x.r b = 0 then ((2, 5), x, st) else _) = ((2, 5), x, st); rw [if_pos hz]⟩
    · exact ⟨(0, 0), putP (putR x a (x.r a % x.r b)) ((x.pl + 4) % 4294967296), .inl rfl, fun st => by show (if x.r b = 0 then _ else _) = _; rw [if_neg hz]⟩
  by_cases h1 : k = 1
  · subst h1; exact ⟨(1, 0), x, .inr (.inl ⟨rfl, rfl⟩), fun _ => rfl⟩
  by_cases h29 : k = 29
  · subst h29; exact ⟨(3, m), _, .inr (.inr (.inr ⟨rfl, rfl⟩)), fun _ => rfl⟩
  by_cases h0 : k = 0
  · subst h0; exact ⟨(0, 0), _, .inl rfl, fun _ => rfl⟩
  by_cases h2 : k = 2
  · subst h2; exact ⟨(0, 0), _, .inl rfl, fun _ => rfl⟩
  by_cases h3 : k = 3
  · subst h3; exact ⟨(0, 0), _, .inl rfl, fun _ => rfl⟩
  by_cases h19 : k = 19
  · subst h19; exact ⟨(0, 0), _, .inl rfl, fun _ => rfl⟩
  by_cases h24 : k = 24
  · subst h24; exact ⟨(0, 0), _, .inl rfl, fun _ => rfl⟩
  by_cases h25 : k = 25
  · subst h25; exact ⟨(0, 0), _, .inl rfl, fun _ => rfl⟩
  by_cases h26 : k = 26
  · subst h26; exact ⟨(0, 0), _, .inl rfl, fun _ => rfl⟩
  by_cases h27 : k = 27
  · subst h27; exact ⟨(0, 0), _, .inl rfl, fun _ => rfl⟩
  by_cases h28 : k = 28
  · subst h28; exact ⟨(0, 0), _, .inl rfl, fun _ => rfl⟩
  refine ⟨(0, 0), putP (putR x a (sumV k (x.r a) (x.r b))) ((x.pl + 4) % 4294967296), .inl rfl, fun st => ?_⟩
  unfold stepI
  split <;> first | rfl | omega
theorem touch_ok (k : Nat) (x : Vm) (st : St) (t : List Pg) (a : Nat) (ad wd nx : Int) : EvOk x (touchV k x st t a ad wd nx).1 (touchV k x st t a ad wd nx).2.1 ∧ ((touchV k x st t a ad wd nx).1.1 ≠ 0 → (touchV k x st t a ad wd nx).2.2 = st) := by
  unfold touchV
  split
  · split
    · exact ⟨.inr (.inr (.inl ⟨rfl, rfl⟩)), fun _ => rfl⟩
    · exact ⟨.inl rfl, fun _ => rfl⟩
  · split
    · exact ⟨.inr (.inr (.inl ⟨rfl, rfl⟩)), fun _ => rfl⟩
    · exact ⟨.inl rfl, fun h => absurd rfl h⟩
/-- An event's kinds; what a trap or a stop leaves. -/
theorem stepV_ok (x : Vm) (st : St) (t : List Pg) : EvOk x (stepV x st t).1 (stepV x st t).2.1 ∧ ((stepV x st t).1.1 ≠ 0 → (stepV x st t).2.2 = st) := by
  unfold stepV
  split
  · exact ⟨.inr (.inr (.inl ⟨rfl, rfl⟩)), fun _ => rfl⟩
  · rcases stepI_form x t (fetI x st t).1.op.toNat (fetI x st t).1.a.toNat (fetI x st t).1.b.toNat (fetI x st t).1.m with ⟨ad, wd, nx, h⟩ | ⟨E, X, hE, h⟩
    · rw [h st]
      exact touch_ok ..
    · rw [h st]
      exact ⟨hE, fun _ => rfl⟩
theorem stepV_bad {x : Vm} {st : St} {t : List Pg} (hT : okT st.n t = false) : (stepV x st t).2.2 = st := by
  have hr : (rdRM st t x.pl 4 4).2 ≠ 0 := by
    unfold rdRM
    rw [if_pos hT]
    decide
  have hf : (fetI x st t).2 ≠ 0 := by
    unfold fetI
    cases x.wt with
    | true => simp
    | false => simp [hr]
  unfold stepV
  rw [if_pos hf]
theorem AlkS.step {t : List Pg} {s1 s2 : St} (h : AlkS t s1 s2) (x : Vm) : (stepV x s1 t).1 = (stepV x s2 t).1 ∧ (stepV x s1 t).2.1 = (stepV x s2 t).2.1 ∧ AlkS t (stepV x s1 t).2.2 (stepV x s2 t).2.2 := by
  unfold stepV
  rw [h.fet x]
  split
  · exact ⟨rfl, rfl, h⟩
  · rcases stepI_form x t (fetI x s2 t).1.op.toNat (fetI x s2 t).1.a.toNat (fetI x s2 t).1.b.toNat (fetI x s2 t).1.m with ⟨ad, wd, nx, hh⟩ | ⟨E, X, hE, hh⟩
    · rw [hh s1, hh s2]
      unfold touchV
      rw [h.ld, h.stE_]
      split
      · split
        · exact ⟨rfl, rfl, h⟩
        · exact ⟨rfl, rfl, h⟩
      · split
        · exact ⟨rfl, rfl, h⟩
        · exact ⟨rfl, rfl, h.stS_ ..⟩
    · rw [hh s1, hh s2]
      exact ⟨rfl, rfl, h⟩
/-- A frame that is in no page is laid over. -/
theorem AlkS.lay {t : List Pg} {s1 s2 : St} (h : AlkS t s1 s2) {i : Nat} (hi : ∀ p ∈ t, p.f ≠ (i : Int)) (s : ByteArray) : AlkS t s1 (layS s2 (i : Int) 0 s) := by
  refine ⟨?_, fun p hp hf o ho => ?_⟩
  · rw [h.n]; unfold layS; split <;> rfl
  · rw [layS_far (by have := hi p hp; omega)]
    exact h.b p hp hf o ho
/-- Which frames may be written. -/
def opn (t : List Pg) (i : Nat) : Bool := t.any fun p => decide (p.f = (i : Int)) && decide (p.r / 2 % 2 = 1)
/-- All frames that may not be written have stayed. -/
structure KpS_ (t : List Pg) (s0 s : St) : Prop where
  n : s.n = s0.n
  b : ∀ i o, o < 256 → ((okT s0.n t && opn t i) = false) → s.b (i * 256 + o) = s0.b (i * 256 + o)
theorem KpS_.refl (t : List Pg) (s : St) : KpS_ t s s := ⟨rfl, fun _ _ _ _ => rfl⟩
theorem KpS_.step {t : List Pg} {s0 s : St} (h : KpS_ t s0 s) (x : Vm) : KpS_ t s0 (stepV x s t).2.2 := by
  have hw := Wr.stepV x s t
  refine ⟨hw.n.trans h.n, fun i o ho hc => ?_⟩
  rw [← h.b i o ho hc]
  cases hT : okT s.n t with
  | false => rw [stepV_bad hT]
  | true =>
    rw [h.n] at hT
    rw [hT, Bool.true_and] at hc
    apply Classical.byContradiction
    intro hne
    obtain ⟨q, hq, hl, hch⟩ := hw.b _ hne
    obtain ⟨q', p, -, h2, hp, f0, f1, r0, r7, hr, e⟩ := ch1_wr hT hch
    rw [e] at hl
    have hpi : p.f = (i : Int) := by omega
    have : opn t i = true := by
      unfold opn
      rw [List.any_eq_true]
      exact ⟨p, List.mem_of_getElem? hp, by simp; omega⟩
    rw [this] at hc
    cases hc
theorem KpS_.frame {t : List Pg} {s0 s : St} (h : KpS_ t s0 s) {i : Nat} (hc : (okT s0.n t && opn t i) = false) : frS s i = frS s0 i := by
  have : frB s i = frB s0 i := by
    unfold frB
    refine List.map_congr_left (fun o ho => ?_)
    exact h.b i o (List.mem_range.1 ho) hc
  unfold frS
  rw [this]
end Go.Proofs.YtbmaecdlkchkeaaGreatDoor
namespace Go.Proofs.YtbmaecdlkchkeaaGreatDoor
open Go.RowKit
set_option linter.unusedVariables false
set_option linter.unusedSimpArgs false
set_option maxRecDepth 100000
/-- Page by page the same bytes. -/
def SameB (t1 t2 : List Pg) (b1 b2 : Nat → UInt8) : Prop := ∀ (i : Nat) (p q : Pg), t1[i]? = some p → t2[i]? = some q → ∀ o, o < 256 → b1 (p.f.toNat * 256 + o) = b2 (q.f.toNat * 256 + o)
/-- Two tables over two memories that say the same. -/
structure RelS (t1 t2 : List Pg) (s1 s2 : St) : Prop where
  ok1 : okT s1.n t1 = true
  ok2 : okT s2.n t2 = true
  len : t1.length = t2.length
  a1 : apart t1
  a2 : apart t2
  pg : ∀ (i : Nat) (p q : Pg), t1[i]? = some p → t2[i]? = some q → p.r = q.r ∧ 0 ≤ p.f ∧ 0 ≤ q.f
  b : SameB t1 t2 s1.b s2.b
section
variable {t1 t2 : List Pg} {s1 s2 : St} (h : RelS t1 t2 s1 s2)
include h
theorem RelS.ch (r a : Int) : ch1 t1 r a = ch1 t2 r a := by
  unfold ch1
  by_cases h0 : a < 0
  · rw [pgAt_neg h0, pgAt_neg h0]
  · obtain ⟨q, rfl⟩ := Int.eq_ofNat_of_zero_le (by omega : 0 ≤ a)
    rw [pgAt_nat, pgAt_nat]
    cases h1 : t1[q / 256]? with
    | none =>
      have h2 : t2[q / 256]? = none := by
        rw [List.getElem?_eq_none_iff] at h1 ⊢
        rw [← h.len]
        exact h1
      rw [h2]
    | some p =>
      obtain ⟨q', hq'⟩ : ∃ q', t2[q / 256]? = some q' := ⟨_, List.getElem?_eq_getElem (by rw [← h.len]; exact (List.getElem?_eq_some_iff.1 h1).1)⟩
      rw [hq']
      obtain ⟨e, f1, f2⟩ := h.pg _ _ _ h1 hq'
      simp only
      rw [if_neg (show ¬ p.f < 0 by omega), if_neg (show ¬ q'.f < 0 by omega), e]
theorem RelS.thr_ (r : Int) : ∀ (n : Nat) (a : Int), thr t1 r a n = thr t2 r a n := by
  intro n
  induction n with
  | zero => intro a; rfl
  | succ n ih =>
    intro a
    rw [thr, thr, h.ch r a, ih (a + 1)]
theorem RelS.at_ {r a : Int} (hc : ch1 t1 r a = 0) : s1.b (loc t1 a) = s2.b (loc t2 a) := by
  have hc2 := hc
  rw [h.ch] at hc2
  obtain ⟨q, p, e0, hq, hp, f0, -, e⟩ := ch1_in hc
  obtain ⟨q', p', e1, hq', hp', f0', -, e'⟩ := ch1_in hc2
  have hqq : q = q' := by omega
  subst hqq
  rw [e, e']
  exact h.b _ p p' hp hp' _ (by omega)
theorem RelS.rd (a n r : Int) : rdRM s1 t1 a n r = rdRM s2 t2 a n r := by
  unfold rdRM
  rw [h.ok1, h.ok2, ← h.thr_ r n.toNat a]
  split
  · rfl
  · split
    · rfl
    · split
      · next hz =>
        have hc := thr_of_zero hz
        congr 1
        refine List.map_congr_left (fun i hi => ?_)
        exact h.at_ (hc i (List.mem_range.1 hi))
      · rfl
theorem RelS.ld (a k r : Int) : ldR s1 t1 a k r = ldR s2 t2 a k r := by
  unfold ldR
  rw [h.ok1, h.ok2, h.rd]
theorem RelS.wrE_ (a : Int) (s : ByteArray) : wrE s1 t1 a s = wrE s2 t2 a s := by
  unfold wrE
  rw [h.ok1, h.ok2, h.thr_]
theorem RelS.stE_ (a k n : Int) : stE s1 t1 a k n = stE s2 t2 a k n := by
  unfold stE
  rw [h.ok1, h.ok2, h.wrE_]
theorem RelS.upd_ {b1 b2 : Nat → UInt8} (hb : SameB t1 t2 b1 b2) {r a : Int} (hc : ch1 t1 r a = 0) (c : UInt8) : SameB t1 t2 (upd b1 (loc t1 a) c) (upd b2 (loc t2 a) c) := by
  have hc2 := hc
  rw [h.ch] at hc2
  obtain ⟨q, p, e0, hq, hp, f0, -, e⟩ := ch1_in hc
  obtain ⟨q', p', e1, hq', hp', f0', -, e'⟩ := ch1_in hc2
  have hqq : q = q' := by omega
  subst hqq
  intro i x y hx hy o ho
  obtain ⟨-, fx, fy⟩ := h.pg i x y hx hy
  rw [e, e']
  unfold upd
  by_cases hi : i = q / 256 ∧ o = q % 256
  · obtain ⟨hi, ho'⟩ := hi
    have ex : x = p := by rw [hi] at hx; rw [hp] at hx; injection hx with hx; exact hx.symm
    have ey : y = p' := by rw [hi] at hy; rw [hp'] at hy; injection hy with hy; exact hy.symm
    subst ex
    subst ey
    rw [if_pos (by omega), if_pos (by omega)]
  · have hm : q % 256 < 256 := Nat.mod_lt _ (by decide)
    have g1 : ¬ (x.f.toNat * 256 + o = p.f.toNat * 256 + q % 256) := by
      intro he
      have hf : x.f = p.f := by omega
      exact hi ⟨h.a1 _ _ _ _ hx hp hf, by omega⟩
    have g2 : ¬ (y.f.toNat * 256 + o = p'.f.toNat * 256 + q % 256) := by
      intro he
      have hf : y.f = p'.f := by omega
      exact hi ⟨h.a2 _ _ _ _ hy hp' hf, by omega⟩
    rw [if_neg g1, if_neg g2]
    exact hb i x y hx hy o ho
theorem RelS.wrB_ {r : Int} : ∀ (s : List UInt8) (b1 b2 : Nat → UInt8) (a : Int), SameB t1 t2 b1 b2 → (∀ i, i < s.length → ch1 t1 r (a + (i : Nat)) = 0) → SameB t1 t2 (wrB t1 b1 a s) (wrB t2 b2 a s) := by
  intro s
  induction s with
  | nil => intro b1 b2 a hb _; exact hb
  | cons c s ih =>
    intro b1 b2 a hb hc
    rw [wrB, wrB]
    refine ih _ _ _ (h.upd_ hb (r := r) (by simpa using hc 0 (by simp)) c) (fun i hi => ?_)
    have := hc (i + 1) (by simp only [List.length_cons]; omega)
    rw [show a + 1 + ((i : Nat) : Int) = a + ((i + 1 : Nat) : Int) by omega]
    exact this
theorem RelS.wrS_ (a : Int) (s : ByteArray) : RelS t1 t2 (wrS s1 t1 a s) (wrS s2 t2 a s) := by
  unfold wrS
  rw [← h.wrE_]
  split
  · next hz =>
    refine ⟨h.ok1, h.ok2, h.len, h.a1, h.a2, h.pg, ?_⟩
    refine h.wrB_ (r := 2) _ _ _ a h.b ?_
    unfold wrE at hz
    rw [h.ok1] at hz
    split at hz
    · omega
    · split at hz
      · omega
      · exact thr_of_zero hz
  · exact h
theorem RelS.stS_ (a k n : Int) : RelS t1 t2 (stS s1 t1 a k n) (stS s2 t2 a k n) := by
  unfold stS
  rw [h.ok1, h.ok2]
  split
  · exact h
  · split
    · exact h
    · exact h.wrS_ ..
theorem RelS.fet (x : Vm) : fetI x s1 t1 = fetI x s2 t2 := by
  unfold fetI
  rw [h.rd]
end
theorem stepI_forms (x : Vm) (k a b : Nat) (m : Int) : (∃ ad wd nx, ∀ st t, stepI x st t k a b m = touchV k x st t a ad wd nx) ∨ ∃ E X, ∀ st t, stepI x st t k a b m = (E, X, st) := by
  by_cases h20 : k = 20
  · subst h20; exact .inl ⟨_, _, _, fun _ _ => rfl⟩
  by_cases h21 : k = 21
  · subst h21; exact .inl ⟨_, _, _, fun _ _ => rfl⟩
  by_cases h22 : k = 22
  · subst h22; exact .inl ⟨_, _, _, fun _ _ => rfl⟩
  by_cases h23 : k = 23
  · subst h23; exact .inl ⟨_, _, _, fun _ _ => rfl⟩
  right
  by_cases h8 : k = 8
  · subst h8
    by_cases hz : x.r b = 0
    · exact ⟨_, _, fun st t => by show (if x.r b = 0 then ((2, 5), x, st) else _) = ((2, 5), x, st); rw [if_pos hz]⟩
    · exact ⟨(0, 0), putP (putR x a (x.r a / x.r b)) ((x.pl + 4) % 4294967296), fun st t => by show (if x.r b = 0 then _ else _) = _; rw [if_neg hz]⟩
  by_cases h9 : k = 9
  · subst h9
    by_cases hz : x.r b = 0
    · exact ⟨_, _, fun st t => by show (if x.r b = 0 then ((2, 5), x, st) else _) = ((2, 5), x, st); rw [if_pos hz]⟩
    · exact ⟨(0, 0), putP (putR x a (x.r a % x.r b)) ((x.pl + 4) % 4294967296), fun st t => by show (if x.r b = 0 then _ else _) = _; rw [if_neg hz]⟩
  by_cases h1 : k = 1
  · subst h1; exact ⟨(1, 0), x, fun _ _ => rfl⟩
  by_cases h29 : k = 29
  · subst h29; exact ⟨(3, m), _, fun _ _ => rfl⟩
  by_cases h0 : k = 0
  · subst h0; exact ⟨(0, 0), _, fun _ _ => rfl⟩
  by_cases h2 : k = 2
  · subst h2; exact ⟨(0, 0), _, fun _ _ => rfl⟩
  by_cases h3 : k = 3
  · subst h3; exact ⟨(0, 0), _, fun _ _ => rfl⟩
  by_cases h19 : k = 19
  · subst h19; exact ⟨(0, 0), _, fun _ _ => rfl⟩
  by_cases h24 : k = 24
  · subst h24; exact ⟨(0, 0), _, fun _ _ => rfl⟩
  by_cases h25 : k = 25
  · subst h25; exact ⟨(0, 0), _, fun _ _ => rfl⟩
  by_cases h26 : k = 26
  · subst h26; exact ⟨(0, 0), _, fun _ _ => rfl⟩
  by_cases h27 : k = 27
  · subst h27; exact ⟨(0, 0), _, fun _ _ => rfl⟩
  by_cases h28 : k = 28
  · subst h28; exact ⟨(0, 0), _, fun _ _ => rfl⟩
  refine ⟨(0, 0), putP (putR x a (sumV k (x.r a) (x.r b))) ((x.pl + 4) % 4294967296), fun st t => ?_⟩
  unfold stepI
  split <;> first | rfl | omega
/-- One step of a machine is the same through both. -/
theorem RelS.step {t1 t2 : List Pg} {s1 s2 : St} (h : RelS t1 t2 s1 s2) (x : Vm) : (stepV x s1 t1).1 = (stepV x s2 t2).1 ∧ (stepV x s1 t1).2.1 = (stepV x s2 t2).2.1 ∧ RelS t1 t2 (stepV x s1 t1).2.2 (stepV x s2 t2).2.2 := by
  unfold stepV
  rw [h.fet x]
  split
  · exact ⟨rfl, rfl, h⟩
  · rcases stepI_forms x (fetI x s2 t2).1.op.toNat (fetI x s2 t2).1.a.toNat (fetI x s2 t2).1.b.toNat (fetI x s2 t2).1.m with ⟨ad, wd, nx, hh⟩ | ⟨E, X, hh⟩
    · rw [hh s1, hh s2]
      unfold touchV
      rw [h.ld, h.stE_]
      split
      · split
        · exact ⟨rfl, rfl, h⟩
        · exact ⟨rfl, rfl, h⟩
      · split
        · exact ⟨rfl, rfl, h⟩
        · exact ⟨rfl, rfl, h.stS_ ..⟩
    · rw [hh s1, hh s2]
      exact ⟨rfl, rfl, h⟩
end Go.Proofs.YtbmaecdlkchkeaaGreatDoor
