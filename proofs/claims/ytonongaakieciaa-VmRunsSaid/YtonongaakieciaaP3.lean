/- The laws of VmBlind and VmKeeps: a step hangs on the table's own frames alone; what it may turn (no program in sight). -/
import Derived.Test.YtonongaakieciaaV16
namespace Go.Proofs.Ytonongaakieciaa
open Go.RowKit
set_option linter.unusedVariables false
set_option linter.unusedSimpArgs false
set_option maxRecDepth 100000
/-- Two memories that are alike in the frames of a table. -/
structure AlkS (t : List Pg) (s1 s2 : St) : Prop where
  n : s1.n = s2.n
  b : ∀ p ∈ t, 0 ≤ p.f → ∀ o, o < 256 → s1.b (p.f.toNat * 256 + o) = s2.b (p.f.toNat * 256 + o)
section
variable {t : List Pg} {s1 s2 : St} (h : AlkS t s1 s2)
include h
theorem AlkS.at_ {r a : Int} (hc : ch1 t r a = 0) : s1.b (loc t a) = s2.b (loc t a) := by
  obtain ⟨q, p, -, hq, hp, f0, -, e⟩ := ch1_in hc
  rw [e]
  exact h.b p (List.mem_of_getElem? hp) f0 _ (by omega)
theorem AlkS.rd (a n r : Int) : rdR s1 t a n r = rdR s2 t a n r := by
  unfold rdR
  rw [h.n]
  split
  · rfl
  · split
    · rfl
    · split
      · next hz =>
        have hc := thr_of_zero hz
        congr 1
        refine List.map_congr_left (fun i hi => ?_)
        exact h.at_ (hc i (List.mem_range.1 hi))
      · rfl
theorem AlkS.ld (a k r : Int) : ldR s1 t a k r = ldR s2 t a k r := by
  unfold ldR
  rw [h.n, h.rd]
theorem AlkS.stE_ (a k n : Int) : stE s1 t a k n = stE s2 t a k n := by
  unfold stE wrE
  rw [h.n]
omit h in
theorem wrB_alk {P : Nat → Prop} {t : List Pg} : ∀ (s : List UInt8) (b1 b2 : Nat → UInt8) (a : Int), (∀ k, P k → b1 k = b2 k) → ∀ k, P k → wrB t b1 a s k = wrB t b2 a s k := by
  intro s
  induction s with
  | nil => intro b1 b2 a h k hk; exact h k hk
  | cons c s ih =>
    intro b1 b2 a h k hk
    rw [wrB, wrB]
    refine ih _ _ _ (fun j hj => ?_) k hk
    unfold upd
    split
    · rfl
    · exact h j hj
theorem AlkS.stS_ (a k n : Int) : AlkS t (stS s1 t a k n) (stS s2 t a k n) := by
  have e : ∀ s, wrE s1 t a s = wrE s2 t a s := fun s => by unfold wrE; rw [h.n]
  unfold Go.Proofs.Ytonongaakieciaa.stS Go.Proofs.Ytonongaakieciaa.wrS
  rw [h.n, e]
  split
  · exact h
  · split
    · exact h
    · split
      · refine ⟨rfl, fun p hp hf o ho => ?_⟩
        exact wrB_alk (P := fun j => ∃ p ∈ t, 0 ≤ p.f ∧ ∃ o, o < 256 ∧ j = p.f.toNat * 256 + o) _ _ _ _ (fun j ⟨p, hp, hf, o, ho, e⟩ => by rw [e]; exact h.b p hp hf o ho) _ ⟨p, hp, hf, o, ho, rfl⟩
      · exact h
theorem AlkS.fet (x : Vm) : fetI x s1 t = fetI x s2 t := by
  unfold fetI
  rw [h.rd]
end
/-- What a step may be. -/
def EvOk (x : Vm) (E : Int × Int) (X : Vm) : Prop := E.1 = 0 ∨ (E.1 = 1 ∧ X = x) ∨ (E.1 = 2 ∧ X = x) ∨ (E.1 = 3 ∧ X.wt = true)
theorem stepI_form (x : Vm) (t : List Pg) (k a b : Nat) (m : Int) : (∃ ad wd nx, ∀ st, stepI x st t k a b m = touchV k x st t a ad wd nx) ∨ ∃ E X, EvOk x E X ∧ ∀ st, stepI x st t k a b m = (E, X, st) := by
  by_cases h20 : k = 20
  · subst h20; exact .inl ⟨_, _, _, fun _ => rfl⟩
  by_cases h21 : k = 21
  · subst h21; exact .inl ⟨_, _, _, fun _ => rfl⟩
  by_cases h22 : k = 22
  · subst h22; exact .inl ⟨_, _, _, fun _ => rfl⟩
  by_cases h23 : k = 23
  · subst h23; exact .inl ⟨_, _, _, fun _ => rfl⟩
  right
  by_cases h8 : k = 8
  · subst h8
    by_cases hz : x.r b = 0
    · exact ⟨_, _, .inr (.inr (.inl ⟨rfl, rfl⟩)), fun st => by show (if x.r b = 0 then ((2, 5), x, st) else _) = ((2, 5), x, st); rw [if_pos hz]⟩
    · exact ⟨(0, 0), putP (putR x a (x.r a / x.r b)) ((x.pl + 4) % 4294967296), .inl rfl, fun st => by show (if x.r b = 0 then _ else _) = _; rw [if_neg hz]⟩
  by_cases h9 : k = 9
  · subst h9
    by_cases hz : x.r b = 0
    · exact ⟨_, _, .inr (.inr (.inl ⟨rfl, rfl⟩)), fun st => by show (if x.r b = 0 then ((2, 5), x, st) else _) = ((2, 5), x, st); rw [if_pos hz]⟩
    · exact ⟨(0, 0), putP (putR x a (x.r a % x.r b)) ((x.pl + 4) % 4294967296), .inl rfl, fun st => by show (if x.r b = 0 then _ else _) = _; rw [if_neg hz]⟩
  by_cases h1 : k = 1
  · subst h1; exact ⟨(1, 0), x, .inr (.inl ⟨rfl, rfl⟩), fun _ => rfl⟩
  by_cases h29 : k = 29
  · subst h29; exact ⟨(3, m), _, .inr (.inr (.inr ⟨rfl, rfl⟩)), fun _ => rfl⟩
  by_cases h0 : k = 0
  · subst h0; exact ⟨(0, 0), _, .inl rfl, fun _ => rfl⟩
  by_cases h2 : k = 2
  · subst h2; exact ⟨(0, 0), _, .inl rfl, fun _ => rfl⟩
  by_cases h3 : k = 3
  · subst h3; exact ⟨(0, 0), _, .inl rfl, fun _ => rfl⟩
  by_cases h19 : k = 19
  · subst h19; exact ⟨(0, 0), _, .inl rfl, fun _ => rfl⟩
  by_cases h24 : k = 24
  · subst h24; exact ⟨(0, 0), _, .inl rfl, fun _ => rfl⟩
  by_cases h25 : k = 25
  · subst h25; exact ⟨(0, 0), _, .inl rfl, fun _ => rfl⟩
  by_cases h26 : k = 26
  · subst h26; exact ⟨(0, 0), _, .inl rfl, fun _ => rfl⟩
  by_cases h27 : k = 27
  · subst h27; exact ⟨(0, 0), _, .inl rfl, fun _ => rfl⟩
  by_cases h28 : k = 28
  · subst h28; exact ⟨(0, 0), _, .inl rfl, fun _ => rfl⟩
  refine ⟨(0, 0), putP (putR x a (sumV k (x.r a) (x.r b))) ((x.pl + 4) % 4294967296), .inl rfl, fun st => ?_⟩
  unfold stepI
  split <;> first | rfl | omega
theorem touch_ok (k : Nat) (x : Vm) (st : St) (t : List Pg) (a : Nat) (ad wd nx : Int) : EvOk x (touchV k x st t a ad wd nx).1 (touchV k x st t a ad wd nx).2.1 ∧ ((touchV k x st t a ad wd nx).1.1 ≠ 0 → (touchV k x st t a ad wd nx).2.2 = st) := by
  unfold touchV
  split
  · split
    · exact ⟨.inr (.inr (.inl ⟨rfl, rfl⟩)), fun _ => rfl⟩
    · exact ⟨.inl rfl, fun _ => rfl⟩
  · split
    · exact ⟨.inr (.inr (.inl ⟨rfl, rfl⟩)), fun _ => rfl⟩
    · exact ⟨.inl rfl, fun h => absurd rfl h⟩
/-- An event's kinds; what a trap or a stop leaves. -/
theorem stepV_ok (x : Vm) (st : St) (t : List Pg) : EvOk x (stepV x st t).1 (stepV x st t).2.1 ∧ ((stepV x st t).1.1 ≠ 0 → (stepV x st t).2.2 = st) := by
  unfold stepV
  split
  · exact ⟨.inr (.inr (.inl ⟨rfl, rfl⟩)), fun _ => rfl⟩
  · rcases stepI_form x t (fetI x st t).1.op.toNat (fetI x st t).1.a.toNat (fetI x st t).1.b.toNat (fetI x st t).1.m with ⟨ad, wd, nx, h⟩ | ⟨E, X, hE, h⟩
    · rw [h st]
      exact touch_ok ..
    · rw [h st]
      exact ⟨hE, fun _ => rfl⟩
theorem stepV_bad {x : Vm} {st : St} {t : List Pg} (hT : okT st.n t = false) : (stepV x st t).2.2 = st := by
  have hr : (rdR st t x.pl 4 4).2 ≠ 0 := by
    unfold rdR
    rw [if_pos hT]
    decide
  have hf : (fetI x st t).2 ≠ 0 := by
    unfold fetI
    cases x.wt with
    | true => simp
    | false => simp [hr]
  unfold stepV
  rw [if_pos hf]
theorem AlkS.step {t : List Pg} {s1 s2 : St} (h : AlkS t s1 s2) (x : Vm) : (stepV x s1 t).1 = (stepV x s2 t).1 ∧ (stepV x s1 t).2.1 = (stepV x s2 t).2.1 ∧ AlkS t (stepV x s1 t).2.2 (stepV x s2 t).2.2 := by
  unfold stepV
  rw [h.fet x]
  split
  · exact ⟨rfl, rfl, h⟩
  · rcases stepI_form x t (fetI x s2 t).1.op.toNat (fetI x s2 t).1.a.toNat (fetI x s2 t).1.b.toNat (fetI x s2 t).1.m with ⟨ad, wd, nx, hh⟩ | ⟨E, X, hE, hh⟩
    · rw [hh s1, hh s2]
      unfold touchV
      rw [h.ld, h.stE_]
      split
      · split
        · exact ⟨rfl, rfl, h⟩
        · exact ⟨rfl, rfl, h⟩
      · split
        · exact ⟨rfl, rfl, h⟩
        · exact ⟨rfl, rfl, h.stS_ ..⟩
    · rw [hh s1, hh s2]
      exact ⟨rfl, rfl, h⟩
/-- A frame that is in no page is laid over. -/
theorem AlkS.lay {t : List Pg} {s1 s2 : St} (h : AlkS t s1 s2) {i : Nat} (hi : ∀ p ∈ t, p.f ≠ (i : Int)) (s : ByteArray) : AlkS t s1 (layS s2 (i : Int) 0 s) := by
  refine ⟨?_, fun p hp hf o ho => ?_⟩
  · rw [h.n]; unfold layS; split <;> rfl
  · rw [layS_far (by have := hi p hp; omega)]
    exact h.b p hp hf o ho
/-- Which frames may be written. -/
def opn (t : List Pg) (i : Nat) : Bool := t.any fun p => decide (p.f = (i : Int)) && decide (p.r / 2 % 2 = 1)
/-- All frames that may not be written have stayed. -/
structure KpS_ (t : List Pg) (s0 s : St) : Prop where
  n : s.n = s0.n
  b : ∀ i o, o < 256 → ((okT s0.n t && opn t i) = false) → s.b (i * 256 + o) = s0.b (i * 256 + o)
theorem KpS_.refl (t : List Pg) (s : St) : KpS_ t s s := ⟨rfl, fun _ _ _ _ => rfl⟩
theorem KpS_.step {t : List Pg} {s0 s : St} (h : KpS_ t s0 s) (x : Vm) : KpS_ t s0 (stepV x s t).2.2 := by
  have hw := Wr.stepV x s t
  refine ⟨hw.n.trans h.n, fun i o ho hc => ?_⟩
  rw [← h.b i o ho hc]
  cases hT : okT s.n t with
  | false => rw [stepV_bad hT]
  | true =>
    rw [h.n] at hT
    rw [hT, Bool.true_and] at hc
    apply Classical.byContradiction
    intro hne
    obtain ⟨q, hq, hl, hch⟩ := hw.b _ hne
    obtain ⟨q', p, -, h2, hp, f0, f1, r0, r7, hr, e⟩ := ch1_wr hT hch
    rw [e] at hl
    have hpi : p.f = (i : Int) := by omega
    have : opn t i = true := by
      unfold opn
      rw [List.any_eq_true]
      exact ⟨p, List.mem_of_getElem? hp, by simp; omega⟩
    rw [this] at hc
    cases hc
theorem KpS_.frame {t : List Pg} {s0 s : St} (h : KpS_ t s0 s) {i : Nat} (hc : (okT s0.n t && opn t i) = false) : frS s i = frS s0 i := by
  have : frB s i = frB s0 i := by
    unfold frB
    refine List.map_congr_left (fun o ho => ?_)
    exact h.b i o (List.mem_range.1 ho) hc
  unfold frS
  rw [this]
end Go.Proofs.Ytonongaakieciaa
