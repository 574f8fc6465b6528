/- Sound spaces: what keeps them; what is copied in is copied out (no program). -/
import Derived.Test.YtonongaakieciaaS9
namespace Go.Proofs.Ytonongaakieciaa
open Go.RowKit
set_option linter.unusedVariables false
set_option linter.unusedSimpArgs false
set_option maxRecDepth 100000
theorem ch1_in {t : List Pg} {r a : Int} (h : ch1 t r a = 0) : ∃ (q : Nat) (p : Pg), a = (q : Int) ∧ q < t.length * 256 ∧ t[q / 256]? = some p ∧ 0 ≤ p.f ∧ bits .and .i64 p.r r ≠ 0 ∧ loc t a = p.f.toNat * 256 + q % 256 := by
  by_cases h0 : a < 0
  · rw [ch1_neg h0] at h; omega
  · obtain ⟨q, rfl⟩ := Int.eq_ofNat_of_zero_le (by omega : 0 ≤ a)
    by_cases hl : t.length * 256 ≤ q
    · rw [ch1_far hl] at h; omega
    · obtain ⟨p, hp⟩ : ∃ p, t[q / 256]? = some p := ⟨_, List.getElem?_eq_getElem (by omega)⟩
      rw [ch1_at hp] at h
      by_cases hf : p.f < 0
      · rw [if_pos hf] at h; omega
      · rw [if_neg hf] at h
        by_cases hb : bits .and .i64 p.r r = 0
        · rw [if_pos hb] at h; omega
        · exact ⟨q, p, rfl, by omega, hp, by omega, hb, loc_at hp⟩
/-- No two pages of a table lie on one frame. -/
def apart (t : List Pg) : Prop := ∀ (i j : Nat) (p q : Pg), t[i]? = some p → t[j]? = some q → p.f = q.f → i = j
theorem loc_inj {t : List Pg} (ha : apart t) {r r' a a' : Int} (h : ch1 t r a = 0) (h' : ch1 t r' a' = 0) (hl : loc t a = loc t a') : a = a' := by
  obtain ⟨q, p, rfl, hq, hp, f0, -, e⟩ := ch1_in h
  obtain ⟨q', p', rfl, hq', hp', f0', -, e'⟩ := ch1_in h'
  rw [e, e'] at hl
  have h1 : p.f = p'.f := by omega
  have h2 : q % 256 = q' % 256 := by omega
  have h3 := ha _ _ _ _ hp hp' h1
  omega
theorem wrB_out {t : List Pg} {k : Nat} : ∀ (s : List UInt8) (b : Nat → UInt8) (a : Int), (∀ j, j < s.length → loc t (a + (j : Nat)) ≠ k) → wrB t b a s k = b k := by
  intro s
  induction s with
  | nil => intro b a _; rfl
  | cons c s ih =>
    intro b a h
    rw [wrB, ih _ _ (fun j hj => by
      have := h (j + 1) (by simp; omega)
      rwa [show a + ((j + 1 : Nat) : Int) = a + 1 + (j : Nat) from by omega] at this)]
    have := h 0 (by simp)
    exact upd_ne (fun e => this (by simpa using e.symm))
theorem wrB_back {t : List Pg} (ha : apart t) : ∀ (s : List UInt8) (b : Nat → UInt8) (a : Int), (∀ i, i < s.length → ch1 t 2 (a + (i : Nat)) = 0) → ∀ (i : Nat) (c : UInt8), s[i]? = some c → wrB t b a s (loc t (a + (i : Nat))) = c := by
  intro s
  induction s with
  | nil => intro b a _ i c h; simp at h
  | cons d s ih =>
    intro b a h i c hi
    rw [wrB]
    cases i with
    | zero =>
      simp at hi
      subst hi
      rw [wrB_out _ _ _ (fun j hj e => ?_)]
      · have : a + ((0 : Nat) : Int) = a := by omega
        rw [this, upd_same]
      · have h1 := h (j + 1) (by simp; omega)
        have h0 := h 0 (by simp)
        rw [show a + ((j + 1 : Nat) : Int) = a + 1 + (j : Nat) from by omega] at h1
        have := loc_inj ha h1 h0 e
        omega
    | succ i =>
      simp at hi
      have := ih (upd b (loc t a) d) (a + 1) (fun j hj => by
        have := h (j + 1) (by simp; omega)
        rwa [show a + ((j + 1 : Nat) : Int) = a + 1 + (j : Nat) from by omega] at this) i c hi
      rwa [show a + ((i + 1 : Nat) : Int) = a + 1 + (i : Nat) from by omega]
section
variable {x : Sp} (h : SpOk x)
include h
theorem SpOk.apart {i : Nat} {t : List Pg} (hi : x.tb[i]? = some t) : apart t := fun j j' p p' hp hp' hf => (h.ap i t j p i t j' p' hi hp hi hp' hf).2
theorem SpOk.st_ {st' : St} (hn : st'.n = x.st.n) : SpOk ⟨st', x.tb⟩ := ⟨h.n1, fun i t hi => by rw [hn]; exact h.ok i t hi, h.pg, h.ap⟩
/-- A table turns: its frames stay. -/
theorem SpOk.set_ {st' : St} (hn : st'.n = x.st.n) {k : Nat} {t t' : List Pg} (hk : x.tb[k]? = some t) (hl : t'.length = t.length) (hf : ∀ (j : Nat) (p : Pg), t'[j]? = some p → ∃ q, t[j]? = some q ∧ p.f = q.f ∧ (p.r = 3 ∨ p.r = 5)) : SpOk ⟨st', x.tb.set k t'⟩ := by
  have hkl := (List.getElem?_eq_some_iff.1 hk).1
  have old : ∀ (i : Nat) (u : List Pg), (x.tb.set k t')[i]? = some u → ∃ v, x.tb[i]? = some v ∧ u.length = v.length ∧ ∀ (j : Nat) (p : Pg), u[j]? = some p → ∃ q, v[j]? = some q ∧ p.f = q.f ∧ (p.r = 3 ∨ p.r = 5) := fun i u hi => by
    rw [List.getElem?_set] at hi
    by_cases e : k = i
    · subst e
      rw [if_pos rfl, if_pos hkl] at hi
      injection hi with hi
      subst hi
      exact ⟨t, hk, hl, hf⟩
    · rw [if_neg e] at hi
      exact ⟨u, hi, rfl, fun j p hp => ⟨p, hp, rfl, (h.pg i u hi p (List.mem_of_getElem? hp)).2⟩⟩
  refine ⟨fun i u hi => ?_, fun i u hi => ?_, fun i u hi p hp => ?_, fun i u j p i' u' j' p' hi hp hi' hp' hpf => ?_⟩
  · obtain ⟨v, hv, hl, -⟩ := old i u hi
    rw [hl]
    exact h.n1 i v hv
  · obtain ⟨v, hv, hl, ho⟩ := old i u hi
    have hT := h.ok i v hv
    show okT st'.n u = true
    rw [hn]
    unfold okT
    simp only [Bool.and_eq_true, decide_eq_true_eq, List.all_eq_true]
    refine ⟨by rw [hl]; exact okT_len hT, fun p hp => ?_⟩
    obtain ⟨j, hj⟩ := List.getElem?_of_mem hp
    obtain ⟨q, hq, e1, e2⟩ := ho j p hj
    obtain ⟨g1, g2, g3, g4, g5⟩ := okT_at hT hq
    have g6 := (h.pg i v hv q (List.mem_of_getElem? hq)).1
    exact (okP_iff _ _).2 ⟨by omega, by omega, by omega, by omega, fun h0 => by omega⟩
  · obtain ⟨v, hv, hl, ho⟩ := old i u hi
    obtain ⟨j, hj⟩ := List.getElem?_of_mem hp
    obtain ⟨q, hq, e1, e2⟩ := ho j p hj
    exact ⟨by rw [e1]; exact (h.pg i v hv q (List.mem_of_getElem? hq)).1, e2⟩
  · obtain ⟨v, hv, -, ho⟩ := old i u hi
    obtain ⟨v', hv', -, ho'⟩ := old i' u' hi'
    obtain ⟨q, hq, e1, -⟩ := ho j p hp
    obtain ⟨q', hq', e1', -⟩ := ho' j' p' hp'
    exact h.ap i v j q i' v' j' q' hv hq hv' hq' (by rw [← e1, ← e1', hpf])
end
theorem wrS_n (st : St) (t : List Pg) (a : Int) (s : ByteArray) : (wrS st t a s).n = st.n := by
  unfold wrS
  split <;> rfl
theorem SpOk.out {x : Sp} (h : SpOk x) (i a : Int) (s : ByteArray) : SpOk (outS x i a s) := by
  unfold outS
  split
  · exact h
  · exact h.st_ (wrS_n _ _ _ _)
theorem ldO_n (m : St) (f : Int) (t : ByteArray) (i : Nat) : (ldO m f t i).n = m.n := by
  unfold ldO layS clS
  split
  · split
    · show (if _ then _ else _ : St).n = _
      split <;> rfl
    · split <;> rfl
  · split <;> rfl
theorem ldM_n (st : St) (tb : List Pg) (t : ByteArray) : ∀ i, (ldM st tb t i).n = st.n := by
  intro i
  induction i with
  | zero => rfl
  | succ i ih => rw [ldM, ldO_n, ih]
theorem SpOk.ld {x : Sp} (h : SpOk x) (i : Int) (t : ByteArray) : SpOk (ldS x i t) := by
  unfold ldS
  split
  · exact h
  · next hE =>
    have hp : hasP x i = true := by
      cases hp : hasP x i with
      | true => rfl
      | false => exact absurd (show ldE x i t ≠ 0 by unfold ldE; rw [if_pos hp]; decide) hE
    obtain ⟨k, tb, rfl, hk⟩ := hasP_some hp
    obtain ⟨-, hto⟩ := tbOf_some hk
    rw [hto, Int.toNat_natCast]
    refine h.set_ (ldM_n _ _ _ _) hk (ldT_len _ _ _) (fun j p hj => ?_)
    unfold ldT at hj
    rw [List.getElem?_mapIdx] at hj
    cases hq : tb[j]? with
    | none => rw [hq] at hj; cases hj
    | some q =>
      rw [hq, Option.map_some, if_pos (List.getElem?_eq_some_iff.1 hq).1] at hj
      injection hj with hj
      subst hj
      refine ⟨q, rfl, rfl, ?_⟩
      unfold pgL
      simp only
      split
      · exact .inr rfl
      · exact .inl rfl
/-- The new one is sound. -/
theorem SpOk.new {t : List Pg} (h : ptsE t = 0) : SpOk (spNew t) := by
  have hok : (1 ≤ t.length ∧ t.length ≤ 8) ∧ t.all ptOk = true := by
    unfold ptsE at h
    split at h
    · next h' => exact h'
    · omega
  have tab : ∀ (i : Nat) (u : List Pg), (spNew t).tb[i]? = some u → i < t.length ∧ u = rowN t i := fun i u hi => by
    unfold spNew at hi
    simp only at hi
    rw [List.getElem?_map] at hi
    cases hr : (List.range t.length)[i]? with
    | none => rw [hr] at hi; cases hi
    | some k =>
      rw [hr] at hi
      injection hi with hi
      obtain ⟨h1, h2⟩ := List.getElem?_eq_some_iff.1 hr
      simp at h1 h2
      subst h2
      exact ⟨h1, hi.symm⟩
  have pg : ∀ (i j : Nat) (p : Pg), (rowN t i)[j]? = some p → j < rN t i ∧ p = ⟨((tot t i + j : Nat) : Int), 3⟩ := fun i j p hp => by
    unfold rowN at hp
    rw [List.getElem?_map] at hp
    cases hr : (List.range (rN t i))[j]? with
    | none => rw [hr] at hp; cases hp
    | some k =>
      rw [hr] at hp
      injection hp with hp
      obtain ⟨h1, h2⟩ := List.getElem?_eq_some_iff.1 hr
      simp at h1 h2
      subst h2
      exact ⟨h1, hp.symm⟩
  have hr : ∀ j, j < t.length → 1 ≤ rN t j ∧ rN t j ≤ 16 := fun j hj => by
    obtain ⟨q, hq⟩ : ∃ q, t[j]? = some q := ⟨_, List.getElem?_eq_getElem hj⟩
    obtain ⟨g1, g2, g3⟩ := ptOk_all hok.2 hq
    omega
  have hl : ∀ i, (rowN t i).length = rN t i := fun i => by unfold rowN; simp
  refine ⟨fun i u hi => ?_, fun i u hi => ?_, fun i u hi p hp => ?_, fun i u j p i' u' j' p' hi hp hi' hp' hf => ?_⟩
  · obtain ⟨h1, rfl⟩ := tab i u hi
    rw [hl]
    exact (hr i h1).1
  · obtain ⟨h1, rfl⟩ := tab i u hi
    show okT (tot t t.length) _ = true
    unfold okT
    simp only [Bool.and_eq_true, decide_eq_true_eq, List.all_eq_true]
    refine ⟨by rw [hl]; exact (hr i h1).2, fun p hp => ?_⟩
    obtain ⟨j, hj⟩ := List.getElem?_of_mem hp
    obtain ⟨h2, rfl⟩ := pg i j p hj
    have h3 := tot_mono (t := t) (show i + 1 ≤ t.length from h1)
    rw [tot_succ] at h3
    exact (okP_iff _ _).2 ⟨by simp only; omega, by simp only; omega, by simp only; omega, by simp only; omega, fun h0 => by simp only at h0; omega⟩
  · obtain ⟨h1, rfl⟩ := tab i u hi
    obtain ⟨j, hj⟩ := List.getElem?_of_mem hp
    obtain ⟨h2, rfl⟩ := pg i j p hj
    exact ⟨by simp only; omega, .inl rfl⟩
  · obtain ⟨h1, rfl⟩ := tab i u hi
    obtain ⟨h1', rfl⟩ := tab i' u' hi'
    obtain ⟨h2, rfl⟩ := pg i j p hp
    obtain ⟨h2', rfl⟩ := pg i' j' p' hp'
    simp only at hf
    rcases Nat.lt_trichotomy i i' with h | h | h
    · have h3 := tot_mono (t := t) (show i + 1 ≤ i' from h)
      rw [tot_succ] at h3
      omega
    · subst h
      exact ⟨rfl, by omega⟩
    · have h3 := tot_mono (t := t) (show i' + 1 ≤ i from h)
      rw [tot_succ] at h3
      omega
end Go.Proofs.Ytonongaakieciaa
