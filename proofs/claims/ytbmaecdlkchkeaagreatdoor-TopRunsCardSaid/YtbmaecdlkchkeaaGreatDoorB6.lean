/- What a write has done, in plain words. Memories in plain words: what lies where behind a Lay; what a write may turn (no program). -/
import Derived.Test.YtbmaecdlkchkeaaGreatDoorW13
import Derived.Laws.IdiomStrings
namespace Go.Proofs.YtbmaecdlkchkeaaGreatDoor
open Go.RowKit
set_option linter.unusedVariables false
set_option linter.unusedSimpArgs false
/-- Block g is bytes: the first n of them are those of l; it may be written there. -/
theorem wr_right {r : Int} (h0 : 0 ≤ r) (h7 : r ≤ 7) (h : bits .and .i64 r 2 ≠ 0) : ¬ r / 2 % 2 = 0 := by
  have hc : r = 0 ∨ r = 1 ∨ r = 2 ∨ r = 3 ∨ r = 4 ∨ r = 5 ∨ r = 6 ∨ r = 7 := by omega
  rcases hc with rfl | rfl | rfl | rfl | rfl | rfl | rfl | rfl
  · exact absurd (by kernel_rfl) h
  · exact absurd (by kernel_rfl) h
  · decide
  · decide
  · exact absurd (by kernel_rfl) h
  · exact absurd (by kernel_rfl) h
  · decide
  · decide
/-- What a byte that may be written tells of its address. -/
theorem ch1_wr {n : Nat} {t : List Pg} (hT : okT n t = true) {a : Int} (h : ch1 t 2 a = 0) : ∃ (q : Nat) (p : Pg), a = (q : Int) ∧ q < t.length * 256 ∧ t[q / 256]? = some p ∧ 0 ≤ p.f ∧ p.f < n ∧ 0 ≤ p.r ∧ p.r ≤ 7 ∧ ¬ p.r / 2 % 2 = 0 ∧ loc t a = p.f.toNat * 256 + q % 256 := by
  by_cases h0 : a < 0
  · rw [ch1_neg h0] at h; omega
  · obtain ⟨q, rfl⟩ := Int.eq_ofNat_of_zero_le (by omega : 0 ≤ a)
    by_cases hl : t.length * 256 ≤ q
    · rw [ch1_far hl] at h; omega
    · obtain ⟨p, hp⟩ : ∃ p, t[q / 256]? = some p := ⟨_, List.getElem?_eq_getElem (by omega)⟩
      have h2 := okT_at hT hp
      rw [ch1_at hp] at h
      by_cases hf : p.f < 0
      · rw [if_pos hf] at h; omega
      · rw [if_neg hf] at h
        by_cases hr : bits .and .i64 p.r 2 = 0
        · rw [if_pos hr] at h; omega
        · exact ⟨q, p, rfl, by omega, hp, by omega, h2.2.1, h2.2.2.1, h2.2.2.2.1, wr_right h2.2.2.1 h2.2.2.2.1 hr, loc_at hp⟩
/-- Of a write that is not refused. -/
theorem wr_done {st : St} {t : List Pg} {a : Int} {s : ByteArray} (h : wrE st t a s = 0) : okT st.n t = true ∧ s.size ≤ 4096 ∧ (∀ i, i < s.size → ch1 t 2 (a + (i : Nat)) = 0) ∧ wrS st t a s = ⟨st.n, wrB t st.b a s.data.toList⟩ := by
  have h0 := h
  unfold wrE at h
  cases hT : okT st.n t with
  | false => rw [if_pos hT] at h; omega
  | true =>
    rw [if_neg (by rw [hT]; simp)] at h
    by_cases hs : 4096 < s.size
    · rw [if_pos hs] at h; omega
    · rw [if_neg hs] at h
      refine ⟨rfl, by omega, thr_of_zero h, ?_⟩
      unfold wrS
      rw [if_pos h0]
theorem wrB_take {t : List Pg} {b : Nat → UInt8} {a : Int} {s : ByteArray} {i : Nat} (hi : i < s.size) : wrB t b a (s.data.toList.take (i + 1)) = upd (wrB t b a (s.data.toList.take i)) (loc t (a + (i : Int))) (s.data[i]'hi) := by
  have hl : i < s.data.toList.length := by simpa using hi
  rw [List.take_succ_eq_append_getElem hl, wrB_snoc, List.length_take, Nat.min_eq_left (by omega)]
  rfl
theorem MemAt.noTxt {w : World} {p F : Nat} {st : St} (h : MemAt w p F st) : ∀ cs, ¬ Blk w F 9 cs := by
  obtain ⟨hd, cs, hb, hc⟩ := h
  intro cs' hb'
  exact absurd (hb.eq hb').1 (by decide)
end Go.Proofs.YtbmaecdlkchkeaaGreatDoor
namespace Go.Proofs.YtbmaecdlkchkeaaGreatDoor
open Go.RowKit
set_option linter.unusedVariables false
set_option linter.unusedSimpArgs false
set_option maxRecDepth 100000
def layS (st : St) (f a : Int) (s : ByteArray) : St := if layE st.n f a s = 0 then ⟨st.n, putL st.b (f.toNat * 256 + a.toNat) s.data.toList⟩ else st
def clS (st : St) (f : Int) : St := if clE st.n f = 0 then ⟨st.n, putL st.b (f.toNat * 256) zs256⟩ else st
theorem ch1_in {t : List Pg} {r a : Int} (h : ch1 t r a = 0) : ∃ (q : Nat) (p : Pg), a = (q : Int) ∧ q < t.length * 256 ∧ t[q / 256]? = some p ∧ 0 ≤ p.f ∧ bits .and .i64 p.r r ≠ 0 ∧ loc t a = p.f.toNat * 256 + q % 256 := by
  by_cases h0 : a < 0
  · rw [ch1_neg h0] at h; omega
  · obtain ⟨q, rfl⟩ := Int.eq_ofNat_of_zero_le (by omega : 0 ≤ a)
    by_cases hl : t.length * 256 ≤ q
    · rw [ch1_far hl] at h; omega
    · obtain ⟨p, hp⟩ : ∃ p, t[q / 256]? = some p := ⟨_, List.getElem?_eq_getElem (by omega)⟩
      rw [ch1_at hp] at h
      by_cases hf : p.f < 0
      · rw [if_pos hf] at h; omega
      · rw [if_neg hf] at h
        by_cases hb : bits .and .i64 p.r r = 0
        · rw [if_pos hb] at h; omega
        · exact ⟨q, p, rfl, by omega, hp, by omega, hb, loc_at hp⟩
/-- No two pages of a table lie on one frame. -/
def apart (t : List Pg) : Prop := ∀ (i j : Nat) (p q : Pg), t[i]? = some p → t[j]? = some q → p.f = q.f → i = j
theorem loc_inj {t : List Pg} (ha : apart t) {r r' a a' : Int} (h : ch1 t r a = 0) (h' : ch1 t r' a' = 0) (hl : loc t a = loc t a') : a = a' := by
  obtain ⟨q, p, rfl, hq, hp, f0, -, e⟩ := ch1_in h
  obtain ⟨q', p', rfl, hq', hp', f0', -, e'⟩ := ch1_in h'
  rw [e, e'] at hl
  have h1 : p.f = p'.f := by omega
  have h2 : q % 256 = q' % 256 := by omega
  have h3 := ha _ _ _ _ hp hp' h1
  omega
theorem wrB_out {t : List Pg} {k : Nat} : ∀ (s : List UInt8) (b : Nat → UInt8) (a : Int), (∀ j, j < s.length → loc t (a + (j : Nat)) ≠ k) → wrB t b a s k = b k := by
  intro s
  induction s with
  | nil => intro b a _; rfl
  | cons c s ih =>
    intro b a h
    rw [wrB, ih _ _ (fun j hj => by
      have := h (j + 1) (by simp; omega)
      rwa [show a + ((j + 1 : Nat) : Int) = a + 1 + (j : Nat) from by omega] at this)]
    have := h 0 (by simp)
    exact upd_ne (fun e => this (by simpa using e.symm))
theorem wrB_back {t : List Pg} (ha : apart t) : ∀ (s : List UInt8) (b : Nat → UInt8) (a : Int), (∀ i, i < s.length → ch1 t 2 (a + (i : Nat)) = 0) → ∀ (i : Nat) (c : UInt8), s[i]? = some c → wrB t b a s (loc t (a + (i : Nat))) = c := by
  intro s
  induction s with
  | nil => intro b a _ i c h; simp at h
  | cons d s ih =>
    intro b a h i c hi
    rw [wrB]
    cases i with
    | zero =>
      simp at hi
      subst hi
      rw [wrB_out _ _ _ (fun j hj e => ?_)]
      · have : a + ((0 : Nat) : Int) = a := by omega
        rw [this, upd_same]
      · have h1 := h (j + 1) (by simp; omega)
        have h0 := h 0 (by simp)
        rw [show a + ((j + 1 : Nat) : Int) = a + 1 + (j : Nat) from by omega] at h1
        have := loc_inj ha h1 h0 e
        omega
    | succ i =>
      simp at hi
      have := ih (upd b (loc t a) d) (a + 1) (fun j hj => by
        have := h (j + 1) (by simp; omega)
        rwa [show a + ((j + 1 : Nat) : Int) = a + 1 + (j : Nat) from by omega] at this) i c hi
      rwa [show a + ((i + 1 : Nat) : Int) = a + 1 + (i : Nat) from by omega]
/-- The byte of a text at a place; nought behind it. -/
def byA (t : ByteArray) (q : Nat) : UInt8 := (t.data.toList[q]?).getD 0
theorem byA_in {t : ByteArray} {q : Nat} {c : UInt8} (h : t.data.toList[q]? = some c) : byA t q = c := by unfold byA; rw [h]; rfl
theorem byA_out {t : ByteArray} {q : Nat} (h : t.size ≤ q) : byA t q = 0 := by
  have : t.data.toList.length = t.size := rfl
  unfold byA
  rw [List.getElem?_eq_none (by omega)]
  rfl
theorem zs_at {o : Nat} (h : o < 256) : zs256[o]? = some 0 := by
  unfold zs256
  rw [List.getElem?_replicate, if_pos h]
theorem clS_at {m : St} {f : Int} (hf : 0 ≤ f ∧ f < m.n) {o : Nat} (ho : o < 256) : (clS m f).b (f.toNat * 256 + o) = 0 := by
  have e : clE m.n f = 0 := if_neg (by omega)
  unfold clS
  rw [if_pos e]
  exact putL_in _ _ _ _ _ (zs_at ho)
theorem clS_far {m : St} {f : Int} {k : Nat} (h : k < f.toNat * 256 ∨ f.toNat * 256 + 256 ≤ k) : (clS m f).b k = m.b k := by
  unfold clS
  split
  · exact putL_out _ _ _ _ (by rw [zs256_len]; exact h)
  · rfl
theorem layS_far {m : St} {f : Int} {s : ByteArray} {k : Nat} (h : k < f.toNat * 256 ∨ f.toNat * 256 + 256 ≤ k) : (layS m f 0 s).b k = m.b k := by
  unfold layS
  split
  · next e =>
    have hs : s.size ≤ 256 := by
      unfold layE at e
      split at e
      · omega
      · split at e
        · omega
        · omega
    have : s.data.toList.length = s.size := rfl
    exact putL_out _ _ _ _ (by simp only [Int.toNat_zero]; omega)
  · rfl
theorem layS_at {m : St} {f : Int} (hf : 0 ≤ f ∧ f < m.n) {s : ByteArray} (hs : s.size ≤ 256) {o : Nat} (ho : o < 256) : (layS m f 0 s).b (f.toNat * 256 + o) = if o < s.size then byA s o else m.b (f.toNat * 256 + o) := by
  have e : layE m.n f 0 s = 0 := by
    unfold layE
    rw [if_neg (by omega), if_neg (by omega)]
  have hl : s.data.toList.length = s.size := rfl
  unfold layS
  rw [if_pos e]
  simp only [Int.toNat_zero, Nat.add_zero]
  split
  · next h =>
    obtain ⟨c, hc⟩ : ∃ c, s.data.toList[o]? = some c := ⟨_, List.getElem?_eq_getElem (by omega)⟩
    rw [putL_in _ _ _ _ _ hc, byA_in hc]
  · next h => exact putL_out _ _ _ _ (by omega)
/-- Only bytes that a table lets be written have turned. -/
structure Wr (t : List Pg) (st st' : St) : Prop where
  n : st'.n = st.n
  b : ∀ k, st'.b k ≠ st.b k → ∃ q : Nat, q < t.length * 256 ∧ loc t (q : Int) = k ∧ ch1 t 2 (q : Int) = 0
theorem Wr.refl (t : List Pg) (st : St) : Wr t st st := ⟨rfl, fun k h => absurd rfl h⟩
theorem Wr.trans {t : List Pg} {st st' st'' : St} (h : Wr t st st') (h' : Wr t st' st'') : Wr t st st'' :=
  ⟨h'.n.trans h.n, fun k hk => by
    by_cases e : st''.b k = st'.b k
    · exact h.b k (fun e' => hk (e.trans e'))
    · exact h'.b k e⟩
theorem Wr.wrS (st : St) (t : List Pg) (a : Int) (s : ByteArray) : Wr t st (wrS st t a s) := by
  by_cases h : wrE st t a s = 0
  · obtain ⟨hT, hs, hc, -⟩ := wr_done h
    have e : Go.Proofs.YtbmaecdlkchkeaaGreatDoor.wrS st t a s = ⟨st.n, wrB t st.b a s.data.toList⟩ := by unfold Go.Proofs.YtbmaecdlkchkeaaGreatDoor.wrS; rw [if_pos h]
    rw [e]
    refine ⟨rfl, fun k hk => ?_⟩
    apply Classical.byContradiction
    intro hno
    apply hk
    refine wrB_out _ _ _ (fun j hj hl => hno ?_)
    have hj' : j < s.size := hj
    obtain ⟨q, p, hq, hq2, -⟩ := ch1_in (hc j hj')
    exact ⟨q, hq2, by rw [← hq]; exact hl, by rw [← hq]; exact hc j hj'⟩
  · have e : Go.Proofs.YtbmaecdlkchkeaaGreatDoor.wrS st t a s = st := by unfold Go.Proofs.YtbmaecdlkchkeaaGreatDoor.wrS; rw [if_neg h]
    rw [e]
    exact Wr.refl t st
theorem Wr.stS (st : St) (t : List Pg) (a k n : Int) : Wr t st (stS st t a k n) := by
  unfold Go.Proofs.YtbmaecdlkchkeaaGreatDoor.stS
  split
  · exact Wr.refl t st
  · split
    · exact Wr.refl t st
    · exact Wr.wrS ..
theorem wf_i64 {x : Int} (h : (Lit.int .i64 x).wf = true) : -9223372036854775808 ≤ x ∧ x ≤ 9223372036854775807 := by
  simp [Lit.wf, IntKind.min, IntKind.max, IntKind.signed, IntKind.bits] at h
  omega
end Go.Proofs.YtbmaecdlkchkeaaGreatDoor
