/- The bytes of a partition's frames: all. Which spaces are sound. Sound spaces: what keeps them; what is copied in is copied out (no program). What is copied into a partition's memory is copied out of it (no program). A space that was made here: what its calls keep. Check, place, noughts. The document's calls: fixed. -/
import Derived.Test.YtbmaecdlkchkeaaGreatDoorS8
import Derived.Lib.AppendStr
import Derived.Laws.MakeOwn
namespace Go.Proofs.YtbmaecdlkchkeaaGreatDoor
open Go.RowKit
set_option linter.unusedVariables false
set_option linter.unusedSimpArgs false
set_option maxRecDepth 100000
/-- A sound space: every table leads to frames of the memory, no two to one; what is there may be read. -/
structure SpOk (x : Sp) : Prop where
  n1 : ∀ (i : Nat) (t : List Pg), x.tb[i]? = some t → 1 ≤ t.length
  ok : ∀ (i : Nat) (t : List Pg), x.tb[i]? = some t → okT x.st.n t = true
  pg : ∀ (i : Nat) (t : List Pg), x.tb[i]? = some t → ∀ p ∈ t, 0 ≤ p.f ∧ (p.r = 3 ∨ p.r = 5)
  ap : ∀ (i : Nat) (t : List Pg) (j : Nat) (p : Pg) (i' : Nat) (t' : List Pg) (j' : Nat) (p' : Pg), x.tb[i]? = some t → t[j]? = some p → x.tb[i']? = some t' → t'[j']? = some p' → p.f = p'.f → i = i' ∧ j = j'
/-- The cells of bytes. -/
def cB (l : List UInt8) : List Value := l.map fun c => .int .u8 (c.toNat : Int)
theorem cB_str (s : ByteArray) : Go.Lib.strCells s = cB s.data.toList := by
  unfold Go.Lib.strCells cB
  simp
/-- The bytes of the first frames of a table. -/
def allL (st : St) (t : List Pg) (k : Nat) : List UInt8 := (t.take k).flatMap fun p => frB st p.f.toNat
theorem allL_succ {st : St} {t : List Pg} {k : Nat} {p : Pg} (h : t[k]? = some p) : allL st t (k + 1) = allL st t k ++ frB st p.f.toNat := by
  unfold allL
  rw [List.take_add_one, h, Option.toList_some, List.flatMap_append]
  simp
theorem allL_len (st : St) (t : List Pg) : ∀ k, k ≤ t.length → (allL st t k).length = 256 * k := by
  intro k
  induction k with
  | zero => intro _; rfl
  | succ k ih =>
    intro h
    obtain ⟨p, hp⟩ : ∃ p, t[k]? = some p := ⟨_, List.getElem?_eq_getElem (by omega)⟩
    rw [allL_succ hp, List.length_append, ih (by omega), frB_len]
    omega
def allS (x : Sp) (i : Int) : ByteArray := ⟨(allL x.st (tbOf x i) (tbOf x i).length).toArray⟩
/-- What the loop keeps. -/
structure AlI (w : World) (st : St) (t : List Pg) (k : Nat) (v : Value) (wr : World) : Prop where
  own : wr.ownsRow w.heap.size 5 1 v (256 * k) (cB (allL st t k))
  fr : Fr [] w wr
theorem AlI.push {w w' : World} {st : St} {t : List Pg} {k f : Nat} {v' : Value} {p : Pg} (hp : t[k]? = some p) (hf : p.f.toNat = f) (ho : w'.ownsRow w.heap.size 5 1 v' (256 * k + (frS st f).size) (cB (allL st t k) ++ Go.Lib.strCells (frS st f))) (hfr : Fr [] w w') : AlI w st t (k + 1) v' w' := by
  refine ⟨?_, hfr⟩
  rw [frS_size, cB_str, frS_list] at ho
  rw [allL_succ hp, hf, show 256 * (k + 1) = 256 * k + 256 by omega]
  unfold cB at ho ⊢
  rw [List.map_append]
  exact ho
end Go.Proofs.YtbmaecdlkchkeaaGreatDoor
namespace Go.Proofs.YtbmaecdlkchkeaaGreatDoor
open Go.RowKit
set_option linter.unusedVariables false
set_option linter.unusedSimpArgs false
set_option maxRecDepth 100000
section
variable {x : Sp} (h : SpOk x)
include h
theorem SpOk.apart {i : Nat} {t : List Pg} (hi : x.tb[i]? = some t) : apart t := fun j j' p p' hp hp' hf => (h.ap i t j p i t j' p' hi hp hi hp' hf).2
theorem SpOk.st_ {st' : St} (hn : st'.n = x.st.n) : SpOk ⟨st', x.tb⟩ := ⟨h.n1, fun i t hi => by rw [hn]; exact h.ok i t hi, h.pg, h.ap⟩
/-- A table turns: its frames stay. -/
theorem SpOk.set_ {st' : St} (hn : st'.n = x.st.n) {k : Nat} {t t' : List Pg} (hk : x.tb[k]? = some t) (hl : t'.length = t.length) (hf : ∀ (j : Nat) (p : Pg), t'[j]? = some p → ∃ q, t[j]? = some q ∧ p.f = q.f ∧ (p.r = 3 ∨ p.r = 5)) : SpOk ⟨st', x.tb.set k t'⟩ := by
  have hkl := (List.getElem?_eq_some_iff.1 hk).1
  have old : ∀ (i : Nat) (u : List Pg), (x.tb.set k t')[i]? = some u → ∃ v, x.tb[i]? = some v ∧ u.length = v.length ∧ ∀ (j : Nat) (p : Pg), u[j]? = some p → ∃ q, v[j]? = some q ∧ p.f = q.f ∧ (p.r = 3 ∨ p.r = 5) := fun i u hi => by
    rw [List.getElem?_set] at hi
    by_cases e : k = i
    · subst e
      rw [if_pos rfl, if_pos hkl] at hi
      injection hi with hi
      subst hi
      exact ⟨t, hk, hl, hf⟩
    · rw [if_neg e] at hi
      exact ⟨u, hi, rfl, fun j p hp => ⟨p, hp, rfl, (h.pg i u hi p (List.mem_of_getElem? hp)).2⟩⟩
  refine ⟨fun i u hi => ?_, fun i u hi => ?_, fun i u hi p hp => ?_, fun i u j p i' u' j' p' hi hp hi' hp' hpf => ?_⟩
  · obtain ⟨v, hv, hl, -⟩ := old i u hi
    rw [hl]
    exact h.n1 i v hv
  · obtain ⟨v, hv, hl, ho⟩ := old i u hi
    have hT := h.ok i v hv
    show okT st'.n u = true
    rw [hn]
    unfold okT
    simp only [Bool.and_eq_true, decide_eq_true_eq, List.all_eq_true]
    refine ⟨by rw [hl]; exact okT_len hT, fun p hp => ?_⟩
    obtain ⟨j, hj⟩ := List.getElem?_of_mem hp
    obtain ⟨q, hq, e1, e2⟩ := ho j p hj
    obtain ⟨g1, g2, g3, g4, g5⟩ := okT_at hT hq
    have g6 := (h.pg i v hv q (List.mem_of_getElem? hq)).1
    exact (okP_iff _ _).2 ⟨by omega, by omega, by omega, by omega, fun h0 => by omega⟩
  · obtain ⟨v, hv, hl, ho⟩ := old i u hi
    obtain ⟨j, hj⟩ := List.getElem?_of_mem hp
    obtain ⟨q, hq, e1, e2⟩ := ho j p hj
    exact ⟨by rw [e1]; exact (h.pg i v hv q (List.mem_of_getElem? hq)).1, e2⟩
  · obtain ⟨v, hv, -, ho⟩ := old i u hi
    obtain ⟨v', hv', -, ho'⟩ := old i' u' hi'
    obtain ⟨q, hq, e1, -⟩ := ho j p hp
    obtain ⟨q', hq', e1', -⟩ := ho' j' p' hp'
    exact h.ap i v j q i' v' j' q' hv hq hv' hq' (by rw [← e1, ← e1', hpf])
end
theorem wrS_n (st : St) (t : List Pg) (a : Int) (s : ByteArray) : (wrS st t a s).n = st.n := by
  unfold wrS
  split <;> rfl
theorem SpOk.out {x : Sp} (h : SpOk x) (i a : Int) (s : ByteArray) : SpOk (outS x i a s) := by
  unfold outS
  split
  · exact h
  · exact h.st_ (wrS_n _ _ _ _)
theorem ldO_n (m : St) (f : Int) (t : ByteArray) (i : Nat) : (ldO m f t i).n = m.n := by
  unfold ldO layS clS
  split
  · split
    · show (if _ then _ else _ : St).n = _
      split <;> rfl
    · split <;> rfl
  · split <;> rfl
theorem ldM_n (st : St) (tb : List Pg) (t : ByteArray) : ∀ i, (ldM st tb t i).n = st.n := by
  intro i
  induction i with
  | zero => rfl
  | succ i ih => rw [ldM, ldO_n, ih]
theorem SpOk.ld {x : Sp} (h : SpOk x) (i : Int) (t : ByteArray) : SpOk (ldS x i t) := by
  unfold ldS
  split
  · exact h
  · next hE =>
    have hp : hasP x i = true := by
      cases hp : hasP x i with
      | true => rfl
      | false => exact absurd (show ldE x i t ≠ 0 by unfold ldE; rw [if_pos hp]; decide) hE
    obtain ⟨k, tb, rfl, hk⟩ := hasP_some hp
    obtain ⟨-, hto⟩ := tbOf_some hk
    rw [hto, Int.toNat_natCast]
    refine h.set_ (ldM_n _ _ _ _) hk (ldT_len _ _ _) (fun j p hj => ?_)
    unfold ldT at hj
    rw [List.getElem?_mapIdx] at hj
    cases hq : tb[j]? with
    | none => rw [hq] at hj; cases hj
    | some q =>
      rw [hq, Option.map_some, if_pos (List.getElem?_eq_some_iff.1 hq).1] at hj
      injection hj with hj
      subst hj
      refine ⟨q, rfl, rfl, ?_⟩
      unfold pgL
      simp only
      split
      · exact .inr rfl
      · exact .inl rfl
/-- The new one is sound. -/
theorem SpOk.new {t : List Pg} (h : ptsE t = 0) : SpOk (spNew t) := by
  have hok : (1 ≤ t.length ∧ t.length ≤ 8) ∧ t.all ptOk = true := by
    unfold ptsE at h
    split at h
    · next h' => exact h'
    · omega
  have tab : ∀ (i : Nat) (u : List Pg), (spNew t).tb[i]? = some u → i < t.length ∧ u = rowN t i := fun i u hi => by
    unfold spNew at hi
    simp only at hi
    rw [List.getElem?_map] at hi
    cases hr : (List.range t.length)[i]? with
    | none => rw [hr] at hi; cases hi
    | some k =>
      rw [hr] at hi
      injection hi with hi
      obtain ⟨h1, h2⟩ := List.getElem?_eq_some_iff.1 hr
      simp at h1 h2
      subst h2
      exact ⟨h1, hi.symm⟩
  have pg : ∀ (i j : Nat) (p : Pg), (rowN t i)[j]? = some p → j < rN t i ∧ p = ⟨((tot t i + j : Nat) : Int), 3⟩ := fun i j p hp => by
    unfold rowN at hp
    rw [List.getElem?_map] at hp
    cases hr : (List.range (rN t i))[j]? with
    | none => rw [hr] at hp; cases hp
    | some k =>
      rw [hr] at hp
      injection hp with hp
      obtain ⟨h1, h2⟩ := List.getElem?_eq_some_iff.1 hr
      simp at h1 h2
      subst h2
      exact ⟨h1, hp.symm⟩
  have hr : ∀ j, j < t.length → 1 ≤ rN t j ∧ rN t j ≤ 16 := fun j hj => by
    obtain ⟨q, hq⟩ : ∃ q, t[j]? = some q := ⟨_, List.getElem?_eq_getElem hj⟩
    obtain ⟨g1, g2, g3⟩ := ptOk_all hok.2 hq
    omega
  have hl : ∀ i, (rowN t i).length = rN t i := fun i => by unfold rowN; simp
  refine ⟨fun i u hi => ?_, fun i u hi => ?_, fun i u hi p hp => ?_, fun i u j p i' u' j' p' hi hp hi' hp' hf => ?_⟩
  · obtain ⟨h1, rfl⟩ := tab i u hi
    rw [hl]
    exact (hr i h1).1
  · obtain ⟨h1, rfl⟩ := tab i u hi
    show okT (tot t t.length) _ = true
    unfold okT
    simp only [Bool.and_eq_true, decide_eq_true_eq, List.all_eq_true]
    refine ⟨by rw [hl]; exact (hr i h1).2, fun p hp => ?_⟩
    obtain ⟨j, hj⟩ := List.getElem?_of_mem hp
    obtain ⟨h2, rfl⟩ := pg i j p hj
    have h3 := tot_mono (t := t) (show i + 1 ≤ t.length from h1)
    rw [tot_succ] at h3
    exact (okP_iff _ _).2 ⟨by simp only; omega, by simp only; omega, by simp only; omega, by simp only; omega, fun h0 => by simp only at h0; omega⟩
  · obtain ⟨h1, rfl⟩ := tab i u hi
    obtain ⟨j, hj⟩ := List.getElem?_of_mem hp
    obtain ⟨h2, rfl⟩ := pg i j p hj
    exact ⟨by simp only; omega, .inl rfl⟩
  · obtain ⟨h1, rfl⟩ := tab i u hi
    obtain ⟨h1', rfl⟩ := tab i' u' hi'
    obtain ⟨h2, rfl⟩ := pg i j p hp
    obtain ⟨h2', rfl⟩ := pg i' j' p' hp'
    simp only at hf
    rcases Nat.lt_trichotomy i i' with h | h | h
    · have h3 := tot_mono (t := t) (show i + 1 ≤ i' from h)
      rw [tot_succ] at h3
      omega
    · subst h
      exact ⟨rfl, by omega⟩
    · have h3 := tot_mono (t := t) (show i' + 1 ≤ i from h)
      rw [tot_succ] at h3
      omega
end Go.Proofs.YtbmaecdlkchkeaaGreatDoor
namespace Go.Proofs.YtbmaecdlkchkeaaGreatDoor
open Go.RowKit
set_option linter.unusedVariables false
set_option linter.unusedSimpArgs false
set_option maxRecDepth 100000
theorem allL_at {st : St} {t : List Pg} {q : Nat} (hq : q < 256 * t.length) : (allL st t t.length)[q]? = some (st.b (loc t (q : Int))) := by
  have H : ∀ k, k ≤ t.length → ∀ q, q < 256 * k → (allL st t k)[q]? = some (st.b (loc t (q : Int))) := by
    intro k
    induction k with
    | zero => intro _ q h; omega
    | succ k ih =>
      intro hk q hq
      obtain ⟨p, hp⟩ : ∃ p, t[k]? = some p := ⟨_, List.getElem?_eq_getElem (by omega)⟩
      rw [allL_succ hp, List.getElem?_append]
      have hl := allL_len st t k (by omega)
      by_cases h : q < 256 * k
      · rw [if_pos (by omega)]
        exact ih (by omega) q h
      · rw [if_neg (by omega), hl, frB_at _ _ _ (by omega), loc_at (p := p) (by rw [show q / 256 = k by omega]; exact hp)]
        congr 2
        omega
  exact H _ (Nat.le_refl _) q hq
theorem allS_size {x : Sp} {i : Int} : (allS x i).size = 256 * (tbOf x i).length := by
  have := allL_len x.st (tbOf x i) _ (Nat.le_refl _)
  unfold allS
  simpa [ByteArray.size] using this
theorem ba_ext {a b : ByteArray} (h : ∀ j : Nat, a.data.toList[j]? = b.data.toList[j]?) : a = b := by
  cases a with
  | mk a =>
  cases b with
  | mk b =>
    have : a.toList = b.toList := List.ext_getElem? h
    have h2 : a = b := by rw [← a.toArray_toList, ← b.toArray_toList, this]
    rw [h2]
theorem ext_at (a : ByteArray) (lo hi j : Nat) : (a.extract lo hi).data.toList[j]? = if j < hi - lo then a.data.toList[lo + j]? else none := by
  have e : (a.extract lo hi).data = a.data.extract lo hi := by simp [ByteArray.data_extract]
  rw [e, Array.toList_extract, List.extract_eq_take_drop, List.getElem?_take, List.getElem?_drop]
theorem outE_ok {x : Sp} {i a : Int} {s : ByteArray} (h : outE x i a s = 0) : hasP x i = true ∧ s.size ≤ 255 ∧ okT x.st.n (tbOf x i) = true ∧ (∀ k, k < s.size → ch1 (tbOf x i) 2 (a + (k : Nat)) = 0) ∧ outS x i a s = ⟨⟨x.st.n, wrB (tbOf x i) x.st.b a s.data.toList⟩, x.tb⟩ := by
  have e0 : outE0 x i s = 0 := by
    unfold outE at h
    split at h
    · exact h
    · next h0 => exact Decidable.not_not.1 h0
  have h1 : wrE x.st (tbOf x i) a s = 0 := by
    unfold outE at h
    rw [if_neg (by rw [e0]; simp)] at h
    split at h
    · omega
    · next h0 => exact Decidable.not_not.1 h0
  have hp : hasP x i = true := by
    cases hp : hasP x i with
    | true => rfl
    | false => unfold outE0 at e0; rw [if_pos hp] at e0; omega
  have hs : s.size ≤ 255 := by
    unfold outE0 at e0
    rw [if_neg (by rw [hp]; simp)] at e0
    split at e0 <;> omega
  have hT : okT x.st.n (tbOf x i) = true := by
    cases hT : okT x.st.n (tbOf x i) with
    | true => rfl
    | false => unfold wrE at h1; rw [if_pos hT] at h1; omega
  have ht : thr (tbOf x i) 2 a s.size = 0 := by
    unfold wrE at h1
    rw [if_neg (by rw [hT]; simp), if_neg (by omega)] at h1
    exact h1
  refine ⟨hp, hs, hT, thr_of_zero ht, ?_⟩
  unfold outS
  rw [if_neg (by rw [e0]; simp)]
  unfold wrS
  rw [if_pos h1]
/-- What is refused changes nothing. -/
theorem outS_no {x : Sp} {i a : Int} {s : ByteArray} (h : outE x i a s ≠ 0) : outS x i a s = x := by
  unfold outS
  split
  · rfl
  · next e0 =>
    have e0 := Decidable.not_not.1 e0
    unfold outE at h
    rw [if_neg (by rw [e0]; simp)] at h
    have h1 : wrE x.st (tbOf x i) a s ≠ 0 := by
      intro hz
      rw [hz] at h
      exact h rfl
    unfold wrS
    rw [if_neg h1]
theorem bits_31 : bits .and .i64 3 1 ≠ 0 := by decide
theorem bits_51 : bits .and .i64 5 1 ≠ 0 := by decide
theorem SpOk.ch1 {x : Sp} (h : SpOk x) {i : Nat} {t : List Pg} (hi : x.tb[i]? = some t) {r a : Int} (hc : ch1 t r a = 0) : Go.Proofs.YtbmaecdlkchkeaaGreatDoor.ch1 t 1 a = 0 := by
  obtain ⟨q, p, rfl, hq, hp, f0, -, -⟩ := ch1_in hc
  rw [ch1_at hp, if_neg (by omega)]
  rcases (h.pg i t hi p (List.mem_of_getElem? hp)).2 with hr | hr
  · rw [hr, if_neg bits_31]
  · rw [hr, if_neg bits_51]
/-- What is copied in is copied out. -/
theorem out_in {x : Sp} (h : SpOk x) {i a : Int} {s : ByteArray} (hE : outE x i a s = 0) : inE (outS x i a s) i a s.size = 0 ∧ inV (outS x i a s) i a s.size = s := by
  obtain ⟨hp, hs, hT, hc, hS⟩ := outE_ok hE
  obtain ⟨k, t, rfl, hk⟩ := hasP_some hp
  obtain ⟨-, hto⟩ := tbOf_some hk
  rw [hto] at hT hc hS
  rw [hS]
  obtain ⟨y, hy⟩ : ∃ y : Sp, (⟨⟨x.st.n, wrB t x.st.b a s.data.toList⟩, x.tb⟩ : Sp) = y := ⟨_, rfl⟩
  rw [hy]
  have hyk : y.tb[k]? = some t := by rw [← hy]; exact hk
  obtain ⟨hyp, hyt⟩ := tbOf_some hyk
  have hyn : y.st.n = x.st.n := by rw [← hy]
  have hyb : y.st.b = wrB t x.st.b a s.data.toList := by rw [← hy]
  have hth : thr t 1 a s.size = 0 := thr_zero (fun j hj => h.ch1 hk (hc j hj))
  have hr : rdRM y.st t a s.size 1 = ((List.range s.size).map fun (j : Nat) => y.st.b (loc t (a + (j : Int))), 0) := by
    unfold rdRM
    rw [hyn, if_neg (by rw [hT]; simp), if_neg (by omega), Int.toNat_natCast, hth, if_pos rfl]
  have hl : ((List.range s.size).map fun (j : Nat) => y.st.b (loc t (a + (j : Int)))) = s.data.toList := by
    refine List.ext_getElem? fun j => ?_
    rw [List.getElem?_map]
    by_cases hj : j < s.size
    · obtain ⟨c, hcj⟩ : ∃ c, s.data.toList[j]? = some c := ⟨_, List.getElem?_eq_getElem (by simpa using hj)⟩
      rw [List.getElem?_range hj, hcj, Option.map_some, hyb, wrB_back (h.apart hk) _ _ _ (fun q hq => hc q (by simpa using hq)) j c hcj]
    · rw [List.getElem?_eq_none (by simp; omega), List.getElem?_eq_none (by simpa using Nat.le_of_not_lt hj)]
      rfl
  have hE0 : inE0 y (k : Int) s.size = 0 := by unfold inE0; rw [if_neg (by rw [hyp]; simp), if_neg (by omega)]
  have hE1 : inE y (k : Int) a s.size = 0 := by
    unfold inE
    rw [hE0, hyt, hr]
    rfl
  refine ⟨hE1, ?_⟩
  unfold inV
  rw [if_pos hE1, hyt, hr]
  simp only
  rw [hl]
/-- What turns of the partition's bytes. -/
theorem out_all {x : Sp} (h : SpOk x) {i a : Int} {s : ByteArray} (hE : outE x i a s = 0) :
    (allS (outS x i a s) i).size = (allS x i).size ∧ (s.size = 0 → allS (outS x i a s) i = allS x i) ∧
    (s.size ≠ 0 → ∃ A : Nat, a = (A : Int) ∧ A + s.size ≤ (allS x i).size ∧ (allS (outS x i a s) i).extract 0 A = (allS x i).extract 0 A ∧ (allS (outS x i a s) i).extract (A + s.size) (allS x i).size = (allS x i).extract (A + s.size) (allS x i).size ∧ (allS (outS x i a s) i).extract A (A + s.size) = s) := by
  obtain ⟨hp, hs, hT, hc, hS⟩ := outE_ok hE
  obtain ⟨k, t, rfl, hk⟩ := hasP_some hp
  obtain ⟨-, hto⟩ := tbOf_some hk
  rw [hto] at hT hc hS
  rw [hS]
  have e2 : tbOf (⟨⟨x.st.n, wrB t x.st.b a s.data.toList⟩, x.tb⟩ : Sp) (k : Int) = t := (tbOf_some (x := ⟨⟨x.st.n, wrB t x.st.b a s.data.toList⟩, x.tb⟩) hk).2
  have z1 : (allS x (k : Int)).size = 256 * t.length := by rw [allS_size, hto]
  have z2 : (allS (⟨⟨x.st.n, wrB t x.st.b a s.data.toList⟩, x.tb⟩ : Sp) (k : Int)).size = 256 * t.length := by rw [allS_size, e2]
  have g1 : ∀ q, q < 256 * t.length → (allS x (k : Int)).data.toList[q]? = some (x.st.b (loc t (q : Int))) := fun q hq => by
    unfold allS
    rw [hto]
    exact allL_at hq
  have g2 : ∀ q, q < 256 * t.length → (allS (⟨⟨x.st.n, wrB t x.st.b a s.data.toList⟩, x.tb⟩ : Sp) (k : Int)).data.toList[q]? = some (wrB t x.st.b a s.data.toList (loc t (q : Int))) := fun q hq => by
    unfold allS
    rw [e2]
    exact allL_at hq
  have sd : s.data.toList.length = s.size := rfl
  refine ⟨by rw [z1, z2], fun h0 => ?_, fun h0 => ?_⟩
  · have : s.data.toList = [] := List.eq_nil_of_length_eq_zero (by omega)
    rw [this]
    unfold allS
    rw [hto, show tbOf (⟨⟨x.st.n, wrB t x.st.b a []⟩, x.tb⟩ : Sp) (k : Int) = t from (tbOf_some (x := ⟨⟨x.st.n, wrB t x.st.b a []⟩, x.tb⟩) hk).2]
    rfl
  · obtain ⟨A, p, hA, hq, hpq, -, -, -⟩ := ch1_in (hc 0 (by omega))
    have ha : a = (A : Int) := by omega
    subst ha
    obtain ⟨B, pB, hB, hqB, -, -, -, -⟩ := ch1_in (hc (s.size - 1) (by omega))
    have hle : A + s.size ≤ 256 * t.length := by omega
    have cq : ∀ q, q < 256 * t.length → Go.Proofs.YtbmaecdlkchkeaaGreatDoor.ch1 t 1 (q : Int) = 0 := fun q hq => by
      obtain ⟨p, hp⟩ : ∃ p, t[q / 256]? = some p := ⟨_, List.getElem?_eq_getElem (by omega)⟩
      have hm := h.pg k t hk p (List.mem_of_getElem? hp)
      rw [ch1_at hp, if_neg (by omega)]
      rcases hm.2 with hr | hr
      · rw [hr, if_neg bits_31]
      · rw [hr, if_neg bits_51]
    have far : ∀ q, q < 256 * t.length → (q < A ∨ A + s.size ≤ q) → wrB t x.st.b (A : Int) s.data.toList (loc t (q : Int)) = x.st.b (loc t (q : Int)) := fun q hq hf => wrB_out _ _ _ (fun j hj e => by
      have := loc_inj (h.apart hk) (hc j (by omega)) (cq q hq) e
      omega)
    refine ⟨A, rfl, by omega, ba_ext fun j => ?_, ba_ext fun j => ?_, ba_ext fun j => ?_⟩
    · rw [ext_at, ext_at]
      by_cases hj : j < A - 0
      · rw [if_pos hj, if_pos hj, g1 _ (by omega), g2 _ (by omega), far _ (by omega) (by omega)]
      · rw [if_neg hj, if_neg hj]
    · rw [ext_at, ext_at]
      by_cases hj : j < (allS x (k : Int)).size - (A + s.size)
      · rw [if_pos hj, if_pos hj, g1 _ (by omega), g2 _ (by omega), far _ (by omega) (by omega)]
      · rw [if_neg hj, if_neg hj]
    · rw [ext_at]
      by_cases hj : j < A + s.size - A
      · obtain ⟨c, hcj⟩ : ∃ c, s.data.toList[j]? = some c := ⟨_, List.getElem?_eq_getElem (by omega)⟩
        rw [if_pos hj, g2 _ (by omega), hcj, show ((A + j : Nat) : Int) = (A : Int) + (j : Nat) from by omega, wrB_back (h.apart hk) _ _ _ (fun q hq => hc q (by omega)) j c hcj]
      · rw [if_neg hj, List.getElem?_eq_none (by omega)]
end Go.Proofs.YtbmaecdlkchkeaaGreatDoor
namespace Go.Proofs.YtbmaecdlkchkeaaGreatDoor
open Go.RowKit
set_option linter.unusedVariables false
set_option linter.unusedSimpArgs false
set_option maxRecDepth 100000
/-- A sound space that was made since w0. -/
structure Sd (w0 w : World) (s p F g : Nat) (x : Sp) : Prop where
  at_ : SpAt w s p F g x
  ok : SpOk x
  fr : Fr [] w0 w
  gF : w0.heap.size ≤ F
  gg : w0.heap.size ≤ g
section
variable {w0 w w' : World} {s p F g : Nat} {x : Sp}
theorem Sd.to (h : Sd w0 w s p F g x) (hf : Fr [] w w') : Sd w0 w' s p F g x := ⟨h.at_.to hf, h.ok, h.fr.trans hf, h.gF, h.gg⟩
theorem Sd.turn {x' : Sp} (h : Sd w0 w s p F g x) (ht : SpT s p F g w x' w') (hok : SpOk x') : Sd w0 w' s p F g x' :=
  ⟨ht.1, hok, h.fr.step ht.2 (fun k hk => by
    simp at hk
    rcases hk with rfl | rfl
    · exact .inr h.gF
    · exact .inr h.gg), h.gF, h.gg⟩
theorem Sd.load (h : Sd w0 w s p F g x) (i : Int) (t : ByteArray) : Calls Tryz.prog 8 #[ptr s, .int .i64 i, .string t] w fun e w' => e = .returned (.int .i64 (ldE x i t)) ∧ Sd w0 w' s p F g (ldS x i t) :=
  (SLoad_any s p F g x i t w h.at_ h.ok.n1).mono fun e w' ⟨he, ht⟩ => ⟨he, h.turn ht (h.ok.ld i t)⟩
theorem Sd.in_ (h : Sd w0 w s p F g x) (i a n : Int) (ha : a ≤ 9223372036854775807) : Calls Tryz.prog 17 #[ptr s, .int .i64 i, .int .i64 a, .int .i64 n] w fun e w' => e = .returned (.tuple #[.string (inV x i a n), .int .i64 (inE x i a n)]) ∧ Sd w0 w' s p F g x :=
  (In_any s p F g x i a n w h.at_ ha).mono fun e w' ⟨he, hf⟩ => ⟨he, h.to hf⟩
theorem Sd.mem (h : Sd w0 w s p F g x) : Calls Tryz.prog 12 #[ptr s] w fun e w' => e = .returned (ptr p) ∧ w = w' := Memory_any s p F g x w h.at_
theorem Sd.table (h : Sd w0 w s p F g x) {i : Int} (hi : hasP x i = true) : Calls Tryz.prog 13 #[ptr s, .int .i64 i] w fun e w' => ∃ b, e = .returned (.slice (some ⟨b, 0, none⟩) (tbOf x i).length (tbOf x i).length) ∧ PB w' b (tbOf x i) ∧ w.heap.size ≤ b ∧ Fr [] w w' ∧ Sd w0 w' s p F g x :=
  (Table_any s p F g x i w h.at_ h.ok.n1).mono fun e w' hT => by
    rcases hT with ⟨h0, -⟩ | ⟨-, b, he, hB, hf, hb⟩
    · exact absurd (h0.symm.trans hi) (by decide)
    · exact ⟨b, he, hB, hb, hf, h.to hf⟩
end
theorem Sd.new (b m cap : Nat) (A : Option Addr) (t : List Pg) (w0 w : World) (ht : Tb w b (.slice A m cap) t) (hE : ptsE t = 0) (hf : Fr [] w0 w) : Calls Tryz.prog 7 #[.slice A m cap] w fun e w' => ∃ s p F g, e = .returned (.tuple #[ptr s, .int .i64 0]) ∧ Sd w0 w' s p F g (spNew t) ∧ Fr [] w w' :=
  (SNew_ok b m cap A t w ht hE).mono fun e w' ⟨s, p, F, g, he, hS, hf', h1, h2, h3, h4⟩ => ⟨s, p, F, g, he, ⟨hS, SpOk.new hE, hf.trans hf', Nat.le_trans hf.size h3, Nat.le_trans hf.size h4⟩, hf'⟩
theorem place_any (x : Int) (m : Nat) (hm : 0 < m) (hm2 : m ≤ 1000000) (hx0 : -9223372036854775808 ≤ x) (hx1 : x ≤ 9223372036854775807) (w : World) :
    Calls Tryz.prog 6 #[.int .i64 x, .int .i64 (m : Int)] w fun e w' => e = .returned (.int .i64 (x % (m : Int))) ∧ w = w' := by
  have hm0 : ¬ (m : Int) = 0 := by omega
  have hb := Int.emod_nonneg x hm0
  have hb2 := Int.emod_lt_of_pos x (show (0 : Int) < m by omega)
  have ht : x.tmod m = if 0 ≤ x ∨ (m : Int) ∣ x then x % m else x % m - m := by
    rw [Int.tmod_eq_emod]
    by_cases h : 0 ≤ x ∨ (m : Int) ∣ x
    · rw [if_pos h, if_pos h]; omega
    · rw [if_neg h, if_neg h]
      simp
  obtain ⟨r, hr⟩ : ∃ r, x % (m : Int) = r := ⟨_, rfl⟩
  rw [hr] at hb hb2 ht ⊢
  by_cases h : 0 ≤ x ∨ (m : Int) ∣ x
  · rw [if_pos h] at ht
    have hn : ¬ r < 0 := by omega
    clear h hr
    go_enter Tryz.func6, Tryz.ntmps6
    go_wp2
    go_ret
    exact ⟨rfl, rfl⟩
  · rw [if_neg h] at ht
    have hnz : r ≠ 0 := by
      intro e
      apply h
      right
      exact Int.dvd_of_emod_eq_zero (by rw [hr, e])
    have hn : r - (m : Int) < 0 := by omega
    have hw : IntKind.i64.wrap (r - (m : Int) + (m : Int)) = r := by
      rw [show r - (m : Int) + (m : Int) = r from by omega]
      exact IntWalk.i64_in _ (by omega)
    clear h hr
    go_enter Tryz.func6, Tryz.ntmps6
    go_wp2
    go_ret
    exact ⟨rfl, rfl⟩
theorem place_nat (x : Int) (m : Nat) (hm : 0 < m) : ∃ f : Nat, x % (m : Int) = (f : Int) ∧ f < m := by
  have h1 := Int.emod_nonneg x (show (m : Int) ≠ 0 by omega)
  have h2 := Int.emod_lt_of_pos x (show (0 : Int) < m by omega)
  exact ⟨(x % (m : Int)).toNat, by omega, by omega⟩
def zeros (n : Nat) : ByteArray := ⟨(List.replicate n 0).toArray⟩
theorem made_z (n : Nat) (hn : n ≤ 524288) : ∃ Z : Array Value, (∀ j, j < n → Z[j]? = some (.int .u8 0)) ∧ ∀ w : World, (Instr.makeSlice 64 (.int .i64 n) (.int .i64 n)).run Tryz.prog w = .ok (.slice (some ⟨w.heap.size, 0, none⟩) n n) (w.alloc (.cells Z 5)) := by
  obtain ⟨i0, hi0, hz0, hz1, hz2⟩ := info3 Tryz.info5
  refine ⟨madeCells (Value.int .u8 0).cells (n * i0.size), fun j hj => ?_, fun w => ?_⟩
  · rw [hz1]
    have h3 : (Value.int .u8 0).cells = #[.int .u8 0] := rfl
    rw [h3]
    simp [madeCells, hj, Nat.mod_one]
  · have := run_make (P := Tryz.prog) w 64 5 i0 _ Tryz.underlying64 hi0 hz0 .i64 .i64 n n (by omega) (by omega) (by rw [hz2]; omega) (by omega)
    simpa using this
theorem ptsE_bool (t : List Pg) : (decide (ptsE t = 0)) = (t.all ptOk && (decide (1 ≤ t.length) && decide (t.length ≤ 8))) := by
  unfold ptsE
  cases ha : t.all ptOk <;> by_cases h1 : 1 ≤ t.length <;> by_cases h8 : t.length ≤ 8 <;> simp [h1, h8]
end Go.Proofs.YtbmaecdlkchkeaaGreatDoor
namespace Go.Proofs.YtbmaecdlkchkeaaGreatDoor
open Go.RowKit
set_option linter.unusedVariables false
set_option linter.unusedSimpArgs false
set_option maxRecDepth 100000
def ptF : List Pg := [⟨0, 2⟩, ⟨0, 1⟩]
def s4F : ByteArray := ⟨#[97, 98, 99, 100]⟩
def s2F : ByteArray := ⟨#[97, 98]⟩
def s1F : ByteArray := ⟨#[120]⟩
def xA : Sp := spNew ptF
def xB : Sp := ldS xA 0 s4F
def xC : Sp := ldS xB 1 (zeros 257)
def xD : Sp := outS xC 0 256 s2F
def xE : Sp := outS xD 0 255 s1F
theorem g0 : ptsE ptF = 0 := by kernel_rfl
theorem g1 : ldE xA 0 s4F = 0 := by kernel_rfl
theorem g2 : ldE xB 1 (zeros 257) = 122 := by kernel_rfl
theorem g3 : outE xC 0 256 s2F = 0 := by kernel_rfl
theorem g4 : outE xD 0 255 s1F = 121 := by kernel_rfl
theorem g5 : inE xE 0 255 3 = 0 := by kernel_rfl
theorem g5' : inV xE 0 255 3 = ⟨#[0, 97, 98]⟩ := by kernel_rfl
theorem g6 : inE xE 0 511 2 = 121 := by kernel_rfl
theorem g7 : inE xE 2 0 0 = 120 := by kernel_rfl
theorem g8 : hasP xE 0 = true := by kernel_rfl
theorem g9 : hasP xE 1 = true := by kernel_rfl
theorem g10 : tbOf xE 0 = [⟨0, 5⟩, ⟨1, 3⟩] := by kernel_rfl
theorem g11 : tbOf xE 1 = [⟨2, 3⟩] := by kernel_rfl
/-- Which of the steps has been made. -/
structure Sf (w0 w : World) (s p F g : Nat) (x : Sp) (k : Nat) : Prop where
  d : Sd w0 w s p F g x
theorem Sf.to {w0 w w' : World} {s p F g : Nat} {x : Sp} {k : Nat} (h : Sf w0 w s p F g x k) (hf : Fr [] w w') : Sf w0 w' s p F g x k := ⟨h.d.to hf⟩
theorem parts_at (w : World) : Tb (w.alloc (.cells #[.int .i64 0, .int .i64 2, .int .i64 0, .int .i64 1] 31)) w.heap.size (.slice (some ⟨w.heap.size, 0, none⟩) 2 2) ptF := by
  have hb := Blk.new w 31 #[.int .i64 0, .int .i64 2, .int .i64 0, .int .i64 1]
  refine ⟨by simp only [maxLen]; decide, _, 2, rfl, fun i p hi => ?_⟩
  refine ⟨0, rfl, by simp, ?_⟩
  rw [hb.cell, hb.cell]
  match i, hi with
  | 0, hi => cases hi; exact ⟨rfl, rfl⟩
  | 1, hi => cases hi; exact ⟨rfl, rfl⟩
  | i + 2, hi => cases hi
end Go.Proofs.YtbmaecdlkchkeaaGreatDoor
