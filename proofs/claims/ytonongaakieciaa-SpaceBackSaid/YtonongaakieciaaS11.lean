/- What is copied into a partition's memory is copied out of it (no program). -/
import Derived.Test.YtonongaakieciaaS10
namespace Go.Proofs.Ytonongaakieciaa
open Go.RowKit
set_option linter.unusedVariables false
set_option linter.unusedSimpArgs false
set_option maxRecDepth 100000
theorem allL_at {st : St} {t : List Pg} {q : Nat} (hq : q < 256 * t.length) : (allL st t t.length)[q]? = some (st.b (loc t (q : Int))) := by
  have H : ∀ k, k ≤ t.length → ∀ q, q < 256 * k → (allL st t k)[q]? = some (st.b (loc t (q : Int))) := by
    intro k
    induction k with
    | zero => intro _ q h; omega
    | succ k ih =>
      intro hk q hq
      obtain ⟨p, hp⟩ : ∃ p, t[k]? = some p := ⟨_, List.getElem?_eq_getElem (by omega)⟩
      rw [allL_succ hp, List.getElem?_append]
      have hl := allL_len st t k (by omega)
      by_cases h : q < 256 * k
      · rw [if_pos (by omega)]
        exact ih (by omega) q h
      · rw [if_neg (by omega), hl, frB_at _ _ _ (by omega), loc_at (p := p) (by rw [show q / 256 = k by omega]; exact hp)]
        congr 2
        omega
  exact H _ (Nat.le_refl _) q hq
theorem allS_size {x : Sp} {i : Int} : (allS x i).size = 256 * (tbOf x i).length := by
  have := allL_len x.st (tbOf x i) _ (Nat.le_refl _)
  unfold allS
  simpa [ByteArray.size] using this
theorem ba_ext {a b : ByteArray} (h : ∀ j : Nat, a.data.toList[j]? = b.data.toList[j]?) : a = b := by
  cases a with
  | mk a =>
  cases b with
  | mk b =>
    have : a.toList = b.toList := List.ext_getElem? h
    have h2 : a = b := by rw [← a.toArray_toList, ← b.toArray_toList, this]
    rw [h2]
theorem ext_at (a : ByteArray) (lo hi j : Nat) : (a.extract lo hi).data.toList[j]? = if j < hi - lo then a.data.toList[lo + j]? else none := by
  have e : (a.extract lo hi).data = a.data.extract lo hi := by simp [ByteArray.data_extract]
  rw [e, Array.toList_extract, List.extract_eq_take_drop, List.getElem?_take, List.getElem?_drop]
theorem outE_ok {x : Sp} {i a : Int} {s : ByteArray} (h : outE x i a s = 0) : hasP x i = true ∧ s.size ≤ 255 ∧ okT x.st.n (tbOf x i) = true ∧ (∀ k, k < s.size → ch1 (tbOf x i) 2 (a + (k : Nat)) = 0) ∧ outS x i a s = ⟨⟨x.st.n, wrB (tbOf x i) x.st.b a s.data.toList⟩, x.tb⟩ := by
  have e0 : outE0 x i s = 0 := by
    unfold outE at h
    split at h
    · exact h
    · next h0 => exact Decidable.not_not.1 h0
  have h1 : wrE x.st (tbOf x i) a s = 0 := by
    unfold outE at h
    rw [if_neg (by rw [e0]; simp)] at h
    split at h
    · omega
    · next h0 => exact Decidable.not_not.1 h0
  have hp : hasP x i = true := by
    cases hp : hasP x i with
    | true => rfl
    | false => unfold outE0 at e0; rw [if_pos hp] at e0; omega
  have hs : s.size ≤ 255 := by
    unfold outE0 at e0
    rw [if_neg (by rw [hp]; simp)] at e0
    split at e0 <;> omega
  have hT : okT x.st.n (tbOf x i) = true := by
    cases hT : okT x.st.n (tbOf x i) with
    | true => rfl
    | false => unfold wrE at h1; rw [if_pos hT] at h1; omega
  have ht : thr (tbOf x i) 2 a s.size = 0 := by
    unfold wrE at h1
    rw [if_neg (by rw [hT]; simp), if_neg (by omega)] at h1
    exact h1
  refine ⟨hp, hs, hT, thr_of_zero ht, ?_⟩
  unfold outS
  rw [if_neg (by rw [e0]; simp)]
  unfold wrS
  rw [if_pos h1]
/-- What is refused changes nothing. -/
theorem outS_no {x : Sp} {i a : Int} {s : ByteArray} (h : outE x i a s ≠ 0) : outS x i a s = x := by
  unfold outS
  split
  · rfl
  · next e0 =>
    have e0 := Decidable.not_not.1 e0
    unfold outE at h
    rw [if_neg (by rw [e0]; simp)] at h
    have h1 : wrE x.st (tbOf x i) a s ≠ 0 := by
      intro hz
      rw [hz] at h
      exact h rfl
    unfold wrS
    rw [if_neg h1]
theorem bits_31 : bits .and .i64 3 1 ≠ 0 := by decide
theorem bits_51 : bits .and .i64 5 1 ≠ 0 := by decide
theorem SpOk.ch1 {x : Sp} (h : SpOk x) {i : Nat} {t : List Pg} (hi : x.tb[i]? = some t) {r a : Int} (hc : ch1 t r a = 0) : Go.Proofs.Ytonongaakieciaa.ch1 t 1 a = 0 := by
  obtain ⟨q, p, rfl, hq, hp, f0, -, -⟩ := ch1_in hc
  rw [ch1_at hp, if_neg (by omega)]
  rcases (h.pg i t hi p (List.mem_of_getElem? hp)).2 with hr | hr
  · rw [hr, if_neg bits_31]
  · rw [hr, if_neg bits_51]
/-- What is copied in is copied out. -/
theorem out_in {x : Sp} (h : SpOk x) {i a : Int} {s : ByteArray} (hE : outE x i a s = 0) : inE (outS x i a s) i a s.size = 0 ∧ inV (outS x i a s) i a s.size = s := by
  obtain ⟨hp, hs, hT, hc, hS⟩ := outE_ok hE
  obtain ⟨k, t, rfl, hk⟩ := hasP_some hp
  obtain ⟨-, hto⟩ := tbOf_some hk
  rw [hto] at hT hc hS
  rw [hS]
  obtain ⟨y, hy⟩ : ∃ y : Sp, (⟨⟨x.st.n, wrB t x.st.b a s.data.toList⟩, x.tb⟩ : Sp) = y := ⟨_, rfl⟩
  rw [hy]
  have hyk : y.tb[k]? = some t := by rw [← hy]; exact hk
  obtain ⟨hyp, hyt⟩ := tbOf_some hyk
  have hyn : y.st.n = x.st.n := by rw [← hy]
  have hyb : y.st.b = wrB t x.st.b a s.data.toList := by rw [← hy]
  have hth : thr t 1 a s.size = 0 := thr_zero (fun j hj => h.ch1 hk (hc j hj))
  have hr : rdR y.st t a s.size 1 = ((List.range s.size).map fun (j : Nat) => y.st.b (loc t (a + (j : Int))), 0) := by
    unfold rdR
    rw [hyn, if_neg (by rw [hT]; simp), if_neg (by omega), Int.toNat_natCast, hth, if_pos rfl]
  have hl : ((List.range s.size).map fun (j : Nat) => y.st.b (loc t (a + (j : Int)))) = s.data.toList := by
    refine List.ext_getElem? fun j => ?_
    rw [List.getElem?_map]
    by_cases hj : j < s.size
    · obtain ⟨c, hcj⟩ : ∃ c, s.data.toList[j]? = some c := ⟨_, List.getElem?_eq_getElem (by simpa using hj)⟩
      rw [List.getElem?_range hj, hcj, Option.map_some, hyb, wrB_back (h.apart hk) _ _ _ (fun q hq => hc q (by simpa using hq)) j c hcj]
    · rw [List.getElem?_eq_none (by simp; omega), List.getElem?_eq_none (by simpa using Nat.le_of_not_lt hj)]
      rfl
  have hE0 : inE0 y (k : Int) s.size = 0 := by unfold inE0; rw [if_neg (by rw [hyp]; simp), if_neg (by omega)]
  have hE1 : inE y (k : Int) a s.size = 0 := by
    unfold inE
    rw [hE0, hyt, hr]
    rfl
  refine ⟨hE1, ?_⟩
  unfold inV
  rw [if_pos hE1, hyt, hr]
  simp only
  rw [hl]
/-- What turns of the partition's bytes. -/
theorem out_all {x : Sp} (h : SpOk x) {i a : Int} {s : ByteArray} (hE : outE x i a s = 0) :
    (allS (outS x i a s) i).size = (allS x i).size ∧ (s.size = 0 → allS (outS x i a s) i = allS x i) ∧
    (s.size ≠ 0 → ∃ A : Nat, a = (A : Int) ∧ A + s.size ≤ (allS x i).size ∧ (allS (outS x i a s) i).extract 0 A = (allS x i).extract 0 A ∧ (allS (outS x i a s) i).extract (A + s.size) (allS x i).size = (allS x i).extract (A + s.size) (allS x i).size ∧ (allS (outS x i a s) i).extract A (A + s.size) = s) := by
  obtain ⟨hp, hs, hT, hc, hS⟩ := outE_ok hE
  obtain ⟨k, t, rfl, hk⟩ := hasP_some hp
  obtain ⟨-, hto⟩ := tbOf_some hk
  rw [hto] at hT hc hS
  rw [hS]
  have e2 : tbOf (⟨⟨x.st.n, wrB t x.st.b a s.data.toList⟩, x.tb⟩ : Sp) (k : Int) = t := (tbOf_some (x := ⟨⟨x.st.n, wrB t x.st.b a s.data.toList⟩, x.tb⟩) hk).2
  have z1 : (allS x (k : Int)).size = 256 * t.length := by rw [allS_size, hto]
  have z2 : (allS (⟨⟨x.st.n, wrB t x.st.b a s.data.toList⟩, x.tb⟩ : Sp) (k : Int)).size = 256 * t.length := by rw [allS_size, e2]
  have g1 : ∀ q, q < 256 * t.length → (allS x (k : Int)).data.toList[q]? = some (x.st.b (loc t (q : Int))) := fun q hq => by
    unfold allS
    rw [hto]
    exact allL_at hq
  have g2 : ∀ q, q < 256 * t.length → (allS (⟨⟨x.st.n, wrB t x.st.b a s.data.toList⟩, x.tb⟩ : Sp) (k : Int)).data.toList[q]? = some (wrB t x.st.b a s.data.toList (loc t (q : Int))) := fun q hq => by
    unfold allS
    rw [e2]
    exact allL_at hq
  have sd : s.data.toList.length = s.size := rfl
  refine ⟨by rw [z1, z2], fun h0 => ?_, fun h0 => ?_⟩
  · have : s.data.toList = [] := List.eq_nil_of_length_eq_zero (by omega)
    rw [this]
    unfold allS
    rw [hto, show tbOf (⟨⟨x.st.n, wrB t x.st.b a []⟩, x.tb⟩ : Sp) (k : Int) = t from (tbOf_some (x := ⟨⟨x.st.n, wrB t x.st.b a []⟩, x.tb⟩) hk).2]
    rfl
  · obtain ⟨A, p, hA, hq, hpq, -, -, -⟩ := ch1_in (hc 0 (by omega))
    have ha : a = (A : Int) := by omega
    subst ha
    obtain ⟨B, pB, hB, hqB, -, -, -, -⟩ := ch1_in (hc (s.size - 1) (by omega))
    have hle : A + s.size ≤ 256 * t.length := by omega
    have cq : ∀ q, q < 256 * t.length → Go.Proofs.Ytonongaakieciaa.ch1 t 1 (q : Int) = 0 := fun q hq => by
      obtain ⟨p, hp⟩ : ∃ p, t[q / 256]? = some p := ⟨_, List.getElem?_eq_getElem (by omega)⟩
      have hm := h.pg k t hk p (List.mem_of_getElem? hp)
      rw [ch1_at hp, if_neg (by omega)]
      rcases hm.2 with hr | hr
      · rw [hr, if_neg bits_31]
      · rw [hr, if_neg bits_51]
    have far : ∀ q, q < 256 * t.length → (q < A ∨ A + s.size ≤ q) → wrB t x.st.b (A : Int) s.data.toList (loc t (q : Int)) = x.st.b (loc t (q : Int)) := fun q hq hf => wrB_out _ _ _ (fun j hj e => by
      have := loc_inj (h.apart hk) (hc j (by omega)) (cq q hq) e
      omega)
    refine ⟨A, rfl, by omega, ba_ext fun j => ?_, ba_ext fun j => ?_, ba_ext fun j => ?_⟩
    · rw [ext_at, ext_at]
      by_cases hj : j < A - 0
      · rw [if_pos hj, if_pos hj, g1 _ (by omega), g2 _ (by omega), far _ (by omega) (by omega)]
      · rw [if_neg hj, if_neg hj]
    · rw [ext_at, ext_at]
      by_cases hj : j < (allS x (k : Int)).size - (A + s.size)
      · rw [if_pos hj, if_pos hj, g1 _ (by omega), g2 _ (by omega), far _ (by omega) (by omega)]
      · rw [if_neg hj, if_neg hj]
    · rw [ext_at]
      by_cases hj : j < A + s.size - A
      · obtain ⟨c, hcj⟩ : ∃ c, s.data.toList[j]? = some c := ⟨_, List.getElem?_eq_getElem (by omega)⟩
        rw [if_pos hj, g2 _ (by omega), hcj, show ((A + j : Nat) : Int) = (A : Int) + (j : Nat) from by omega, wrB_back (h.apart hk) _ _ _ (fun q hq => hc q (by omega)) j c hcj]
      · rw [if_neg hj, List.getElem?_eq_none (by omega)]
end Go.Proofs.Ytonongaakieciaa
