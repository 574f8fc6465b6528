/- What a caller makes of all that the iterator tells. -/
import Derived.Test.YtonongaakieciaaB2
namespace Go.Proofs.Ytonongaakieciaa
open Go.RowKit
set_option linter.unusedVariables false
def allOk {N : Nat} (l : List (Yb N)) : Prop := ∀ x ∈ l, ∃ j h, x = Yb.ok j h
/-- The byte of a place. -/
def yb (b : Nat → UInt8) {N : Nat} : Yb N → UInt8
  | .ok j _ => b j
  | .bad _ _ => 0
theorem y1_of {n : Nat} {t : List Pg} (hT : okT n t = true) {r a : Int} (h : ch1 t r a = 0) : y1 (n * 256) t r a = .ok (loc t a) (loc_lt hT h) := y1_ok h _
theorem y1_no {N : Nat} {t : List Pg} {r a : Int} (h : ch1 t r a ≠ 0) : ∃ he, y1 N t r a = .bad (ch1 t r a) he := by
  have he : ch1 t r a = 81 ∨ ch1 t r a = 82 := by rcases ch1_cases t r a with h1 | h1 | h1; exact absurd h1 h; exact .inl h1; exact .inr h1
  exact ⟨he, y1_bad rfl he⟩
theorem ytk_map {n : Nat} {t : List Pg} (hT : okT n t = true) {r a : Int} {k : Nat} (h : ∀ i, i < k → ch1 t r (a + (i : Nat)) = 0) (b : Nat → UInt8) : (ytk (n * 256) t r a k).map (yb b) = (List.range k).map fun (i : Nat) => b (loc t (a + (i : Int))) := by
  unfold ytk
  rw [List.map_map]
  refine List.map_congr_left (fun i hi => ?_)
  have hi' := List.mem_range.1 hi
  show yb b (y1 (n * 256) t r (a + (i : Int))) = _
  rw [y1_of hT (h i hi')]
  rfl
theorem yl_done {n : Nat} {t : List Pg} (hT : okT n t = true) {r a : Int} {k : Nat} (h : allOk (yl (n * 256) t r a k)) : (∀ i, i < k → ch1 t r (a + (i : Nat)) = 0) ∧ yl (n * 256) t r a k = ytk (n * 256) t r a k := by
  by_cases hg : good t r a k = k
  · refine ⟨fun i hi => good_ok t r k a i (by omega), ?_⟩
    unfold yl
    rw [if_pos hg]
  · exfalso
    have h1 := good_le t r k a
    have h2 := good_bad t r k a (by omega)
    unfold yl at h
    rw [if_neg hg, ytk_succ] at h
    obtain ⟨he, h3⟩ := y1_no (N := n * 256) h2
    rw [h3] at h
    obtain ⟨j, hj, h4⟩ := h (.bad (ch1 t r (a + (good t r a k : Nat))) he) (by simp)
    cases h4
theorem thr_zero {t : List Pg} {r a : Int} {k : Nat} (h : ∀ i, i < k → ch1 t r (a + (i : Nat)) = 0) : thr t r a k = 0 := by rw [thr_good, if_pos (good_full h)]
theorem thr_of_zero {t : List Pg} {r a : Int} {k : Nat} (h : thr t r a k = 0) : ∀ i, i < k → ch1 t r (a + (i : Nat)) = 0 := by
  have h1 := good_le t r k a
  rw [thr_good] at h
  by_cases hg : good t r a k = k
  · exact fun i hi => good_ok t r k a i (by omega)
  · rw [if_neg hg] at h
    exact absurd h (good_bad t r k a (by omega))
theorem ytk_at {N : Nat} {t : List Pg} {r a : Int} {K k : Nat} (h : k < K) : (ytk N t r a K)[k]? = some (y1 N t r (a + (k : Nat))) := by simp [ytk, h]
theorem yl_stop {n : Nat} {t : List Pg} (hT : okT n t = true) {r a e : Int} {k : Nat} {pre : List (Yb (n * 256))} {he : e = 81 ∨ e = 82} (h : pre ++ [.bad e he] <+: yl (n * 256) t r a k) : thr t r a k = e := by
  obtain ⟨rest, hr⟩ := h
  have hat : (yl (n * 256) t r a k)[pre.length]? = some (.bad e he) := by rw [← hr]; simp
  have key : ∀ K, yl (n * 256) t r a k = ytk (n * 256) t r a K → pre.length < K ∧ ch1 t r (a + (pre.length : Nat)) = e := by
    intro K hK
    rw [hK] at hat
    have hlt : pre.length < K := by
      have := (List.getElem?_eq_some_iff.1 hat).1
      rwa [ytk_len] at this
    rw [ytk_at hlt] at hat
    refine ⟨hlt, ?_⟩
    injection hat with hat
    by_cases hc : ch1 t r (a + (pre.length : Nat)) = 0
    · rw [y1_of hT hc] at hat; cases hat
    · obtain ⟨he', h3⟩ := y1_no (N := n * 256) hc
      rw [h3] at hat
      injection hat
  have h1 := good_le t r k a
  rw [thr_good]
  by_cases hg : good t r a k = k
  · obtain ⟨h2, h3⟩ := key k (by unfold yl; rw [if_pos hg])
    have := good_ok t r k a pre.length (by omega)
    omega
  · obtain ⟨h2, h3⟩ := key (good t r a k + 1) (by unfold yl; rw [if_neg hg])
    rw [if_neg hg]
    by_cases h4 : pre.length < good t r a k
    · have := good_ok t r k a pre.length h4
      omega
    · rw [show good t r a k = pre.length from by omega]
      exact h3
end Go.Proofs.Ytonongaakieciaa
