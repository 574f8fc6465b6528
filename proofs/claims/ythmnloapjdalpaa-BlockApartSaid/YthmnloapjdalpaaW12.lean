/- The program's disk: Flush. -/
import Derived.Test.YthmnloapjdalpaaW11
namespace Go.Proofs.Ythmnloapjdalpaa
open Go.RowKit
set_option linter.unusedVariables false
set_option linter.unusedSimpArgs false
theorem Dk.ext' {d d' : Dk} (h1 : d.n = d'.n) (h2 : ∀ i, d.s i = d'.s i) (h3 : ∀ k, d.u k = d'.u k) (h4 : d.armed = d'.armed) (h5 : d.ch = d'.ch) (h6 : d.dead = d'.dead) : d = d' := by
  obtain ⟨n, s, u, a, c, b⟩ := d
  obtain ⟨n', s', u', a', c', b'⟩ := d'
  simp only at h1 h2 h3 h4 h5 h6
  subst h1 h4 h5 h6
  rw [funext h2, funext h3]
theorem settle_self (d : Dk) (a : Nat) : d.settle a a = d := by
  refine Dk.ext' rfl (fun i => ?_) (fun k => ?_) rfl rfl rfl
  · show (if a ≤ i / 128 ∧ i / 128 < a then rdB d i else d.s i) = d.s i
    rw [if_neg (by omega)]
  · show (if a ≤ k ∧ k < a then none else d.u k) = d.u k
    rw [if_neg (by omega)]
theorem settle_u (d : Dk) (a i : Nat) : (d.settle a i).u i = d.u i := by
  show (if a ≤ i ∧ i < i then none else d.u i) = d.u i
  rw [if_neg (by omega)]
theorem settle_none {d : Dk} {a i : Nat} (h : d.u i = none) : d.settle a (i + 1) = d.settle a i := by
  refine Dk.ext' rfl (fun j => ?_) (fun k => ?_) rfl rfl rfl
  · show (if a ≤ j / 128 ∧ j / 128 < i + 1 then rdB d j else d.s j) = (if a ≤ j / 128 ∧ j / 128 < i then rdB d j else d.s j)
    by_cases h1 : j / 128 = i
    · have h2 : rdB d j = d.s j := by unfold rdB; rw [h1, h]
      rw [h2]
      split <;> split <;> rfl
    · by_cases h2 : a ≤ j / 128 ∧ j / 128 < i
      · rw [if_pos h2, if_pos (by omega)]
      · rw [if_neg h2, if_neg (by omega)]
  · show (if a ≤ k ∧ k < i + 1 then none else d.u k) = (if a ≤ k ∧ k < i then none else d.u k)
    by_cases h1 : k = i
    · subst h1
      rw [h]
      split <;> split <;> rfl
    · by_cases h2 : a ≤ k ∧ k < i
      · rw [if_pos h2, if_pos (by omega)]
      · rw [if_neg h2, if_neg (by omega)]
theorem settle_some_s {d : Dk} {a i : Nat} {t : ByteArray} (ha : a ≤ i) (h : d.u i = some t) (ht : t.size = 128) (j : Nat) : ov (d.settle a i).s (i * 128) t.data.toList j = (d.settle a (i + 1)).s j := by
  have hlen : t.data.toList.length = 128 := ht
  show _ = (if a ≤ j / 128 ∧ j / 128 < i + 1 then rdB d j else d.s j)
  by_cases h1 : j / 128 = i
  · rw [if_pos (by omega), ov_in (by omega) (by omega)]
    unfold rdB
    rw [h1, h]
    show _ = at8 t (j % 128)
    rw [show j - i * 128 = j % 128 from by omega]
    unfold at8
    simp
  · rw [ov_out (by omega)]
    show (if a ≤ j / 128 ∧ j / 128 < i then rdB d j else d.s j) = _
    by_cases h2 : a ≤ j / 128 ∧ j / 128 < i
    · rw [if_pos h2, if_pos (by omega)]
    · rw [if_neg h2, if_neg (by omega)]
theorem settle_some_u {d : Dk} {a i : Nat} (ha : a ≤ i) : (fun j => if j = i then none else (d.settle a i).u j) = (d.settle a (i + 1)).u := by
  funext j
  show (if j = i then none else (if a ≤ j ∧ j < i then none else d.u j)) = (if a ≤ j ∧ j < i + 1 then none else d.u j)
  by_cases h1 : j = i
  · rw [if_pos h1, if_pos (by omega)]
  · rw [if_neg h1]
    by_cases h2 : a ≤ j ∧ j < i
    · rw [if_pos h2, if_pos (by omega)]
    · rw [if_neg h2, if_neg (by omega)]
theorem DiskAt.settled {w w1 w2 : World} {p g m a i : Nat} {d : Dk} {t : ByteArray} (h : DiskAt w p g m (d.settle a i)) (ha : a ≤ i) (hu : d.u i = some t) (ht : t.size = 128)
    (h1 : w1 = w.setCells g (i * 128) (t.data.toList.map fun x => Value.int .u8 (x.toNat : Int))) (h2 : UMap w2 m d.n (fun j => if j = i then none else (d.settle a i).u j)) (hf : Fr [m] w1 w2) (hok : (d.settle a (i + 1)).Ok) : DiskAt w2 p g m (d.settle a (i + 1)) := by
  have hf1 : Fr [g] w w1 := by rw [h1]; exact Fr.setCells (.inl (by simp)) _ _ _ (Fr.refl _ _)
  have e1 := h.pg
  have e2 := h.pm
  have e3 := h.gm
  have hn := h.noz
  have hn1 : NoZ w1 [m] := fun j hj cs mk he => by
    simp only [List.mem_cons, List.not_mem_nil, or_false] at hj
    subst hj
    rw [hf1.block j h.ltm (by simp; omega)] at he
    exact hn j (by simp) cs mk he
  obtain ⟨ok, ⟨cap, cv, hb, hc, hm, hz⟩, sb, um⟩ := h
  refine ⟨hok, ⟨cap, cv, (hb.fr hf1 (by simp [e1])).fr hf (by simp [e2]), hc, hm, (hz.fr hf1 (fun j hj => hn j (by simp at hj; simp [hj]))).fr hf hn1⟩, ?_, ?_⟩
  · have hs := Wb.setCells t.data.toList (i * 128) _ _ sb
    rw [← h1] at hs
    exact (hs.fr hf (by simp [e3])).ext (fun j _ => settle_some_s ha hu ht j)
  · rw [← settle_some_u ha]
    exact h2
end Go.Proofs.Ythmnloapjdalpaa
