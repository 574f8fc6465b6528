/- What a write has done, in plain words. -/
import Derived.Test.YtonongaakieciaaW13
import Derived.Laws.IdiomStrings
namespace Go.Proofs.Ytonongaakieciaa
open Go.RowKit
set_option linter.unusedVariables false
set_option linter.unusedSimpArgs false
/-- Block g is bytes: the first n of them are those of l; it may be written there. -/
theorem wr_right {r : Int} (h0 : 0 ≤ r) (h7 : r ≤ 7) (h : bits .and .i64 r 2 ≠ 0) : ¬ r / 2 % 2 = 0 := by
  have hc : r = 0 ∨ r = 1 ∨ r = 2 ∨ r = 3 ∨ r = 4 ∨ r = 5 ∨ r = 6 ∨ r = 7 := by omega
  rcases hc with rfl | rfl | rfl | rfl | rfl | rfl | rfl | rfl
  · exact absurd (by kernel_rfl) h
  · exact absurd (by kernel_rfl) h
  · decide
  · decide
  · exact absurd (by kernel_rfl) h
  · exact absurd (by kernel_rfl) h
  · decide
  · decide
/-- What a byte that may be written tells of its address. -/
theorem ch1_wr {n : Nat} {t : List Pg} (hT : okT n t = true) {a : Int} (h : ch1 t 2 a = 0) : ∃ (q : Nat) (p : Pg), a = (q : Int) ∧ q < t.length * 256 ∧ t[q / 256]? = some p ∧ 0 ≤ p.f ∧ p.f < n ∧ 0 ≤ p.r ∧ p.r ≤ 7 ∧ ¬ p.r / 2 % 2 = 0 ∧ loc t a = p.f.toNat * 256 + q % 256 := by
  by_cases h0 : a < 0
  · rw [ch1_neg h0] at h; omega
  · obtain ⟨q, rfl⟩ := Int.eq_ofNat_of_zero_le (by omega : 0 ≤ a)
    by_cases hl : t.length * 256 ≤ q
    · rw [ch1_far hl] at h; omega
    · obtain ⟨p, hp⟩ : ∃ p, t[q / 256]? = some p := ⟨_, List.getElem?_eq_getElem (by omega)⟩
      have h2 := okT_at hT hp
      rw [ch1_at hp] at h
      by_cases hf : p.f < 0
      · rw [if_pos hf] at h; omega
      · rw [if_neg hf] at h
        by_cases hr : bits .and .i64 p.r 2 = 0
        · rw [if_pos hr] at h; omega
        · exact ⟨q, p, rfl, by omega, hp, by omega, h2.2.1, h2.2.2.1, h2.2.2.2.1, wr_right h2.2.2.1 h2.2.2.2.1 hr, loc_at hp⟩
/-- Of a write that is not refused. -/
theorem wr_done {st : St} {t : List Pg} {a : Int} {s : ByteArray} (h : wrE st t a s = 0) : okT st.n t = true ∧ s.size ≤ 4096 ∧ (∀ i, i < s.size → ch1 t 2 (a + (i : Nat)) = 0) ∧ wrS st t a s = ⟨st.n, wrB t st.b a s.data.toList⟩ := by
  have h0 := h
  unfold wrE at h
  cases hT : okT st.n t with
  | false => rw [if_pos hT] at h; omega
  | true =>
    rw [if_neg (by rw [hT]; simp)] at h
    by_cases hs : 4096 < s.size
    · rw [if_pos hs] at h; omega
    · rw [if_neg hs] at h
      refine ⟨rfl, by omega, thr_of_zero h, ?_⟩
      unfold wrS
      rw [if_pos h0]
theorem wrB_take {t : List Pg} {b : Nat → UInt8} {a : Int} {s : ByteArray} {i : Nat} (hi : i < s.size) : wrB t b a (s.data.toList.take (i + 1)) = upd (wrB t b a (s.data.toList.take i)) (loc t (a + (i : Int))) (s.data[i]'hi) := by
  have hl : i < s.data.toList.length := by simpa using hi
  rw [List.take_succ_eq_append_getElem hl, wrB_snoc, List.length_take, Nat.min_eq_left (by omega)]
  rfl
theorem MemAt.noTxt {w : World} {p F : Nat} {st : St} (h : MemAt w p F st) : ∀ cs, ¬ Blk w F 9 cs := by
  obtain ⟨hd, cs, hb, hc⟩ := h
  intro cs' hb'
  exact absurd (hb.eq hb').1 (by decide)
end Go.Proofs.Ytonongaakieciaa
