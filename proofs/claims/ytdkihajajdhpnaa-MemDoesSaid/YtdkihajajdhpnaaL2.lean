/- MemRights, walked. -/
import Derived.Test.YtdkihajajdhpnaaB4
import Derived.Test.YtdkihajajdhpnaaL1
import Derived.StillTailTactics
import Derived.Outline
namespace Go.Proofs.Ytdkihajajdhpnaa
open Go.RowKit
set_option linter.unusedVariables false
set_option linter.unusedSimpArgs false
/-- A table's cells. -/
def cellsT (t : List Pg) : List Value := t.flatMap fun p => [.int .i64 p.f, .int .i64 p.r]
theorem cellsT_len (t : List Pg) : (cellsT t).length = t.length * 2 := by
  induction t with
  | nil => rfl
  | cons p t ih => simp [cellsT] at ih ⊢; omega
theorem cellsT_at : ∀ (t : List Pg) (i : Nat) (p : Pg), t[i]? = some p → (cellsT t)[i * 2]? = some (.int .i64 p.f) ∧ (cellsT t)[i * 2 + 1]? = some (.int .i64 p.r) := by
  intro t
  induction t with
  | nil => intro i p h; simp at h
  | cons q t ih =>
    intro i p h
    cases i with
    | zero => simp at h; subst h; exact ⟨rfl, rfl⟩
    | succ i =>
      have h1 := ih i p (by simpa using h)
      have e : cellsT (q :: t) = .int .i64 q.f :: .int .i64 q.r :: cellsT t := rfl
      rw [e]
      constructor
      · rw [show (i + 1) * 2 = i * 2 + 1 + 1 from by omega, List.getElem?_cons_succ, List.getElem?_cons_succ]; exact h1.1
      · rw [show (i + 1) * 2 + 1 = (i * 2 + 1) + 1 + 1 from by omega, List.getElem?_cons_succ, List.getElem?_cons_succ]; exact h1.2
theorem cellsT_one (t : List Pg) : ∀ u ∈ cellsT t, u.oneCell' = true := by
  intro u hu
  simp only [cellsT, List.mem_flatMap] at hu
  obtain ⟨p, _, hu⟩ := hu
  simp at hu
  rcases hu with rfl | rfl <;> rfl
theorem Tb.cells {w : World} {b off : Nat} {n cap : Nat} {t : List Pg} (h : Tb w b (.slice (some ⟨b, off, none⟩) n cap) t) : ∀ (j : Nat) (u : Value), (cellsT t)[j]? = some u → w.cell? ((⟨b, off, none⟩ : Addr).add j) = some u := by
  intro j u hu
  have hj : j < t.length * 2 := by have := (List.getElem?_eq_some_iff.1 hu).1; rwa [cellsT_len] at this
  obtain ⟨p, hp⟩ : ∃ p, t[j / 2]? = some p := ⟨_, List.getElem?_eq_getElem (by omega)⟩
  obtain ⟨off', hA, _, c0, c1⟩ := h.at_ hp
  injection hA with hA
  injection hA with _ ho
  subst ho
  obtain ⟨k0, k1⟩ := cellsT_at t (j / 2) p hp
  rw [addr_add]
  rcases Nat.mod_two_eq_zero_or_one j with hm | hm
  · have e : j / 2 * 2 = j := by omega
    rw [e] at k0 c0
    rw [k0] at hu
    injection hu with hu
    subst hu
    exact c0
  · have e : j / 2 * 2 + 1 = j := by omega
    rw [e] at k1
    rw [Nat.add_assoc, e] at c1
    rw [k1] at hu
    injection hu with hu
    subst hu
    exact c1
theorem Try.info31 : (Try.prog.info? 31).map (fun i => (i.zero, i.size, i.bytes)) = some (some (.agg #[.int .i64 0, .int .i64 0]), 2, 16) := by kernel_rfl
/-- The copy of the table while its rights are cut: k of them are. -/
def CutT (mask : Int) (t : List Pg) (k g : Nat) (W : World) : Prop := ∃ cs, Blk W g 31 cs ∧ ∀ i p, t[i]? = some p → cs[i * 2]? = some (.int .i64 p.f) ∧ cs[i * 2 + 1]? = some (.int .i64 (if i < k then fw mask p.r else p.r))
theorem CutT.step {mask : Int} {t : List Pg} {k g : Nat} {W : World} (h : CutT mask t k g W) {p : Pg} (hp : t[k]? = some p) : CutT mask t (k + 1) g (W.setCell ⟨g, k * 2 + 1, none⟩ (.int .i64 (fw mask p.r))) := by
  obtain ⟨cs, hb, hc⟩ := h
  refine ⟨_, hb.set_ _ _, fun i q hq => ?_⟩
  obtain ⟨h1, h2⟩ := hc i q hq
  rw [Array.getElem?_setIfInBounds_ne (by omega)]
  refine ⟨h1, ?_⟩
  by_cases hik : i = k
  · subst hik
    rw [hp] at hq
    injection hq with hq
    subst hq
    rw [Array.getElem?_setIfInBounds_self_of_lt (Array.getElem?_eq_some_iff.1 h2).1, if_pos (by omega)]
  · rw [Array.getElem?_setIfInBounds_ne (by omega), h2]
    by_cases hlt : i < k
    · rw [if_pos hlt, if_pos (by omega)]
    · rw [if_neg hlt, if_neg (by omega)]
theorem CutT.fr {mask : Int} {t : List Pg} {k g : Nat} {W W' : World} {S : List Nat} (h : CutT mask t k g W) (hf : Fr S W W') (hg : g ∉ S) : CutT mask t k g W' := by
  obtain ⟨cs, hb, hc⟩ := h
  exact ⟨cs, hb.fr hf hg, hc⟩
theorem CutT.tb {mask : Int} {t : List Pg} {g n cap : Nat} {W : World} (h : CutT mask t n g W) (hn : n = t.length) (hl : n ≤ maxLen) : Tb W g (.slice (some ⟨g, 0, none⟩) n cap) (fewT mask t) := by
  obtain ⟨cs, hb, hc⟩ := h
  refine ⟨by rw [fewT_len, ← hn]; exact hl, _, cap, by rw [fewT_len, hn], fun i p hi => ?_⟩
  obtain ⟨q, hq, rfl⟩ : ∃ q, t[i]? = some q ∧ (⟨q.f, fw mask q.r⟩ : Pg) = p := by
    unfold fewT at hi
    rw [List.getElem?_map] at hi
    cases hq : t[i]? with
    | none => rw [hq] at hi; cases hi
    | some q => rw [hq] at hi; injection hi with hi; exact ⟨q, rfl, hi⟩
  obtain ⟨h1, h2⟩ := hc i q hq
  have hin := (List.getElem?_eq_some_iff.1 hq).1
  rw [if_pos (by omega)] at h2
  exact ⟨0, rfl, hb.lt, by rw [hb.cell, Nat.zero_add]; exact h1, by rw [hb.cell, Nat.zero_add]; exact h2⟩
end Go.Proofs.Ytdkihajajdhpnaa
