/- The places of labels, as a row of the function's own. -/
import Derived.Test.YtjijhjdemkgpgaaGreatDoorZ15
import Derived.Deep.DeepCutAuto
import Derived.Deep.AppendLies
namespace Go.Proofs.YtjijhjdemkgpgaaGreatDoor
open Go.RowKit
set_option linter.unusedVariables false
set_option linter.unusedSimpArgs false
set_option maxRecDepth 100000
def pcs (pl : Pl) : List Value := pl.flatMap fun p => [.string ⟨p.1.toArray⟩, .int .i64 (p.2 : Int)]
theorem pcs_snoc (pl : Pl) (l : List UInt8) (a : Nat) : pcs (pl ++ [(l, a)]) = pcs pl ++ [.string ⟨l.toArray⟩, .int .i64 (a : Int)] := by
  unfold pcs
  rw [List.flatMap_append]
  rfl
theorem pcs_len (pl : Pl) : (pcs pl).length = pl.length * 2 := by
  induction pl with
  | nil => rfl
  | cons p r ih =>
    show (([.string ⟨p.1.toArray⟩, .int .i64 (p.2 : Int)] : List Value) ++ pcs r).length = _
    rw [List.length_append, ih]
    simp only [List.length_cons, List.length_nil]
    omega
theorem pcs_at {pl : Pl} {j : Nat} {p : List UInt8 × Nat} (h : pl[j]? = some p) : (pcs pl)[j * 2]? = some (.string ⟨p.1.toArray⟩) ∧ (pcs pl)[j * 2 + 1]? = some (.int .i64 (p.2 : Int)) := by
  induction pl generalizing j with
  | nil => cases h
  | cons q r ih =>
    cases j with
    | zero =>
      injection h with h
      subst h
      exact ⟨rfl, rfl⟩
    | succ j =>
      have h' := ih (j := j) h
      have e : pcs (q :: r) = .string ⟨q.1.toArray⟩ :: .int .i64 (q.2 : Int) :: pcs r := rfl
      rw [e, show (j + 1) * 2 = j * 2 + 1 + 1 by omega]
      exact h'
theorem newsP (w : World) (l : List UInt8) (a : Nat) : ∀ (j : Nat) (u : Value), ([.string ⟨l.toArray⟩, .int .i64 (a : Int)] : List Value)[j]? = some u → (w.alloc (.cells #[.string ⟨l.toArray⟩, .int .i64 (a : Int)] 70)).cell? ((⟨w.heap.size, 0, none⟩ : Addr).add j) = some u := by
  intro j u hu
  have hb := Blk.new w 70 #[.string ⟨l.toArray⟩, .int .i64 (a : Int)]
  rw [add0, hb.cell]
  simpa using hu
theorem info70 : (Tryz.prog.info? 70).map (fun i => (i.zero, i.size, i.bytes)) = some (some (.agg #[.string ⟨#[]⟩, .int .i64 0]), 2, 24) := by kernel_rfl
theorem own_formG {w : World} {B e n sz : Nat} {v : Value} {xs : List Value} (h : w.ownsRow B e sz v n xs) (hv : v ≠ .slice none 0 0) : ∃ g cap, v = .slice (some ⟨g, 0, none⟩) n cap ∧ ∀ j u, xs[j]? = some u → w.cell? ((⟨g, 0, none⟩ : Addr).add j) = some u := by
  have h0 := h
  rcases h.2 with ⟨rfl, -⟩ | ⟨g, cap, cur, rfl, -⟩
  · exact absurd rfl hv
  · exact ⟨g, cap, rfl, h0.cells rfl⟩
theorem own_places {w : World} {B n : Nat} {v : Value} {pl : Pl} (h : w.ownsRow B 70 2 v pl.length (pcs pl)) (hv : v ≠ .slice none 0 0) : ∃ g cap, v = .slice (some ⟨g, 0, none⟩) pl.length cap ∧ ∀ W, Fr [] w W → PlAt W g pl := by
  obtain ⟨g, cap, e, hc⟩ := own_formG h hv
  refine ⟨g, cap, e, fun W hf j p hp => ?_⟩
  obtain ⟨h1, h2⟩ := pcs_at hp
  have c1 := hc _ _ h1
  have c2 := hc _ _ h2
  rw [add0] at c1 c2
  exact ⟨hf.cell_some c1 (by simp), hf.cell_some c2 (by simp)⟩
theorem readR_is (lab : Bool) (s : List UInt8) : (readR lab s).2.2 = (readV lab s).2.2 := by
  have h1 := readR_G lab s
  have h2 := readV_G lab s
  rw [← read_same] at h1
  have h := h1.symm.trans h2
  cases hr : (readR lab s).2.2 <;> cases hv : (readV lab s).2.2
  · rfl
  · rw [hr, hv] at h
    simp at h
  · rw [hr, hv] at h
    simp at h
  · rfl
/-- A label's line begins with no word. -/
theorem lab_noword {l : List UInt8} (h : isLab l.dropLast = true) : ¬ (5 < l.length ∧ l.take 5 = [119, 111, 114, 100, 32]) := by
  rintro ⟨h1, h2⟩
  have e : l.dropLast.take 5 = l.take 5 := by
    rw [List.dropLast_eq_take, List.take_take, Nat.min_eq_left (by omega)]
  have hm : (32 : UInt8) ∈ l.dropLast := by
    have : (32 : UInt8) ∈ l.dropLast.take 5 := by rw [e, h2]; simp
    exact List.mem_of_mem_take this
  have := lab_byte h 32 hm
  exact absurd this (by decide)
theorem lineK_lab {l : List UInt8} (h0 : l ≠ []) (h1 : l.getLast? = some 58) (h2 : isLab l.dropLast = true) : lineK l = .lab l.dropLast := by
  unfold lineK
  rw [if_neg h0, if_pos ⟨h1, h2⟩]
end Go.Proofs.YtjijhjdemkgpgaaGreatDoor
