/- ConsoleScrolls: the plain law: lines that a level writes one by one, and the last six of them. -/
import Derived.Test.YtkjahokffpihmaaDoorC21
namespace Go.Proofs.YtkjahokffpihmaaDoor
open Go.RowKit
set_option linter.unusedVariables false
set_option linter.unusedSimpArgs false
set_option maxRecDepth 100000
theorem sc_ext {s t : Sc} (hg : ∀ p, s.g p = t.g p) (hl : s.ln = t.ln) (hc : s.cl = t.cl) : s = t := by
  obtain ⟨g, l, c⟩ := s
  obtain ⟨g', l', c'⟩ := t
  simp only at hg hl hc
  subst hl; subst hc
  rw [show g = g' from funext hg]
def seen (b : UInt8) : Prop := 32 ≤ b.toNat ∧ b.toNat ≤ 126
theorem seen_draw {b : UInt8} (h : seen b) {s : Sc} (hc : s.cl < 24) : sdraw s b = sput s b := by
  unfold sdraw
  have h10 : b ≠ 10 := fun he => by rw [he] at h; exact absurd h.1 (by decide)
  rw [if_neg h10]
  have hv : vis b = b := by
    unfold vis
    rw [if_neg]
    simp only [UInt8.lt_iff_toNat_lt, Bool.or_eq_true, decide_eq_true_eq, show (32 : UInt8).toNat = 32 from rfl, show (126 : UInt8).toNat = 126 from rfl]
    have := h.1
    have := h.2
    omega
  have hw : swrap s = s := by
    unfold swrap
    rw [if_neg (by omega)]
  rw [hv, hw]
/-- A line that fits is laid where the cursor stands. -/
theorem says_line : ∀ (l : List UInt8) (s : Sc), (∀ b ∈ l, seen b) → s.cl + l.length ≤ 24 →
    ssays s l = ⟨fun p => if s.ln * 24 + s.cl ≤ p ∧ p < s.ln * 24 + s.cl + l.length then l.getD (p - (s.ln * 24 + s.cl)) 32 else s.g p, s.ln, s.cl + l.length⟩
  | [], s, _, _ => sc_ext (fun p => by
      show s.g p = if _ then _ else _
      rw [if_neg (by simp only [List.length_nil]; omega)]) rfl rfl
  | b :: l, s, hv, hl => by
    have hl' : s.cl + (l.length + 1) ≤ 24 := by simpa using hl
    have e : ssays s (b :: l) = ssays (sput s b) l := by
      show ssays (sdraw s b) l = _
      rw [seen_draw (hv b (by simp)) (by omega)]
    rw [e, says_line l (sput s b) (fun c hc => hv c (by simp [hc])) (by simp only [sput]; omega)]
    refine sc_ext (fun p => ?_) rfl (by simp only [sput, List.length_cons]; omega)
    show (if s.ln * 24 + (s.cl + 1) ≤ p ∧ p < s.ln * 24 + (s.cl + 1) + l.length then l.getD (p - (s.ln * 24 + (s.cl + 1))) 32 else if p = s.ln * 24 + s.cl then b else s.g p) = if s.ln * 24 + s.cl ≤ p ∧ p < s.ln * 24 + s.cl + (l.length + 1) then (b :: l).getD (p - (s.ln * 24 + s.cl)) 32 else s.g p
    generalize s.ln * 24 = q
    by_cases h1 : p = q + s.cl
    · rw [if_neg (by omega), if_pos h1, if_pos (by omega), h1, Nat.sub_self]
      rfl
    · by_cases h2 : q + s.cl ≤ p ∧ p < q + s.cl + (l.length + 1)
      · rw [if_pos (by omega), if_pos h2, show p - (q + s.cl) = (p - (q + (s.cl + 1))) + 1 by omega]
        simp
      · rw [if_neg (by omega), if_neg h1, if_neg h2]
/-- The row of the cursor behind so many lines. -/
def lnK (k : Nat) : Nat := min (k - 1) 5
/-- The screen behind k lines, k from 1 on. -/
def scrl (ls : Nat → List UInt8) (k : Nat) : Sc := ⟨fun p => if p / 24 ≤ lnK k then (ls (k - 1 - lnK k + p / 24)).getD (p % 24) 32 else 32, lnK k, (ls (k - 1)).length⟩
def upd (ls : Nat → List UInt8) (m : Nat) : Nat → List UInt8 := fun i => if i = m then [] else ls i
theorem upd_same (ls : Nat → List UInt8) (m : Nat) : upd ls m m = [] := by unfold upd; rw [if_pos rfl]
theorem upd_other (ls : Nat → List UInt8) {m i : Nat} (h : i ≠ m) : upd ls m i = ls i := by unfold upd; rw [if_neg h]
theorem scrl_first (ls : Nat → List UInt8) : sclear = scrl (upd ls 0) 1 := sc_ext (fun p => by
  show (32 : UInt8) = if _ then _ else _
  split
  · next h =>
    have h0 : p / 24 = 0 := by simpa [lnK] using h
    rw [h0]
    rfl
  · rfl) rfl rfl
theorem scrl_feed (ls : Nat → List UInt8) {m : Nat} (hm : 1 ≤ m) : sfeed (scrl ls m) = scrl (upd ls m) (m + 1) := by
  unfold sfeed
  by_cases h5 : m ≤ 5
  · have e1 : lnK m = m - 1 := by unfold lnK; omega
    have e2 : lnK (m + 1) = m := by unfold lnK; omega
    rw [if_pos (by show lnK m < 5; omega)]
    refine sc_ext (fun p => ?_) (by show lnK m + 1 = lnK (m + 1); omega) (by show 0 = (upd ls m (m + 1 - 1)).length; rw [Nat.add_sub_cancel, upd_same]; rfl)
    show (if p / 24 ≤ lnK m then (ls (m - 1 - lnK m + p / 24)).getD (p % 24) 32 else 32) = if p / 24 ≤ lnK (m + 1) then (upd ls m (m + 1 - 1 - lnK (m + 1) + p / 24)).getD (p % 24) 32 else 32
    rw [e1, e2, show m - 1 - (m - 1) + p / 24 = p / 24 by omega, show m + 1 - 1 - m + p / 24 = p / 24 by omega]
    by_cases h1 : p / 24 ≤ m - 1
    · rw [if_pos h1, if_pos (by omega), upd_other _ (by omega)]
    · rw [if_neg h1]
      by_cases h2 : p / 24 ≤ m
      · rw [if_pos h2, show p / 24 = m by omega, upd_same]
        rfl
      · rw [if_neg h2]
  · have e1 : lnK m = 5 := by unfold lnK; omega
    have e2 : lnK (m + 1) = 5 := by unfold lnK; omega
    rw [if_neg (by show ¬ lnK m < 5; omega)]
    refine sc_ext (fun p => ?_) (by show 5 = lnK (m + 1); omega) (by show 0 = (upd ls m (m + 1 - 1)).length; rw [Nat.add_sub_cancel, upd_same]; rfl)
    show (if p < 120 then (if (p + 24) / 24 ≤ lnK m then (ls (m - 1 - lnK m + (p + 24) / 24)).getD ((p + 24) % 24) 32 else 32) else 32) = if p / 24 ≤ lnK (m + 1) then (upd ls m (m + 1 - 1 - lnK (m + 1) + p / 24)).getD (p % 24) 32 else 32
    rw [e1, e2, show (p + 24) / 24 = p / 24 + 1 by omega, show (p + 24) % 24 = p % 24 by omega]
    by_cases h1 : p < 120
    · rw [if_pos h1, if_pos (by omega), if_pos (by omega), upd_other _ (by omega), show m - 1 - 5 + (p / 24 + 1) = m + 1 - 1 - 5 + p / 24 by omega]
    · rw [if_neg h1]
      by_cases h2 : p / 24 ≤ 5
      · rw [if_pos h2, show m + 1 - 1 - 5 + p / 24 = m by omega, upd_same]
        rfl
      · rw [if_neg h2]
theorem scrl_write (ls : Nat → List UInt8) (m : Nat) (hv : ∀ b ∈ ls m, seen b) (hl : (ls m).length ≤ 24) : ssays (scrl (upd ls m) (m + 1)) (ls m) = scrl ls (m + 1) := by
  have ec : (scrl (upd ls m) (m + 1)).cl = 0 := by show (upd ls m (m + 1 - 1)).length = 0; rw [Nat.add_sub_cancel, upd_same]; rfl
  have en : (scrl (upd ls m) (m + 1)).ln = lnK (m + 1) := rfl
  have hk : lnK (m + 1) ≤ m := by unfold lnK; omega
  rw [says_line (ls m) _ hv (by rw [ec]; omega), ec, en]
  refine sc_ext (fun p => ?_) rfl (by show 0 + (ls m).length = (ls (m + 1 - 1)).length; rw [Nat.add_sub_cancel, Nat.zero_add])
  show (if lnK (m + 1) * 24 + 0 ≤ p ∧ p < lnK (m + 1) * 24 + 0 + (ls m).length then (ls m).getD (p - (lnK (m + 1) * 24 + 0)) 32 else if p / 24 ≤ lnK (m + 1) then (upd ls m (m + 1 - 1 - lnK (m + 1) + p / 24)).getD (p % 24) 32 else 32) = if p / 24 ≤ lnK (m + 1) then (ls (m + 1 - 1 - lnK (m + 1) + p / 24)).getD (p % 24) 32 else 32
  generalize lnK (m + 1) = n at hk ⊢
  rw [Nat.add_zero]
  by_cases h1 : p / 24 < n
  · rw [if_neg (by omega), if_pos (by omega), if_pos (by omega), upd_other _ (by omega)]
  · by_cases h2 : p / 24 = n
    · rw [if_pos (show p / 24 ≤ n by omega), if_pos (show p / 24 ≤ n by omega), show m + 1 - 1 - n + p / 24 = m by omega, upd_same]
      by_cases h3 : p < n * 24 + (ls m).length
      · rw [if_pos (by omega), show p - n * 24 = p % 24 by omega]
      · rw [if_neg (by omega), show p % 24 = p - n * 24 by omega]
        simp only [List.getD_eq_getElem?_getD]
        rw [List.getElem?_eq_none (l := ls m) (by omega)]
        rfl
    · rw [if_neg (by omega), if_neg (by omega), if_neg (by omega)]
/-- A line with blanks behind it, a row wide. -/
def padS (s : ByteArray) : ByteArray := (s ++ sp24).extract 0 24
theorem padS_list (s : ByteArray) : (padS s).data.toList = (s.data.toList ++ List.replicate 24 32).take 24 := by
  unfold padS
  rw [ByteArray.data_extract, ByteArray.data_append]
  simp only [Array.toList_extract, Array.toList_append, List.extract_eq_take_drop, List.drop_zero, Nat.sub_zero]
  rfl
theorem pad_row {s : Sc} {j : Nat} {t : ByteArray} (h : ∀ c, c < 24 → s.g (j * 24 + c) = t.data.toList.getD c 32) : rowB s j = padS t := by
  apply ByteArray.ext
  apply Array.toList_inj.1
  rw [padS_list]
  show (rowL s j).toArray.toList = _
  rw [List.toList_toArray]
  apply List.ext_getElem?
  intro c
  by_cases hc : c < 24
  · rw [rowL_at s j hc, List.getElem?_take, if_pos hc, h c hc, List.getD_eq_getElem?_getD]
    by_cases h2 : c < t.data.toList.length
    · rw [List.getElem?_append_left h2, List.getElem?_eq_getElem h2]
      rfl
    · rw [List.getElem?_append_right (by omega), List.getElem?_eq_none (by omega), List.getElem?_replicate, if_pos (by omega)]
      rfl
  · rw [List.getElem?_eq_none (by rw [rowL_len]; omega), List.getElem?_eq_none (by simp; omega)]
theorem pad_empty : padS empty = sp24 := by kernel_rfl
/-- What is wanted behind k lines. -/
def wantL (L : Nat → ByteArray) (k : Nat) : List ByteArray := (List.range k).map fun i => padS (L i)
def lastSix (L : Nat → ByteArray) (k : Nat) : List ByteArray := if 6 < k then (wantL L k).drop (k - 6) else wantL L k ++ List.replicate (6 - k) sp24
def scL (L : Nat → ByteArray) (k : Nat) : Sc := if k = 0 then sclear else scrl (fun i => (L i).data.toList) k
theorem wantL_len (L : Nat → ByteArray) (k : Nat) : (wantL L k).length = k := by simp [wantL]
theorem wantL_succ (L : Nat → ByteArray) (k : Nat) : wantL L (k + 1) = wantL L k ++ [padS (L k)] := by
  unfold wantL
  rw [List.range_succ, List.map_append]
  rfl
theorem wantL_at (L : Nat → ByteArray) {k i : Nat} (h : i < k) : (wantL L k)[i]? = some (padS (L i)) := by simp [wantL, h]
theorem lastSix_len (L : Nat → ByteArray) (k : Nat) : (lastSix L k).length = 6 := by
  unfold lastSix
  split
  · rw [List.length_drop, wantL_len]; omega
  · rw [List.length_append, wantL_len, List.length_replicate]; omega
theorem scL_row (L : Nat → ByteArray) (k : Nat) {j : Nat} (hj : j < 6) : rowB (scL L k) j = if 6 < k then padS (L (k - 6 + j)) else if j < k then padS (L j) else sp24 := by
  unfold scL
  by_cases h0 : k = 0
  · rw [if_pos h0, if_neg (by omega), if_neg (by omega), ← pad_empty]
    exact pad_row fun c hc => rfl
  · rw [if_neg h0]
    have hg : ∀ c, c < 24 → (scrl (fun i => (L i).data.toList) k).g (j * 24 + c) = if j ≤ lnK k then (L (k - 1 - lnK k + j)).data.toList.getD c 32 else 32 := fun c hc => by
      show (if (j * 24 + c) / 24 ≤ lnK k then (L (k - 1 - lnK k + (j * 24 + c) / 24)).data.toList.getD ((j * 24 + c) % 24) 32 else 32) = _
      rw [show (j * 24 + c) / 24 = j by omega, show (j * 24 + c) % 24 = c by omega]
    by_cases h6 : 6 < k
    · have e : lnK k = 5 := by unfold lnK; omega
      rw [if_pos h6]
      refine pad_row fun c hc => ?_
      rw [hg c hc, e, if_pos (by omega), show k - 1 - 5 + j = k - 6 + j by omega]
    · have e : lnK k = k - 1 := by unfold lnK; omega
      rw [if_neg h6]
      by_cases h7 : j < k
      · rw [if_pos h7]
        refine pad_row fun c hc => ?_
        rw [hg c hc, e, if_pos (by omega), show k - 1 - (k - 1) + j = j by omega]
      · rw [if_neg h7, ← pad_empty]
        refine pad_row fun c hc => ?_
        rw [hg c hc, e, if_neg (by omega)]
        rfl
theorem scL_rows (L : Nat → ByteArray) (k : Nat) : screenL (scL L k) = lastSix L k := by
  apply List.ext_getElem?
  intro j
  by_cases hj : j < 6
  · have e1 : (screenL (scL L k))[j]? = some (rowB (scL L k) j) := by simp [screenL, hj]
    rw [e1, scL_row L k hj]
    unfold lastSix
    by_cases h6 : 6 < k
    · rw [if_pos h6, if_pos h6, List.getElem?_drop, wantL_at L (by omega)]
    · rw [if_neg h6, if_neg h6]
      by_cases h7 : j < k
      · rw [if_pos h7, List.getElem?_append_left (by rw [wantL_len]; exact h7), wantL_at L h7]
      · rw [if_neg h7, List.getElem?_append_right (by rw [wantL_len]; omega), wantL_len, List.getElem?_replicate, if_pos (by omega)]
  · rw [List.getElem?_eq_none (by rw [screen_len]; omega), List.getElem?_eq_none (by rw [lastSix_len]; omega)]
/-- The first line, and the next ones. -/
theorem scL_first (L : Nat → ByteArray) (hv : ∀ b ∈ (L 0).data.toList, seen b) (hl : (L 0).size ≤ 24) : ssays (scL L 0) (L 0).data.toList = scL L 1 := by
  unfold scL
  rw [if_pos rfl, if_neg (by omega), scrl_first (fun i => (L i).data.toList)]
  exact scrl_write (fun i => (L i).data.toList) 0 hv hl
theorem scL_next (L : Nat → ByteArray) {k : Nat} (hk : k ≠ 0) (hv : ∀ b ∈ (L k).data.toList, seen b) (hl : (L k).size ≤ 24) : ssays (ssays (scL L k) [10]) (L k).data.toList = scL L (k + 1) := by
  unfold scL
  rw [if_neg hk, if_neg (by omega)]
  have e : ssays (scrl (fun i => (L i).data.toList) k) [10] = sfeed (scrl (fun i => (L i).data.toList) k) := rfl
  rw [e, scrl_feed _ (by omega)]
  exact scrl_write (fun i => (L i).data.toList) k hv hl
/-- What a line is made of: the first 24 of a text's bytes, a full stop for what is not seen. -/
def dot (b : UInt8) : UInt8 := if b.toNat < 32 ∨ 126 < b.toNat then 46 else b
theorem dot_seen (b : UInt8) : seen (dot b) := by
  unfold dot seen
  split
  · decide
  · omega
def lineK (t : ByteArray) (k : Nat) : ByteArray := ⟨((t.data.toList.take k).map dot).toArray⟩
theorem lineK_size (t : ByteArray) (k : Nat) : (lineK t k).size = min k t.size := by
  have e : (lineK t k).size = ((t.data.toList.take k).map dot).length := rfl
  have e2 : t.data.toList.length = t.size := rfl
  rw [e, List.length_map, List.length_take, e2]
theorem lineK_succ (t : ByteArray) {k : Nat} (h : k < t.size) : lineK t (k + 1) = lineK t k ++ ⟨#[dot t[k]]⟩ := by
  unfold lineK
  rw [List.take_succ_eq_append_getElem (by simpa using h), List.map_append]
  apply ByteArray.ext
  rw [ByteArray.data_append]
  simp
  rfl
theorem lineK_seen (t : ByteArray) (k : Nat) : ∀ b ∈ (lineK t k).data.toList, seen b := by
  intro b hb
  have hb' : b ∈ (t.data.toList.take k).map dot := hb
  rw [List.mem_map] at hb'
  obtain ⟨c, -, rfl⟩ := hb'
  exact dot_seen c
end Go.Proofs.YtkjahokffpihmaaDoor
