/- Rows of bytes made of texts. -/
import Derived.Test.YthmnloapjdalpaaLib
import Derived.Laws.IdiomStrings
namespace Go.Proofs.Ythmnloapjdalpaa
open Go.RowKit
set_option linter.unusedVariables false
set_option linter.unusedSimpArgs false
/-- A byte is put at a place. -/
def upd (b : Nat → UInt8) (k : Nat) (c : UInt8) : Nat → UInt8 := fun j => if j = k then c else b j
theorem upd_same (b : Nat → UInt8) (k : Nat) (c : UInt8) : upd b k c k = c := if_pos rfl
theorem upd_ne {b : Nat → UInt8} {k : Nat} {c : UInt8} {j : Nat} (h : j ≠ k) : upd b k c j = b j := if_neg h
/-- Block g is bytes: the first n of them are those of l; it may be written there. -/
def Wb (w : World) (g n : Nat) (l : Nat → UInt8) : Prop := ∃ cs mk, w.heap[g]? = some (.cells cs 5 mk) ∧ (∀ i, i < n → cs[i]? = some (.int .u8 ((l i).toNat : Int))) ∧ (cs.size ≤ mk.1 ∨ mk.2 = 0) ∧ n ≤ cs.size
theorem Wb.lt {w : World} {g n : Nat} {l : Nat → UInt8} (h : Wb w g n l) : g < w.heap.size := by
  obtain ⟨cs, mk, hb, -⟩ := h
  exact (Array.getElem?_eq_some_iff.1 hb).1
theorem Wb.cell {w : World} {g n : Nat} {l : Nat → UInt8} (h : Wb w g n l) {i : Nat} (hi : i < n) : w.cell? ⟨g, i, none⟩ = some (.int .u8 ((l i).toNat : Int)) := by
  obtain ⟨cs, mk, hb, hc, -⟩ := h
  simp [World.cell?, hb, hc i hi]
theorem Wb.frozen {w : World} {g n : Nat} {l : Nat → UInt8} (h : Wb w g n l) {i : Nat} (hi : i < n) : w.frozen? ⟨g, i, none⟩ = false := by
  obtain ⟨cs, mk, hb, hc, h1, h2⟩ := h
  simp only [World.frozen?, hb]
  rcases h1 with h1 | h1
  · have : ¬ mk.1 ≤ i := by omega
    simp [this]
  · simp [h1]
theorem Wb.same {w w' : World} {g n : Nat} {l : Nat → UInt8} (h : Wb w g n l) (hb : w'.heap[g]? = w.heap[g]?) : Wb w' g n l := by
  obtain ⟨cs, mk, h0, h1⟩ := h
  exact ⟨cs, mk, hb.trans h0, h1⟩
theorem Wb.fr {w w' : World} {S : List Nat} {g n : Nat} {l : Nat → UInt8} (h : Wb w g n l) (hf : Fr S w w') (hg : g ∉ S) : Wb w' g n l := h.same (hf.block g h.lt hg)
theorem Wb.not {w : World} {g n : Nat} {l : Nat → UInt8} (h : Wb w g n l) {t : TypeId} {cs : Array Value} (hb : Blk w g t cs) (ht : t ≠ 5) : False := by
  obtain ⟨cs', mk, h0, -⟩ := h
  unfold Blk at hb
  rw [h0] at hb
  injection hb with hb
  injection hb with h1 h2
  exact ht h2.symm
theorem Wb.set_ {w : World} {g n : Nat} {l : Nat → UInt8} (h : Wb w g n l) {o : Nat} (c : UInt8) : Wb (w.setCell ⟨g, o, none⟩ (.int .u8 (c.toNat : Int))) g n (upd l o c) := by
  obtain ⟨cs, mk, hb, hc, h1, h2⟩ := h
  refine ⟨cs.setIfInBounds o (.int .u8 (c.toNat : Int)), mk, ?_, fun i hi => ?_, by simpa using h1, by simpa using h2⟩
  · simp [World.setCell, Array.getElem?_modify, hb]
  · by_cases hio : i = o
    · subst hio
      rw [upd_same, Array.getElem?_setIfInBounds_self_of_lt (by omega)]
    · rw [upd_ne hio, Array.getElem?_setIfInBounds_ne (by omega)]
      exact hc i hi
theorem Wb.ext {w : World} {g n : Nat} {l l' : Nat → UInt8} (h : Wb w g n l) (he : ∀ i, i < n → l i = l' i) : Wb w g n l' := by
  obtain ⟨cs, mk, hb, hc, h1⟩ := h
  exact ⟨cs, mk, hb, fun i hi => by rw [← he i hi]; exact hc i hi, h1⟩
theorem Wb.of_blk {w : World} {g n : Nat} {l : Nat → UInt8} {cs : Array Value} (h : Blk w g 5 cs) (hn : n ≤ cs.size) (hc : ∀ i, i < n → cs[i]? = some (.int .u8 ((l i).toNat : Int))) : Wb w g n l := ⟨cs, (0, 0), h, hc, .inr rfl, hn⟩
/-- What '[]byte(s)' makes. -/
theorem Wb.made (w : World) (s : ByteArray) (C : Nat) (l : Nat → UInt8) (hl : ∀ i, i < s.size → s.data[i]? = some (l i)) : Wb (w.alloc (.cells (bytesRow s C) 5 ((bytesRow s C).size, (bytesRow s C).size + 1))) w.heap.size s.size l := by
  refine ⟨_, _, heap_alloc_new w _, fun i hi => ?_, .inl (Nat.le_refl _), by simp [bytesRow]⟩
  have hi' : i < s.data.size := hi
  have h1 := hl i hi
  unfold bytesRow
  rw [Array.getElem?_append_left (by simpa using hi'), Array.getElem?_map, h1]
  rfl
end Go.Proofs.Ythmnloapjdalpaa
