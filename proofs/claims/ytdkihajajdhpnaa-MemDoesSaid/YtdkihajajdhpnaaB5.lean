/- Rows of bytes made of texts, and a row of such rows. -/
import Derived.Test.YtdkihajajdhpnaaL4
import Derived.Laws.IdiomStrings
namespace Go.Proofs.Ytdkihajajdhpnaa
open Go.RowKit
set_option linter.unusedVariables false
set_option linter.unusedSimpArgs false
/-- Block g is bytes: the first n of them are those of l; it may be written there. -/
def Wb (w : World) (g n : Nat) (l : Nat → UInt8) : Prop := ∃ cs mk, w.heap[g]? = some (.cells cs 5 mk) ∧ (∀ i, i < n → cs[i]? = some (.int .u8 ((l i).toNat : Int))) ∧ cs.size ≤ mk.1 ∧ n ≤ cs.size
theorem Wb.lt {w : World} {g n : Nat} {l : Nat → UInt8} (h : Wb w g n l) : g < w.heap.size := by
  obtain ⟨cs, mk, hb, -⟩ := h
  exact (Array.getElem?_eq_some_iff.1 hb).1
theorem Wb.cell {w : World} {g n : Nat} {l : Nat → UInt8} (h : Wb w g n l) {i : Nat} (hi : i < n) : w.cell? ⟨g, i, none⟩ = some (.int .u8 ((l i).toNat : Int)) := by
  obtain ⟨cs, mk, hb, hc, -⟩ := h
  simp [World.cell?, hb, hc i hi]
theorem Wb.frozen {w : World} {g n : Nat} {l : Nat → UInt8} (h : Wb w g n l) {i : Nat} (hi : i < n) : w.frozen? ⟨g, i, none⟩ = false := by
  obtain ⟨cs, mk, hb, hc, h1, h2⟩ := h
  simp only [World.frozen?, hb]
  have : ¬ mk.1 ≤ i := by omega
  simp [this]
theorem Wb.same {w w' : World} {g n : Nat} {l : Nat → UInt8} (h : Wb w g n l) (hb : w'.heap[g]? = w.heap[g]?) : Wb w' g n l := by
  obtain ⟨cs, mk, h0, h1⟩ := h
  exact ⟨cs, mk, hb.trans h0, h1⟩
theorem Wb.fr {w w' : World} {S : List Nat} {g n : Nat} {l : Nat → UInt8} (h : Wb w g n l) (hf : Fr S w w') (hg : g ∉ S) : Wb w' g n l := h.same (hf.block g h.lt hg)
theorem Wb.not {w : World} {g n : Nat} {l : Nat → UInt8} (h : Wb w g n l) {t : TypeId} {cs : Array Value} (hb : Blk w g t cs) (ht : t ≠ 5) : False := by
  obtain ⟨cs', mk, h0, -⟩ := h
  unfold Blk at hb
  rw [h0] at hb
  injection hb with hb
  injection hb with h1 h2
  exact ht h2.symm
theorem Wb.set_ {w : World} {g n : Nat} {l : Nat → UInt8} (h : Wb w g n l) {o : Nat} (c : UInt8) : Wb (w.setCell ⟨g, o, none⟩ (.int .u8 (c.toNat : Int))) g n (upd l o c) := by
  obtain ⟨cs, mk, hb, hc, h1, h2⟩ := h
  refine ⟨cs.setIfInBounds o (.int .u8 (c.toNat : Int)), mk, ?_, fun i hi => ?_, by simpa using h1, by simpa using h2⟩
  · simp [World.setCell, Array.getElem?_modify, hb]
  · by_cases hio : i = o
    · subst hio
      rw [upd_same, Array.getElem?_setIfInBounds_self_of_lt (by omega)]
    · rw [upd_ne hio, Array.getElem?_setIfInBounds_ne (by omega)]
      exact hc i hi
theorem Wb.ext {w : World} {g n : Nat} {l l' : Nat → UInt8} (h : Wb w g n l) (he : ∀ i, i < n → l i = l' i) : Wb w g n l' := by
  obtain ⟨cs, mk, hb, hc, h1⟩ := h
  exact ⟨cs, mk, hb, fun i hi => by rw [← he i hi]; exact hc i hi, h1⟩
/-- What '[]byte(s)' makes. -/
theorem Wb.made (w : World) (s : ByteArray) (C : Nat) (l : Nat → UInt8) (hl : ∀ i, i < s.size → s.data[i]? = some (l i)) : Wb (w.alloc (.cells (bytesRow s C) 5 ((bytesRow s C).size, (bytesRow s C).size + 1))) w.heap.size s.size l := by
  refine ⟨_, _, heap_alloc_new w _, fun i hi => ?_, Nat.le_refl _, by simp [bytesRow]⟩
  have hi' : i < s.data.size := hi
  have h1 := hl i hi
  unfold bytesRow
  rw [Array.getElem?_append_left (by simpa using hi'), Array.getElem?_map, h1]
  rfl
/-- A slice of k slices of 256 bytes; b: the bytes, 256 a slice. -/
def WantS (w : World) (base : Nat) (v : Value) (k : Nat) (gs : List (Nat × Nat)) (b : Nat → UInt8) : Prop :=
  w.ownsRow base 42 1 v k (gs.map fun x => .slice (some ⟨x.1, 0, none⟩) 256 x.2) ∧ gs.length = k ∧ (∀ i x, gs[i]? = some x → base ≤ x.1 ∧ 256 ≤ x.2 ∧ x.2 ≤ maxLen ∧ Wb w x.1 256 (fun j => b (i * 256 + j))) ∧
    ∀ (i j : Nat) (x y : Nat × Nat), gs[i]? = some x → gs[j]? = some y → x.1 = y.1 → i = j
theorem WantS.fr {w w' : World} {base : Nat} {v : Value} {k : Nat} {gs : List (Nat × Nat)} {b : Nat → UInt8} (h : WantS w base v k gs b) (hf : Fr [] w w') : WantS w' base v k gs b :=
  ⟨own_fr h.1 hf (by simp), h.2.1, fun i x hx => by obtain ⟨h1, h2, h3, h4⟩ := h.2.2.1 i x hx; exact ⟨h1, h2, h3, h4.fr hf (by simp)⟩, h.2.2.2⟩
theorem WantS.push {w w2 w' : World} {base : Nat} {v v' : Value} {k g C : Nat} {gs : List (Nat × Nat)} {b : Nat → UInt8} (h : WantS w base v k gs b) (hf : Fr [] w w2) (hg : w.heap.size ≤ g) (hb : base ≤ w.heap.size)
    (hC : 256 ≤ C) (hC2 : C ≤ maxLen) (hn : Wb w2 g 256 (fun j => b (k * 256 + j))) (ho : w'.ownsRow base 42 1 v' (k + 1) ((gs.map fun x => .slice (some ⟨x.1, 0, none⟩) 256 x.2) ++ [.slice (some ⟨g, 0, none⟩) 256 C]))
    (hgr : w2.grownBy w' v.ownBlock) : WantS w' base v' (k + 1) (gs ++ [(g, C)]) b := by
  have h2 := h.fr hf
  have key : ∀ {g' n : Nat} {l : Nat → UInt8}, Wb w2 g' n l → Wb w' g' n l := fun {g' n l} hw => by
    refine hw.fr (Fr.of_own hgr) (fun hk => ?_)
    obtain ⟨_, cs, hB⟩ := own_blk h2.1 g' hk
    exact hw.not hB (t := 42) (by decide)
  refine ⟨by simpa using ho, by simp [h.2.1], fun i x hx => ?_, fun i j x y hx hy hxy => ?_⟩
  · rw [List.getElem?_append] at hx
    split at hx
    · obtain ⟨a1, a2, a3, a4⟩ := h2.2.2.1 i x hx
      exact ⟨a1, a2, a3, key a4⟩
    · have hi : i = gs.length := by
        have := (List.getElem?_eq_some_iff.1 hx).1
        simp at this
        omega
      subst hi
      simp at hx
      subst hx
      rw [h.2.1]
      exact ⟨by omega, hC, hC2, key hn⟩
  · have old : ∀ {i : Nat} {x : Nat × Nat}, gs[i]? = some x → x.1 < w.heap.size := fun {i x} hx => (h.2.2.1 i x hx).2.2.2.lt
    have far : ∀ {i : Nat} {x : Nat × Nat}, (gs ++ [(g, C)])[i]? = some x → (gs[i]? = some x) ∨ (i = gs.length ∧ x.1 = g) := fun {i x} hx => by
      rw [List.getElem?_append] at hx
      split at hx
      · exact .inl hx
      · have hi : i = gs.length := by
          have := (List.getElem?_eq_some_iff.1 hx).1
          simp at this
          omega
        subst hi
        simp at hx
        subst hx
        exact .inr ⟨rfl, rfl⟩
    rcases far hx with h1 | ⟨h1, e1⟩ <;> rcases far hy with h3 | ⟨h3, e3⟩
    · exact h.2.2.2 i j x y h1 h3 hxy
    · have := old h1; omega
    · have := old h3; omega
    · omega
theorem WantS.put {w : World} {base : Nat} {v : Value} {k f o : Nat} {x : Nat × Nat} {gs : List (Nat × Nat)} {b : Nat → UInt8} (h : WantS w base v k gs b) (hx : gs[f]? = some x) (ho : o < 256) (c : UInt8) :
    WantS (w.setCell ⟨x.1, o, none⟩ (.int .u8 (c.toNat : Int))) base v k gs (upd b (f * 256 + o) c) := by
  obtain ⟨hx1, hx2, hx3, hxw⟩ := h.2.2.1 f x hx
  have hf : Fr [x.1] w (w.setCell ⟨x.1, o, none⟩ (.int .u8 (c.toNat : Int))) := (Fr.refl [x.1] w).setCell (.inl (by simp)) _
  refine ⟨own_fr h.1 hf (fun k hk cs hB => ?_), h.2.1, fun i y hy => ?_, h.2.2.2⟩
  · simp at hk
    subst hk
    exact hxw.not hB (t := 42) (by decide)
  · obtain ⟨h1, h2, h3, h4⟩ := h.2.2.1 i y hy
    refine ⟨h1, h2, h3, ?_⟩
    by_cases hif : i = f
    · subst hif
      rw [hx] at hy
      injection hy with hy
      subst hy
      refine (hxw.set_ c).ext (fun j hj => ?_)
      by_cases hjo : j = o
      · subst hjo; rw [upd_same, upd_same]
      · rw [upd_ne hjo, upd_ne (by omega)]
    · have hne : y.1 ≠ x.1 := fun e => hif (h.2.2.2 i f y x hy hx e)
      refine (h4.fr hf (by simpa using hne)).ext (fun j hj => ?_)
      rw [upd_ne (by omega)]
theorem WantS.at_ {w : World} {base : Nat} {k f cw : Nat} {A : Option Addr} {x : Nat × Nat} {gs : List (Nat × Nat)} {b : Nat → UInt8} (h : WantS w base (.slice A k cw) k gs b) (hx : gs[f]? = some x) :
    ∃ gw, A = some ⟨gw, 0, none⟩ ∧ w.cell? ⟨gw, f, none⟩ = some (.slice (some ⟨x.1, 0, none⟩) 256 x.2) ∧ gw < w.heap.size := by
  have hfk : f < k := by have := (List.getElem?_eq_some_iff.1 hx).1; have := h.2.1; omega
  rcases h.1.2 with ⟨_, h2⟩ | ⟨g, cap, cur, hv, hb, hh, h3, h4, h5, h6⟩
  · omega
  · injection hv with hv _ _
    refine ⟨g, hv, ?_, (Array.getElem?_eq_some_iff.1 hh).1⟩
    have h7 : (cur.toList.take (k * 1))[f]? = some (.slice (some ⟨x.1, 0, none⟩) 256 x.2) := by rw [h6]; simp [hx]
    rw [List.getElem?_take, if_pos (by omega)] at h7
    rw [(show Blk w g 42 cur from hh).cell]
    simpa using h7
/-- The right to write, as Go text has it. -/
theorem wr_right {r : Int} (h0 : 0 ≤ r) (h7 : r ≤ 7) (h : bits .and .i64 r 2 ≠ 0) : ¬ r / 2 % 2 = 0 := by
  have hc : r = 0 ∨ r = 1 ∨ r = 2 ∨ r = 3 ∨ r = 4 ∨ r = 5 ∨ r = 6 ∨ r = 7 := by omega
  rcases hc with rfl | rfl | rfl | rfl | rfl | rfl | rfl | rfl
  · exact absurd (by kernel_rfl) h
  · exact absurd (by kernel_rfl) h
  · decide
  · decide
  · exact absurd (by kernel_rfl) h
  · exact absurd (by kernel_rfl) h
  · decide
  · decide
/-- What a byte that may be written tells of its address. -/
theorem ch1_wr {n : Nat} {t : List Pg} (hT : okT n t = true) {a : Int} (h : ch1 t 2 a = 0) : ∃ (q : Nat) (p : Pg), a = (q : Int) ∧ q < t.length * 256 ∧ t[q / 256]? = some p ∧ 0 ≤ p.f ∧ p.f < n ∧ 0 ≤ p.r ∧ p.r ≤ 7 ∧ ¬ p.r / 2 % 2 = 0 ∧ loc t a = p.f.toNat * 256 + q % 256 := by
  by_cases h0 : a < 0
  · rw [ch1_neg h0] at h; omega
  · obtain ⟨q, rfl⟩ := Int.eq_ofNat_of_zero_le (by omega : 0 ≤ a)
    by_cases hl : t.length * 256 ≤ q
    · rw [ch1_far hl] at h; omega
    · obtain ⟨p, hp⟩ : ∃ p, t[q / 256]? = some p := ⟨_, List.getElem?_eq_getElem (by omega)⟩
      have h2 := okT_at hT hp
      rw [ch1_at hp] at h
      by_cases hf : p.f < 0
      · rw [if_pos hf] at h; omega
      · rw [if_neg hf] at h
        by_cases hr : bits .and .i64 p.r 2 = 0
        · rw [if_pos hr] at h; omega
        · exact ⟨q, p, rfl, by omega, hp, by omega, h2.2.1, h2.2.2.1, h2.2.2.2.1, wr_right h2.2.2.1 h2.2.2.2.1 hr, loc_at hp⟩
/-- Of a write that is not refused. -/
theorem wr_done {st : St} {t : List Pg} {a : Int} {s : ByteArray} (h : wrE st t a s = 0) : okT st.n t = true ∧ s.size ≤ 4096 ∧ (∀ i, i < s.size → ch1 t 2 (a + (i : Nat)) = 0) ∧ wrS st t a s = ⟨st.n, wrB t st.b a s.data.toList⟩ := by
  have h0 := h
  unfold wrE at h
  cases hT : okT st.n t with
  | false => rw [if_pos hT] at h; omega
  | true =>
    rw [if_neg (by rw [hT]; simp)] at h
    by_cases hs : 4096 < s.size
    · rw [if_pos hs] at h; omega
    · rw [if_neg hs] at h
      refine ⟨rfl, by omega, thr_of_zero h, ?_⟩
      unfold wrS
      rw [if_pos h0]
theorem wrB_take {t : List Pg} {b : Nat → UInt8} {a : Int} {s : ByteArray} {i : Nat} (hi : i < s.size) : wrB t b a (s.data.toList.take (i + 1)) = upd (wrB t b a (s.data.toList.take i)) (loc t (a + (i : Int))) (s.data[i]'hi) := by
  have hl : i < s.data.toList.length := by simpa using hi
  rw [List.take_succ_eq_append_getElem hl, wrB_snoc, List.length_take, Nat.min_eq_left (by omega)]
  rfl
theorem MemAt.noTxt {w : World} {p F : Nat} {st : St} (h : MemAt w p F st) : ∀ cs, ¬ Blk w F 9 cs := by
  obtain ⟨hd, cs, hb, hc⟩ := h
  intro cs' hb'
  exact absurd (hb.eq hb').1 (by decide)
end Go.Proofs.Ytdkihajajdhpnaa
