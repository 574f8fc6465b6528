/- SchedTables: what its loops keep. -/
import Derived.Test.YtnpdljmgjpngaaaT4
namespace Go.Proofs.Ytnpdljmgjpngaaa
open Go.RowKit
set_option linter.unusedVariables false
set_option linter.unusedSimpArgs false

abbrev PR (p : Nat) : Value := .pointer (some ⟨p, 0, none⟩)
theorem TabAt.bp {w : World} {p g : Nat} {s : List (Bool × Int)} (h : TabAt w p g s) : ∃ a, Blk w p 78 a := by obtain ⟨cap, cs, h1, h2, -⟩ := h; exact ⟨_, h1⟩
theorem TabAt.bg {w : World} {p g : Nat} {s : List (Bool × Int)} (h : TabAt w p g s) : ∃ a, Blk w g 81 a := by obtain ⟨cap, cs, h1, h2, -⟩ := h; exact ⟨_, h2⟩
theorem ne_of_blk {w : World} {a b : Nat} {t t' : TypeId} (h : ∃ x, Blk w a t x) (h' : ∃ x, Blk w b t' x) (hne : t ≠ t') : a ≠ b := by
  obtain ⟨x, hx⟩ := h
  obtain ⟨y, hy⟩ := h'
  exact hx.ne_ hy hne

structure TI (w : World) (m : Nat) (ps : List (Nat × Nat)) (qs : List (Nat × Nat × Nat)) (sp sq : List (List (Bool × Int))) (k : Nat) (xv yv : Value) (W : World) : Prop where
  lp : ps.length = sp.length
  lq : qs.length = sq.length
  pos : 0 < sp.length
  lN : sp.length ≤ k + 1 ∧ sq.length ≤ k + 1
  hp : ∀ (i : Nat) (x : Nat × Nat) (s : List (Bool × Int)), ps[i]? = some x → sp[i]? = some s → TabAt W x.1 x.2 s
  hq : ∀ (i : Nat) (y : Nat × Nat × Nat) (s : List (Bool × Int)), qs[i]? = some y → sq[i]? = some s → RTab W y.1 y.2.1 y.2.2 s
  np : ∀ (i j : Nat) (x x' : Nat × Nat), i ≠ j → ps[i]? = some x → ps[j]? = some x' → x.2 ≠ x'.2
  nq : ∀ (i j : Nat) (y y' : Nat × Nat × Nat), i ≠ j → qs[i]? = some y → qs[j]? = some y' → y.2.1 ≠ y'.2.1 ∧ y.2.2 ≠ y'.2.2
  lnp : ∀ s, s ∈ sp → s.length = m ∧ Bd k s
  lnq : ∀ s, s ∈ sq → s.length = m ∧ Bd k s
  ox : W.ownsRow w.heap.size 43 1 xv ps.length (ps.map fun x => PR x.1)
  oy : W.ownsRow w.heap.size 54 1 yv qs.length (qs.map fun y => PR y.1)
  gp : ∀ x, x ∈ ps → w.heap.size ≤ x.2
  gq : ∀ y, y ∈ qs → w.heap.size ≤ y.2.1 ∧ w.heap.size ≤ y.2.2
  fr : Fr [] w W
section
variable {w W W' : World} {m k : Nat} {ps : List (Nat × Nat)} {qs : List (Nat × Nat × Nat)} {sp sq : List (List (Bool × Int))} {xv yv xv' yv' : Value} {S : List Nat}
theorem TI.mono (H : TI w m ps qs sp sq k xv yv W) {k' : Nat} (h : k ≤ k') : TI w m ps qs sp sq k' xv yv W :=
  ⟨H.lp, H.lq, H.pos, by have := H.lN; omega, H.hp, H.hq, H.np, H.nq, fun s hs => ⟨(H.lnp s hs).1, (H.lnp s hs).2.mono h⟩, fun s hs => ⟨(H.lnq s hs).1, (H.lnq s hs).2.mono h⟩, H.ox, H.oy, H.gp, H.gq, H.fr⟩
theorem TI.drewN (H : TI w m ps qs sp sq k xv yv W) (n : Nat) : TI w m ps qs sp sq k xv yv (W.drewN n) :=
  ⟨H.lp, H.lq, H.pos, H.lN, H.hp, H.hq, H.np, H.nq, H.lnp, H.lnq, H.ox, H.oy, H.gp, H.gq, H.fr.drewN n⟩
theorem TI.drew (H : TI w m ps qs sp sq k xv yv W) : TI w m ps qs sp sq k xv yv W.drew :=
  ⟨H.lp, H.lq, H.pos, H.lN, H.hp, H.hq, H.np, H.nq, H.lnp, H.lnq, H.ox, H.oy, H.gp, H.gq, H.fr.drew⟩
theorem TI.some_p (H : TI w m ps qs sp sq k xv yv W) {i : Nat} {x : Nat × Nat} (h : ps[i]? = some x) : ∃ s, sp[i]? = some s ∧ TabAt W x.1 x.2 s := by
  have : i < sp.length := by have := (List.getElem?_eq_some_iff.1 h).1; have := H.lp; omega
  exact ⟨sp[i], List.getElem?_eq_getElem this, H.hp i x _ h (List.getElem?_eq_getElem this)⟩
theorem TI.some_q (H : TI w m ps qs sp sq k xv yv W) {i : Nat} {y : Nat × Nat × Nat} (h : qs[i]? = some y) : ∃ s, sq[i]? = some s ∧ RTab W y.1 y.2.1 y.2.2 s := by
  have : i < sq.length := by have := (List.getElem?_eq_some_iff.1 h).1; have := H.lq; omega
  exact ⟨sq[i], List.getElem?_eq_getElem this, H.hq i y _ h (List.getElem?_eq_getElem this)⟩
/-- Nothing but blocks of pointers has turned. -/
theorem TI.frP (H : TI w m ps qs sp sq k xv yv W) (hf : Fr S W W') (hS : ∀ b, b ∈ S → (∃ x, Blk W b 43 x) ∨ ∃ x, Blk W b 54 x) :
    (∀ (i : Nat) (x : Nat × Nat) (s : List (Bool × Int)), ps[i]? = some x → sp[i]? = some s → TabAt W' x.1 x.2 s) ∧ (∀ (i : Nat) (y : Nat × Nat × Nat) (s : List (Bool × Int)), qs[i]? = some y → sq[i]? = some s → RTab W' y.1 y.2.1 y.2.2 s) := by
  have out : ∀ b t, (∃ x, Blk W b t x) → t ≠ 43 → t ≠ 54 → b ∉ S := fun b t hb h1 h2 hm => by
    rcases hS b hm with h | h
    · exact ne_of_blk hb h h1 rfl
    · exact ne_of_blk hb h h2 rfl
  refine ⟨fun i x s hx hs => ?_, fun i y s hy hs => ?_⟩
  · have h := H.hp i x s hx hs
    exact h.fr hf (out _ 78 h.bp (by decide) (by decide)) (out _ 81 h.bg (by decide) (by decide))
  · have h := H.hq i y s hy hs
    exact h.fr hf (out _ 85 h.bq (by decide) (by decide)) (out _ 4 h.bg (by decide) (by decide)) (out _ 3 h.bh (by decide) (by decide))
theorem TI.al (H : TI w m ps qs sp sq k xv yv W) (hf : Fr [] W W') : TI w m ps qs sp sq k xv yv W' :=
  have h := H.frP hf (by simp)
  ⟨H.lp, H.lq, H.pos, H.lN, h.1, h.2, H.np, H.nq, H.lnp, H.lnq, own_fr H.ox hf (by simp), own_fr H.oy hf (by simp), H.gp, H.gq, H.fr.trans hf⟩
theorem TI.setP (H : TI w m ps qs sp sq k xv yv W) {j : Nat} {x : Nat × Nat} {s s' : List (Bool × Int)} (hx : ps[j]? = some x) (hs : sp[j]? = some s) (hT : TabAt W' x.1 x.2 s') (hf : Fr [x.2] W W') (hl : s'.length = s.length) (hb : Bd k s') : TI w m ps qs (sp.set j s') sq k xv yv W' := by
  have h81 := (H.hp j x s hx hs).bg
  refine ⟨by simp [H.lp], H.lq, by simp [H.pos], by simpa using H.lN, fun i x' t hx' ht => ?_, fun i y t hy ht => ?_, H.np, H.nq, fun t ht => ?_, H.lnq, own_fr H.ox hf (fun b hb' cs hc => ?_), own_fr H.oy hf (fun b hb' cs hc => ?_), H.gp, H.gq, H.fr.step hf (by simp; exact H.gp x (List.mem_of_getElem? hx))⟩
  · rw [List.getElem?_set] at ht
    by_cases hij : j = i
    · subst hij
      rw [if_pos rfl] at ht
      split at ht
      · injection ht with ht
        subst ht
        rw [hx] at hx'
        injection hx' with hx'
        subst hx'
        exact hT
      · cases ht
    · rw [if_neg hij] at ht
      have h := H.hp i x' t hx' ht
      exact h.fr hf (by simp; exact ne_of_blk h.bp h81 (by decide)) (by simp; exact H.np i j x' x (fun e => hij e.symm) hx' hx)
  · have h := H.hq i y t hy ht
    exact h.fr hf (by simp; exact ne_of_blk h.bq h81 (by decide)) (by simp; exact ne_of_blk h.bg h81 (by decide)) (by simp; exact ne_of_blk h.bh h81 (by decide))
  · rcases List.mem_or_eq_of_mem_set ht with h1 | h1
    · exact H.lnp t h1
    · subst h1; exact ⟨by rw [hl]; exact (H.lnp s (List.mem_of_getElem? hs)).1, hb⟩
  · simp at hb'; subst hb'; exact ne_of_blk h81 ⟨cs, hc⟩ (by decide) rfl
  · simp at hb'; subst hb'; exact ne_of_blk h81 ⟨cs, hc⟩ (by decide) rfl
theorem TI.setQ (H : TI w m ps qs sp sq k xv yv W) {j : Nat} {y : Nat × Nat × Nat} {s s' : List (Bool × Int)} (hy : qs[j]? = some y) (hs : sq[j]? = some s) (hT : RTab W' y.1 y.2.1 y.2.2 s') (hf : Fr [y.2.1, y.2.2] W W') (hl : s'.length = s.length) (hb : Bd k s') : TI w m ps qs sp (sq.set j s') k xv yv W' := by
  have h4 := (H.hq j y s hy hs).bg
  have h3 := (H.hq j y s hy hs).bh
  have hgq := H.gq y (List.mem_of_getElem? hy)
  refine ⟨H.lp, by simp [H.lq], H.pos, by simpa using H.lN, fun i x t hx ht => ?_, fun i y' t hy' ht => ?_, H.np, H.nq, H.lnp, fun t ht => ?_, own_fr H.ox hf (fun b hb' cs hc => ?_), own_fr H.oy hf (fun b hb' cs hc => ?_), H.gp, H.gq, H.fr.step hf (by simp; omega)⟩
  · have h := H.hp i x t hx ht
    exact h.fr hf (by simp; exact ⟨ne_of_blk h.bp h4 (by decide), ne_of_blk h.bp h3 (by decide)⟩) (by simp; exact ⟨ne_of_blk h.bg h4 (by decide), ne_of_blk h.bg h3 (by decide)⟩)
  · rw [List.getElem?_set] at ht
    by_cases hij : j = i
    · subst hij
      rw [if_pos rfl] at ht
      split at ht
      · injection ht with ht
        subst ht
        rw [hy] at hy'
        injection hy' with hy'
        subst hy'
        exact hT
      · cases ht
    · rw [if_neg hij] at ht
      have h := H.hq i y' t hy' ht
      have hn := H.nq i j y' y (fun e => hij e.symm) hy' hy
      exact h.fr hf (by simp; exact ⟨ne_of_blk h.bq h4 (by decide), ne_of_blk h.bq h3 (by decide)⟩) (by simp; exact ⟨hn.1, ne_of_blk h.bg h3 (by decide)⟩) (by simp; exact ⟨ne_of_blk h.bh h4 (by decide), hn.2⟩)
  · rcases List.mem_or_eq_of_mem_set ht with h1 | h1
    · exact H.lnq t h1
    · subst h1; exact ⟨by rw [hl]; exact (H.lnq s (List.mem_of_getElem? hs)).1, hb⟩
  · simp at hb'; rcases hb' with rfl | rfl
    · exact ne_of_blk h4 ⟨cs, hc⟩ (by decide) rfl
    · exact ne_of_blk h3 ⟨cs, hc⟩ (by decide) rfl
  · simp at hb'; rcases hb' with rfl | rfl
    · exact ne_of_blk h4 ⟨cs, hc⟩ (by decide) rfl
    · exact ne_of_blk h3 ⟨cs, hc⟩ (by decide) rfl
theorem pair_push {α : Type} {l : List α} {a : α} {P : α → α → Prop} (sym : ∀ a b, P a b → P b a) (h : ∀ (i j : Nat) (x x' : α), i ≠ j → l[i]? = some x → l[j]? = some x' → P x x') (hn : ∀ x, x ∈ l → P x a) :
    ∀ (i j : Nat) (x x' : α), i ≠ j → (l ++ [a])[i]? = some x → (l ++ [a])[j]? = some x' → P x x' := by
  intro i j x x' hij hx hx'
  rw [List.getElem?_append] at hx hx'
  by_cases h1 : i < l.length
  · rw [if_pos h1] at hx
    by_cases h2 : j < l.length
    · rw [if_pos h2] at hx'
      exact h i j x x' hij hx hx'
    · rw [if_neg h2] at hx'
      have : x' = a := by
        cases hd : j - l.length with
        | zero => rw [hd] at hx'; simp at hx'; exact hx'.symm
        | succ d => rw [hd] at hx'; simp at hx'
      subst this
      exact hn x (List.mem_of_getElem? hx)
  · rw [if_neg h1] at hx
    have e1 : x = a := by
      cases hd : i - l.length with
      | zero => rw [hd] at hx; simp at hx; exact hx.symm
      | succ d => rw [hd] at hx; simp at hx
    by_cases h2 : j < l.length
    · rw [if_pos h2] at hx'
      subst e1
      exact sym _ _ (hn x' (List.mem_of_getElem? hx'))
    · rw [if_neg h2] at hx'
      have d1 : i - l.length = 0 := by
        cases hd : i - l.length with
        | zero => rfl
        | succ d => rw [hd] at hx; simp at hx
      have d2 : j - l.length = 0 := by
        cases hd : j - l.length with
        | zero => rfl
        | succ d => rw [hd] at hx'; simp at hx'
      omega
theorem get_push {α β : Type} {l : List α} {r : List β} {a : α} {b : β} {P : α → β → Prop} (hl : l.length = r.length) (h : ∀ (i : Nat) (x : α) (y : β), l[i]? = some x → r[i]? = some y → P x y) (hn : P a b) :
    ∀ (i : Nat) (x : α) (y : β), (l ++ [a])[i]? = some x → (r ++ [b])[i]? = some y → P x y := by
  intro i x y hx hy
  rw [List.getElem?_append] at hx hy
  by_cases h1 : i < l.length
  · rw [if_pos h1] at hx
    rw [if_pos (by omega)] at hy
    exact h i x y hx hy
  · rw [if_neg h1] at hx
    rw [if_neg (by omega)] at hy
    rw [hl] at hx
    cases hd : i - r.length with
    | zero => rw [hd] at hx hy; simp at hx hy; subst hx; subst hy; exact hn
    | succ d => rw [hd] at hx; simp at hx
theorem TI.ltp (H : TI w m ps qs sp sq k xv yv W) {x : Nat × Nat} (h : x ∈ ps) : x.2 < W.heap.size := by
  obtain ⟨i, hi⟩ := List.getElem?_of_mem h
  obtain ⟨s, _, hT⟩ := H.some_p hi
  exact hT.lt.2
theorem TI.ltq (H : TI w m ps qs sp sq k xv yv W) {y : Nat × Nat × Nat} (h : y ∈ qs) : y.2.1 < W.heap.size ∧ y.2.2 < W.heap.size := by
  obtain ⟨i, hi⟩ := List.getElem?_of_mem h
  obtain ⟨s, _, hT⟩ := H.some_q hi
  exact ⟨hT.lt.2.1, hT.lt.2.2⟩
/-- A clone is put behind the program's tables: w0, where the clone was begun; its pointer's block alloced; the row grown. -/
theorem TI.pushP (H : TI w m ps qs sp sq k xv yv W) {W1 W2 : World} {j p g n : Nat} {s : List (Bool × Int)} {o : Obj} {xs : List Value} (hs : sp[j]? = some s) (hT : TabAt W1 p g s) (hf : Fr [] W W1) (hg : W.heap.size ≤ g)
    (hox : (W1.alloc o).ownsRow w.heap.size 43 1 xv n xs) (hgr : (W1.alloc o).grownBy W2 xv.ownBlock) (hoy : W2.ownsRow w.heap.size 43 1 xv' (ps.length + 1) (ps.map (fun x => PR x.1) ++ [PR p])) (hlen : sp.length + 1 ≤ k + 1) :
    TI w m (ps ++ [(p, g)]) qs (sp ++ [s]) sq k xv' yv W2 := by
  have HA := H.al (hf.alloc o)
  have hno : ∀ i, i ∈ xv.ownBlock.toList → ∃ cs, Blk (W1.alloc o) i 43 cs := fun i hi => by have := own_blk hox i hi; exact this.2
  have hfo := Fr.of_own hgr
  have hF := HA.frP hfo (fun b hb => .inl (hno b hb))
  have hTA := hT.fr ((Fr.refl [] W1).alloc o) (by simp) (by simp)
  have hT2 : TabAt W2 p g s := hTA.fr hfo (fun hm => ne_of_blk hTA.bp (hno _ hm) (by decide) rfl) (fun hm => ne_of_blk hTA.bg (hno _ hm) (by decide) rfl)
  have hsm := List.mem_of_getElem? hs
  have hsz := H.fr.size
  refine ⟨by simp [H.lp], H.lq, by simp, ⟨by simpa using hlen, H.lN.2⟩, ?_, hF.2, ?_, H.nq, ?_, H.lnq, by simpa using hoy, own_fr HA.oy hfo (fun i hi cs hc => ne_of_blk (hno i hi) ⟨cs, hc⟩ (by decide) rfl), ?_, H.gq, HA.fr.own hox hgr⟩
  · exact get_push (P := fun (x : Nat × Nat) t => TabAt W2 x.1 x.2 t) (a := (p, g)) (b := s) H.lp hF.1 hT2
  · exact pair_push (P := fun (x x' : Nat × Nat) => x.2 ≠ x'.2) (a := (p, g)) (fun a b h e => h e.symm) H.np (fun x hx => by have := H.ltp hx; show x.2 ≠ g; omega)
  · intro t ht
    simp at ht
    rcases ht with ht | rfl
    · exact H.lnp t ht
    · exact H.lnp t hsm
  · intro x hx
    simp at hx
    rcases hx with hx | rfl
    · exact H.gp x hx
    · show w.heap.size ≤ g; omega
theorem TI.pushQ (H : TI w m ps qs sp sq k xv yv W) {W1 W2 : World} {j q g h n : Nat} {s : List (Bool × Int)} {o : Obj} {xs : List Value} (hs : sq[j]? = some s) (hT : RTab W1 q g h s) (hf : Fr [] W W1) (hg : W.heap.size ≤ g) (hh : W.heap.size ≤ h)
    (hoy : (W1.alloc o).ownsRow w.heap.size 54 1 yv n xs) (hgr : (W1.alloc o).grownBy W2 yv.ownBlock) (hox : W2.ownsRow w.heap.size 54 1 yv' (qs.length + 1) (qs.map (fun y => PR y.1) ++ [PR q])) (hlen : sq.length + 1 ≤ k + 1) :
    TI w m ps (qs ++ [(q, g, h)]) sp (sq ++ [s]) k xv yv' W2 := by
  have HA := H.al (hf.alloc o)
  have hno : ∀ i, i ∈ yv.ownBlock.toList → ∃ cs, Blk (W1.alloc o) i 54 cs := fun i hi => by have := own_blk hoy i hi; exact this.2
  have hfo := Fr.of_own hgr
  have hF := HA.frP hfo (fun b hb => .inr (hno b hb))
  have hTA := hT.fr ((Fr.refl [] W1).alloc o) (by simp) (by simp) (by simp)
  have hT2 : RTab W2 q g h s := hTA.fr hfo (fun hm => ne_of_blk hTA.bq (hno _ hm) (by decide) rfl) (fun hm => ne_of_blk hTA.bg (hno _ hm) (by decide) rfl) (fun hm => ne_of_blk hTA.bh (hno _ hm) (by decide) rfl)
  have hsm := List.mem_of_getElem? hs
  have hsz := H.fr.size
  refine ⟨H.lp, by simp [H.lq], H.pos, ⟨H.lN.1, by simpa using hlen⟩, hF.1, ?_, H.np, ?_, H.lnp, ?_, own_fr HA.ox hfo (fun i hi cs hc => ne_of_blk (hno i hi) ⟨cs, hc⟩ (by decide) rfl), by simpa using hox, H.gp, ?_, HA.fr.own hoy hgr⟩
  · exact get_push (P := fun (y : Nat × Nat × Nat) t => RTab W2 y.1 y.2.1 y.2.2 t) (a := (q, g, h)) (b := s) H.lq hF.2 hT2
  · exact pair_push (P := fun (y y' : Nat × Nat × Nat) => y.2.1 ≠ y'.2.1 ∧ y.2.2 ≠ y'.2.2) (a := (q, g, h)) (fun a b h => ⟨fun e => h.1 e.symm, fun e => h.2 e.symm⟩) H.nq (fun y hy => by have := H.ltq hy; exact ⟨by show y.2.1 ≠ g; omega, by show y.2.2 ≠ h; omega⟩)
  · intro t ht
    simp at ht
    rcases ht with ht | rfl
    · exact H.lnq t ht
    · exact H.lnq t hsm
  · intro y hy
    simp at hy
    rcases hy with hy | rfl
    · exact H.gq y hy
    · exact ⟨by show w.heap.size ≤ g; omega, by show w.heap.size ≤ h; omega⟩
theorem TI.cellX (H : TI w m ps qs sp sq k xv yv W) {j : Nat} {x : Nat × Nat} (hj : ps[j]? = some x) : ∃ g cap, xv = .slice (some ⟨g, 0, none⟩) ps.length cap ∧ W.cell? ⟨g, j, none⟩ = some (PR x.1) ∧ ∃ cs, Blk W g 43 cs := by
  rcases H.ox.2 with ⟨_, h2⟩ | ⟨g, cap, cur, rfl, _, hh, _⟩
  · have := (List.getElem?_eq_some_iff.1 hj).1; omega
  · refine ⟨g, cap, rfl, ?_, cur, hh⟩
    have := H.ox.cells (g := g) rfl j (PR x.1) (by simp [hj])
    rwa [addr_add, Nat.zero_add] at this
theorem TI.cellY (H : TI w m ps qs sp sq k xv yv W) {j : Nat} {y : Nat × Nat × Nat} (hj : qs[j]? = some y) : ∃ g cap, yv = .slice (some ⟨g, 0, none⟩) qs.length cap ∧ W.cell? ⟨g, j, none⟩ = some (PR y.1) ∧ ∃ cs, Blk W g 54 cs := by
  rcases H.oy.2 with ⟨_, h2⟩ | ⟨g, cap, cur, rfl, _, hh, _⟩
  · have := (List.getElem?_eq_some_iff.1 hj).1; omega
  · refine ⟨g, cap, rfl, ?_, cur, hh⟩
    have := H.oy.cells (g := g) rfl j (PR y.1) (by simp [hj])
    rwa [addr_add, Nat.zero_add] at this
end
end Go.Proofs.Ytnpdljmgjpngaaa
