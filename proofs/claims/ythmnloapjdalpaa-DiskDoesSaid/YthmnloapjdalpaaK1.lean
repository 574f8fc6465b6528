/- The reference's disk (castellanref07): a row of sectors, in plain words and in memory; choice, Copy, Read, goes, Revive, Arm. -/
import Derived.Test.YthmnloapjdalpaaL7
namespace Go.Proofs.Ythmnloapjdalpaa
open Go.RowKit
set_option linter.unusedVariables false
set_option linter.unusedSimpArgs false
/-- A sector, as the document has it. -/
structure One where
  sf : ByteArray
  wr : ByteArray
  un : Bool
abbrev oc0 (k : One) : Value := .string k.sf
abbrev oc1 (k : One) : Value := .string k.wr
abbrev oc2 (k : One) : Value := .bool k.un
def oc (k : One) : List Value := [.string k.sf, .string k.wr, .bool k.un]
def ocs (l : List One) : List Value := l.flatMap oc
theorem ocs_len (l : List One) : (ocs l).length = l.length * 3 := by
  unfold ocs
  induction l with
  | nil => rfl
  | cons a l ih => rw [List.flatMap_cons, List.length_append, ih, List.length_cons]; simp [oc]; omega
theorem ocs_get : ∀ (l : List One) (j : Nat) (k : One), l[j]? = some k → (ocs l)[j * 3]? = some (oc0 k) ∧ (ocs l)[j * 3 + 1]? = some (oc1 k) ∧ (ocs l)[j * 3 + 2]? = some (oc2 k)
  | [], j, k, h => by simp at h
  | a :: l, 0, k, h => by
    injection h with h
    subst h
    exact ⟨rfl, rfl, rfl⟩
  | a :: l, j + 1, k, h => by
    obtain ⟨h1, h2, h3⟩ := ocs_get l j k h
    have e : ocs (a :: l) = oc a ++ ocs l := rfl
    have el : (oc a).length = 3 := rfl
    rw [e]
    refine ⟨?_, ?_, ?_⟩
    · rw [List.getElem?_append_right (by rw [el]; omega), el, show (j + 1) * 3 - 3 = j * 3 by omega]; exact h1
    · rw [List.getElem?_append_right (by rw [el]; omega), el, show (j + 1) * 3 + 1 - 3 = j * 3 + 1 by omega]; exact h2
    · rw [List.getElem?_append_right (by rw [el]; omega), el, show (j + 1) * 3 + 2 - 3 = j * 3 + 2 by omega]; exact h3
theorem ocs_one (l : List One) : ∀ u ∈ ocs l, u.oneCell' = true := by
  intro u hu
  unfold ocs at hu
  obtain ⟨k, -, hk⟩ := List.mem_flatMap.1 hu
  simp [oc] at hk
  rcases hk with rfl | rfl | rfl <;> rfl
theorem ocs_app (l m : List One) : ocs (l ++ m) = ocs l ++ ocs m := by simp [ocs]
/-- Blocks of S hold no sectors. -/
def NoO (w : World) (S : List Nat) : Prop := ∀ k, k ∈ S → ∀ cs mk, w.heap[k]? ≠ some (.cells cs 129 mk)
theorem NoO.nil (w : World) : NoO w [] := fun k hk => by cases hk
theorem Blk.noO {w : World} {k : Nat} {t : TypeId} {cs : Array Value} (h : Blk w k t cs) (ht : t ≠ 129) : NoO w [k] := by
  intro j hj cs' mk he
  simp at hj
  subst hj
  unfold Blk at h
  rw [h] at he
  injection he with he
  injection he with _ he _
  exact ht he
/-- A slice of sectors. -/
def OS (w : World) (v : Value) (l : List One) : Prop :=
  ∃ A cap, v = .slice A l.length cap ∧ l.length ≤ cap ∧ cap ≤ maxLen ∧ (A = none → l = []) ∧
    (l = [] ∨ ∃ q o cs mk, A = some ⟨q, o, none⟩ ∧ w.heap[q]? = some (.cells cs 129 mk) ∧ ∀ (j : Nat) (k : One), l[j]? = some k → cs[o + j * 3]? = some (oc0 k) ∧ cs[o + j * 3 + 1]? = some (oc1 k) ∧ cs[o + j * 3 + 2]? = some (oc2 k))
theorem OS.nil (w : World) : OS w (.slice none 0 0) [] := ⟨none, 0, rfl, Nat.le_refl _, Nat.zero_le _, fun _ => rfl, .inl rfl⟩
theorem OS.fr {w w' : World} {v : Value} {l : List One} {S : List Nat} (h : OS w v l) (hf : Fr S w w') (hz : NoO w S) : OS w' v l := by
  obtain ⟨A, cap, h1, h2, h3, h4, h5⟩ := h
  refine ⟨A, cap, h1, h2, h3, h4, ?_⟩
  rcases h5 with h5 | ⟨q, o, cs, mk, h5, h6, h7⟩
  · exact .inl h5
  · exact .inr ⟨q, o, cs, mk, h5, (hf.block q (Array.getElem?_eq_some_iff.1 h6).1 (fun hq => hz q hq cs mk h6)).trans h6, h7⟩
theorem OS.form {w : World} {v : Value} {l : List One} (h : OS w v l) : ∃ A cap, v = .slice A l.length cap ∧ l.length ≤ cap ∧ cap ≤ maxLen := by
  obtain ⟨A, cap, h1, h2, h3, -⟩ := h
  exact ⟨A, cap, h1, h2, h3⟩
theorem OS.cell {w : World} {A : Option Addr} {n cap : Nat} {l : List One} (h : OS w (.slice A n cap) l) {j : Nat} {k : One} (hj : l[j]? = some k) :
    ∃ q o, A = some ⟨q, o, none⟩ ∧ q < w.heap.size ∧ w.cell? ⟨q, o + j * 3, none⟩ = some (oc0 k) ∧ w.cell? ⟨q, o + j * 3 + 1, none⟩ = some (oc1 k) ∧ w.cell? ⟨q, o + j * 3 + 2, none⟩ = some (oc2 k) := by
  obtain ⟨A', cap', h1, h2, h3, h4, h5⟩ := h
  injection h1 with hA _ _
  rcases h5 with rfl | ⟨q, o, cs, mk, h5, h6, h7⟩
  · simp at hj
  · obtain ⟨c0, c1, c2⟩ := h7 j k hj
    exact ⟨q, o, hA.trans h5, (Array.getElem?_eq_some_iff.1 h6).1, by simp [World.cell?, h6, c0], by simp [World.cell?, h6, c1], by simp [World.cell?, h6, c2]⟩
theorem OS.news {w : World} {ad : Addr} {n cap : Nat} {l : List One} (h : OS w (.slice (some ad) n cap) l) : ∀ (j : Nat) (u : Value), (ocs l)[j]? = some u → w.cell? (ad.add j) = some u := by
  intro j u hu
  have hj : j < l.length * 3 := by
    have := (List.getElem?_eq_some_iff.1 hu).1
    rwa [ocs_len] at this
  have hx : l[j / 3]? = some (l[j / 3]'(by omega)) := List.getElem?_eq_getElem (by omega)
  obtain ⟨q, o, ha, hq, c0, c1, c2⟩ := h.cell hx
  obtain ⟨k0, k1, k2⟩ := ocs_get l _ _ hx
  injection ha with ha
  subst ha
  rw [addr_add]
  have h3 : j = j / 3 * 3 ∨ j = j / 3 * 3 + 1 ∨ j = j / 3 * 3 + 2 := by omega
  rcases h3 with e | e | e
  · rw [← e] at k0 c0
    rw [k0] at hu
    injection hu with hu
    rw [← hu]
    exact c0
  · rw [← e] at k1
    rw [k1] at hu
    injection hu with hu
    rw [← hu]
    rw [show o + j = o + j / 3 * 3 + 1 by omega]
    exact c1
  · rw [← e] at k2
    rw [k2] at hu
    injection hu with hu
    rw [← hu]
    rw [show o + j = o + j / 3 * 3 + 2 by omega]
    exact c2
theorem Try.info129 : (Try.prog.info? 129).map (fun i => (i.zero, i.size, i.bytes)) = some (some (.agg #[.string ⟨#[]⟩, .string ⟨#[]⟩, .bool false]), 3, 40) := by kernel_rfl
/-- Sectors in memory of one's own. -/
def OOwn (B : Nat) (w : World) (v : Value) (l : List One) : Prop := w.ownsRow B 129 3 v l.length (ocs l)
theorem OOwn.shape {B : Nat} {w : World} {v : Value} {l : List One} (h : OOwn B w v l) : ∃ A cap, v = .slice A l.length cap := own_shape h
theorem OOwn.kept {B : Nat} {w w' : World} {v : Value} {l : List One} (h : OOwn B w v l) (hf : Fr [] w w') : OOwn B w' v l := by
  rcases h with ⟨h0, h1⟩
  refine ⟨h0, ?_⟩
  rcases h1 with h1 | ⟨g, cap, cur, e, h2, h3, h4⟩
  · exact .inl h1
  · refine .inr ⟨g, cap, cur, e, h2, ?_, h4⟩
    exact (hf.block g (Array.getElem?_eq_some_iff.1 h3).1 (by simp)).trans h3
/-- A row of sectors, in block g. -/
def OB (w : World) (g : Nat) (l : List One) : Prop := ∃ cs, Blk w g 129 cs ∧ ∀ (j : Nat) (k : One), l[j]? = some k → cs[j * 3]? = some (oc0 k) ∧ cs[j * 3 + 1]? = some (oc1 k) ∧ cs[j * 3 + 2]? = some (oc2 k)
theorem OB.lt {w : World} {g : Nat} {l : List One} (h : OB w g l) : g < w.heap.size := by
  obtain ⟨cs, hb, -⟩ := h
  exact hb.lt
theorem OB.fr {w w' : World} {g : Nat} {l : List One} {S : List Nat} (h : OB w g l) (hf : Fr S w w') (hg : g ∉ S) : OB w' g l := by
  obtain ⟨cs, hb, hc⟩ := h
  exact ⟨cs, hb.fr hf hg, hc⟩
theorem OB.cells {w : World} {g : Nat} {l : List One} (h : OB w g l) {j : Nat} {k : One} (hj : l[j]? = some k) : w.cell? ⟨g, j * 3, none⟩ = some (oc0 k) ∧ w.cell? ⟨g, j * 3 + 1, none⟩ = some (oc1 k) ∧ w.cell? ⟨g, j * 3 + 2, none⟩ = some (oc2 k) := by
  obtain ⟨cs, hb, hc⟩ := h
  rw [hb.cell, hb.cell, hb.cell]
  exact hc j k hj
theorem OB.frozen {w : World} {g : Nat} {l : List One} (h : OB w g l) (i : Nat) : w.frozen? ⟨g, i, none⟩ = false := by
  obtain ⟨cs, hb, hc⟩ := h
  exact hb.frozen i
theorem OB.os {w : World} {g cap : Nat} {l : List One} (h : OB w g l) (h1 : l.length ≤ cap) (h2 : cap ≤ maxLen) : OS w (.slice (some ⟨g, 0, none⟩) l.length cap) l := by
  obtain ⟨cs, hb, hc⟩ := h
  exact ⟨_, cap, rfl, h1, h2, (fun h => by cases h), .inr ⟨g, 0, cs, _, rfl, hb, fun j k hj => by rw [Nat.zero_add]; exact hc j k hj⟩⟩
theorem OOwn.ob {B : Nat} {w : World} {v : Value} {l : List One} (h : OOwn B w v l) (hl : l ≠ []) : ∃ g cap, v = .slice (some ⟨g, 0, none⟩) l.length cap ∧ B ≤ g ∧ l.length ≤ cap ∧ cap ≤ maxLen ∧ OB w g l := by
  have hv : v ≠ .slice none 0 0 := by
    intro hv
    rcases h.2 with ⟨h1, h2⟩ | ⟨g, cap, cur, h1, -⟩
    · exact hl (List.eq_nil_of_length_eq_zero (by omega))
    · rw [hv] at h1
      cases h1
  obtain ⟨g, cap, cs, rfl, h1, h2, h3, h4, h5⟩ := own_some h hv
  exact ⟨g, cap, rfl, h1, h2, h3, cs, h4, fun j k hj => by
    obtain ⟨c0, c1, c2⟩ := ocs_get l j k hj
    exact ⟨h5 _ _ c0, h5 _ _ c1, h5 _ _ c2⟩⟩
/-- A cell of a sector is written. -/
theorem OB.set {w : World} {g : Nat} {l : List One} (h : OB w g l) {i : Nat} {o o' : One} (hi : l[i]? = some o) (c : Nat) (u : Value) (hc : c < 3) (hu : (oc o')[c]? = some u) (hs : ∀ j, j ≠ c → (oc o')[j]? = (oc o)[j]?) : OB (w.setCell ⟨g, i * 3 + c, none⟩ u) g (l.set i o') := by
  obtain ⟨cs, hb, hk⟩ := h
  refine ⟨_, hb.set_ (i * 3 + c) u, fun j k hj => ?_⟩
  have hsz := (Array.getElem?_eq_some_iff.1 (hk i o hi).2.2).1
  rw [List.getElem?_set] at hj
  have hu3 : ∀ m, m < 3 → (cs.setIfInBounds (i * 3 + c) u)[i * 3 + m]? = (oc o')[m]? := fun m hm => by
    rw [Array.getElem?_setIfInBounds]
    by_cases e : i * 3 + c = i * 3 + m
    · have : m = c := by omega
      subst this
      rw [if_pos rfl, if_pos (by omega), hu]
    · rw [if_neg e, hs m (by omega)]
      obtain ⟨k0, k1, k2⟩ := hk i o hi
      have : m = 0 ∨ m = 1 ∨ m = 2 := by omega
      rcases this with rfl | rfl | rfl
      · exact k0
      · exact k1
      · exact k2
  by_cases e : i = j
  · subst e
    rw [if_pos rfl] at hj
    split at hj
    · injection hj with hj
      subst hj
      exact ⟨hu3 0 (by omega), hu3 1 (by omega), hu3 2 (by omega)⟩
    · cases hj
  · rw [if_neg e] at hj
    obtain ⟨k0, k1, k2⟩ := hk j k hj
    refine ⟨?_, ?_, ?_⟩
    · rw [Array.getElem?_setIfInBounds, if_neg (by omega)]; exact k0
    · rw [Array.getElem?_setIfInBounds, if_neg (by omega)]; exact k1
    · rw [Array.getElem?_setIfInBounds, if_neg (by omega)]; exact k2
/-- What a sector of the row says of the disk. -/
def OneIs (o : One) (d : Dk) (i : Nat) : Prop := o.sf = bs d.s (i * 128) 128 ∧ o.un = (d.u i).isSome ∧ ∀ t, d.u i = some t → o.wr = t
def Alike (l : List One) (d : Dk) : Prop := l.length = d.n ∧ ∀ (i : Nat) (o : One), l[i]? = some o → OneIs o d i
theorem Alike.get {l : List One} {d : Dk} (h : Alike l d) {i : Nat} (hi : i < d.n) : ∃ o, l[i]? = some o ∧ OneIs o d i := by
  have : i < l.length := by rw [h.1]; exact hi
  exact ⟨_, List.getElem?_eq_getElem this, h.2 i _ (List.getElem?_eq_getElem this)⟩
theorem OneIs.sec {o : One} {d : Dk} {i : Nat} (h : OneIs o d i) : d.sec i = if o.un then o.wr else o.sf := by
  obtain ⟨h1, h2, h3⟩ := h
  cases hu : d.u i with
  | none => rw [sec_none hu, h2, hu, h1]; rfl
  | some t => rw [sec_some hu, h2, hu, h3 t hu]; rfl
/-- The reference's disk in block q. -/
structure RD (w : World) (q : Nat) (d : Dk) : Prop where
  ok : d.Ok
  hd : ∃ lv cv l, Blk w q 127 #[lv, .int .i64 d.armed, cv, .bool d.dead] ∧ OS w lv l ∧ Alike l d ∧ Zs w cv d.ch
section
variable {w w' : World} {q : Nat} {d : Dk}
theorem RD.fr {S : List Nat} (h : RD w q d) (hf : Fr S w w') (hq : q ∉ S) (ho : NoO w S) (hz : NoZ w S) : RD w' q d := by
  obtain ⟨ok, lv, cv, l, hb, hl, ha, hc⟩ := h
  exact ⟨ok, lv, cv, l, hb.fr hf hq, hl.fr hf ho, ha, hc.fr hf hz⟩
theorem RD.to (h : RD w q d) (hf : Fr [] w w') : RD w' q d := h.fr hf (by simp) (NoO.nil _) (NoZ.nil _)
theorem RD.lt (h : RD w q d) : q < w.heap.size := by
  obtain ⟨ok, lv, cv, l, hb, -⟩ := h
  exact hb.lt
theorem RD.noq (h : RD w q d) : NoO w [q] ∧ NoZ w [q] := by
  obtain ⟨ok, lv, cv, l, hb, -⟩ := h
  refine ⟨hb.noO (by decide), fun j hj cs mk he => ?_⟩
  simp at hj
  subst hj
  unfold Blk at hb
  rw [hb] at he
  injection he with he
  injection he with _ he _
  exact absurd he (by decide)
/-- A row with its form. -/
theorem RD.form (h : RD w q d) : ∃ (A : Addr) (cap : Nat) (cv : Value) (l : List One), Blk w q 127 #[.slice (some A) d.n cap, .int .i64 d.armed, cv, .bool d.dead] ∧ OS w (.slice (some A) d.n cap) l ∧ Alike l d ∧ Zs w cv d.ch ∧ A.spot = none := by
  obtain ⟨ok, lv, cv, l, hb, hl, ha, hc⟩ := h
  have hn := ok.n1
  have hl' := hl
  obtain ⟨A, cap, rfl, -, -, h4, h5⟩ := hl
  rcases h5 with h5 | ⟨g, o, cs, mk, rfl, -⟩
  · have := ha.1
    rw [h5] at this
    simp at this
    omega
  · rw [ha.1] at hb hl'
    exact ⟨_, cap, cv, l, hb, hl', ha, hc, rfl⟩
end
theorem choice_any (A : Option Addr) (n cap : Nat) (l : List Int) (i : Nat) (w : World) (h : Zw w (.slice A n cap) l) : Calls Try.prog 117 #[.slice A n cap, .int .i64 (i : Int)] w fun e w' => e = .returned (.int .i64 (clamp (chAt l i) : Int)) ∧ w = w' := by
  have E := Lib.hid (clamp_int (chAt l i))
  obtain ⟨hn, -, -⟩ := h.len
  by_cases hi : i < n
  · have hi' : (i : Int) < (n : Int) := by omega
    have hi0 : (0 : Int) ≤ (i : Int) := by omega
    have hx : l[i]? = some (l[i]'(by omega)) := List.getElem?_eq_getElem (by omega)
    generalize hX : l[i]'(by omega) = x at hx
    obtain ⟨q, o, rfl, hq, hc⟩ := h.cell hx
    have hch : chAt l i = x := by unfold chAt; rw [hx]; rfl
    rw [hch] at E ⊢
    have E2 := Lib.hid (show (clamp x : Int) = min (128 : Int) (max (0 : Int) x) by rw [E.out]; omega)
    clear h hn hX hx hch E
    go_enter Try.func117, Try.ntmps117
    go_wp2
    go_ret
    exact ⟨by rw [E2.out]; rfl, rfl⟩
  · have hi' : ¬ (i : Int) < (n : Int) := by omega
    have hch : chAt l i = 0 := by unfold chAt; rw [List.getElem?_eq_none (by omega)]; rfl
    rw [hch] at E ⊢
    clear h hn
    go_enter Try.func117, Try.ntmps117
    go_wp2
    go_ret
    exact ⟨rfl, rfl⟩
theorem rCopy_any (q : Nat) (d : Dk) (w : World) (h : RD w q d) : Calls Try.prog 38 #[ptr q] w fun e w' => ∃ r, e = .returned (ptr r) ∧ RD w' r d ∧ w.heap.size ≤ r ∧ Fr [] w w' := by
  obtain ⟨A, cap, cv, l, hb, hl, ha, hc, hA⟩ := h.form
  have hok := h.ok
  have hz0 := hc
  obtain ⟨cA, ccap, hcv, -⟩ := hz0
  have c0 := hb.cell 0
  have c1 := hb.cell 1
  have c2 := hb.cell 2
  have c3 := hb.cell 3
  simp at c0 c1 c2 c3
  have Hend := Lib.hid (show ∃ r, Ending.returned (ptr w.heap.size) = .returned (ptr r) ∧ RD (w.alloc (.cells #[.slice (some A) d.n cap, .int .i64 d.armed, cv, .bool d.dead] 127)) r d ∧ w.heap.size ≤ r ∧ Fr [] w (w.alloc (.cells #[.slice (some A) d.n cap, .int .i64 d.armed, cv, .bool d.dead] 127)) from ⟨w.heap.size, rfl, ⟨hok, _, cv, l, Blk.new _ _ _, hl.fr ((Fr.refl [] w).alloc _) (NoO.nil _), ha, hc.fr ((Fr.refl [] w).alloc _) (NoZ.nil _)⟩, Nat.le_refl _, (Fr.refl [] w).alloc _⟩)
  clear h hb hl ha hc hok hA
  generalize d.ch.length = cl at hcv
  subst hcv
  go_enter Try.func38, Try.ntmps38
  go_wp2
  go_ret
  exact Hend.out
end Go.Proofs.Ythmnloapjdalpaa
