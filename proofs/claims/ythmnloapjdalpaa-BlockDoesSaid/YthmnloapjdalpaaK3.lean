/- The reference's disk (castellanref07): a row of sectors, in plain words and in memory; choice, Copy, Read, goes, Revive, Arm. The reference's disk: after, bytes, Image, Safe, After. The reference's disk: bytes, Image, Safe, After. -/
import Derived.Test.YthmnloapjdalpaaL7
import Derived.ChangeAlike
import Derived.Lib.AppendStr
namespace Go.Proofs.Ythmnloapjdalpaa
open Go.RowKit
set_option linter.unusedVariables false
set_option linter.unusedSimpArgs false
/-- A sector, as the document has it. -/
structure One where
  sf : ByteArray
  wr : ByteArray
  un : Bool
abbrev oc0 (k : One) : Value := .string k.sf
abbrev oc1 (k : One) : Value := .string k.wr
abbrev oc2 (k : One) : Value := .bool k.un
def oc (k : One) : List Value := [.string k.sf, .string k.wr, .bool k.un]
def ocs (l : List One) : List Value := l.flatMap oc
theorem ocs_len (l : List One) : (ocs l).length = l.length * 3 := by
  unfold ocs
  induction l with
  | nil => rfl
  | cons a l ih => rw [List.flatMap_cons, List.length_append, ih, List.length_cons]; simp [oc]; omega
theorem ocs_get : ∀ (l : List One) (j : Nat) (k : One), l[j]? = some k → (ocs l)[j * 3]? = some (oc0 k) ∧ (ocs l)[j * 3 + 1]? = some (oc1 k) ∧ (ocs l)[j * 3 + 2]? = some (oc2 k)
  | [], j, k, h => by simp at h
  | a :: l, 0, k, h => by
    injection h with h
    subst h
    exact ⟨rfl, rfl, rfl⟩
  | a :: l, j + 1, k, h => by
    obtain ⟨h1, h2, h3⟩ := ocs_get l j k h
    have e : ocs (a :: l) = oc a ++ ocs l := rfl
    have el : (oc a).length = 3 := rfl
    rw [e]
    refine ⟨?_, ?_, ?_⟩
    · rw [List.getElem?_append_right (by rw [el]; omega), el, show (j + 1) * 3 - 3 = j * 3 by omega]; exact h1
    · rw [List.getElem?_append_right (by rw [el]; omega), el, show (j + 1) * 3 + 1 - 3 = j * 3 + 1 by omega]; exact h2
    · rw [List.getElem?_append_right (by rw [el]; omega), el, show (j + 1) * 3 + 2 - 3 = j * 3 + 2 by omega]; exact h3
theorem ocs_one (l : List One) : ∀ u ∈ ocs l, u.oneCell' = true := by
  intro u hu
  unfold ocs at hu
  obtain ⟨k, -, hk⟩ := List.mem_flatMap.1 hu
  simp [oc] at hk
  rcases hk with rfl | rfl | rfl <;> rfl
theorem ocs_app (l m : List One) : ocs (l ++ m) = ocs l ++ ocs m := by simp [ocs]
/-- Blocks of S hold no sectors. -/
def NoO (w : World) (S : List Nat) : Prop := ∀ k, k ∈ S → ∀ cs mk, w.heap[k]? ≠ some (.cells cs 129 mk)
theorem NoO.nil (w : World) : NoO w [] := fun k hk => by cases hk
theorem Blk.noO {w : World} {k : Nat} {t : TypeId} {cs : Array Value} (h : Blk w k t cs) (ht : t ≠ 129) : NoO w [k] := by
  intro j hj cs' mk he
  simp at hj
  subst hj
  unfold Blk at h
  rw [h] at he
  injection he with he
  injection he with _ he _
  exact ht he
/-- A slice of sectors. -/
def OS (w : World) (v : Value) (l : List One) : Prop :=
  ∃ A cap, v = .slice A l.length cap ∧ l.length ≤ cap ∧ cap ≤ maxLen ∧ (A = none → l = []) ∧
    (l = [] ∨ ∃ q o cs mk, A = some ⟨q, o, none⟩ ∧ w.heap[q]? = some (.cells cs 129 mk) ∧ ∀ (j : Nat) (k : One), l[j]? = some k → cs[o + j * 3]? = some (oc0 k) ∧ cs[o + j * 3 + 1]? = some (oc1 k) ∧ cs[o + j * 3 + 2]? = some (oc2 k))
theorem OS.nil (w : World) : OS w (.slice none 0 0) [] := ⟨none, 0, rfl, Nat.le_refl _, Nat.zero_le _, fun _ => rfl, .inl rfl⟩
theorem OS.fr {w w' : World} {v : Value} {l : List One} {S : List Nat} (h : OS w v l) (hf : Fr S w w') (hz : NoO w S) : OS w' v l := by
  obtain ⟨A, cap, h1, h2, h3, h4, h5⟩ := h
  refine ⟨A, cap, h1, h2, h3, h4, ?_⟩
  rcases h5 with h5 | ⟨q, o, cs, mk, h5, h6, h7⟩
  · exact .inl h5
  · exact .inr ⟨q, o, cs, mk, h5, (hf.block q (Array.getElem?_eq_some_iff.1 h6).1 (fun hq => hz q hq cs mk h6)).trans h6, h7⟩
theorem OS.form {w : World} {v : Value} {l : List One} (h : OS w v l) : ∃ A cap, v = .slice A l.length cap ∧ l.length ≤ cap ∧ cap ≤ maxLen := by
  obtain ⟨A, cap, h1, h2, h3, -⟩ := h
  exact ⟨A, cap, h1, h2, h3⟩
theorem OS.cell {w : World} {A : Option Addr} {n cap : Nat} {l : List One} (h : OS w (.slice A n cap) l) {j : Nat} {k : One} (hj : l[j]? = some k) :
    ∃ q o, A = some ⟨q, o, none⟩ ∧ q < w.heap.size ∧ w.cell? ⟨q, o + j * 3, none⟩ = some (oc0 k) ∧ w.cell? ⟨q, o + j * 3 + 1, none⟩ = some (oc1 k) ∧ w.cell? ⟨q, o + j * 3 + 2, none⟩ = some (oc2 k) := by
  obtain ⟨A', cap', h1, h2, h3, h4, h5⟩ := h
  injection h1 with hA _ _
  rcases h5 with rfl | ⟨q, o, cs, mk, h5, h6, h7⟩
  · simp at hj
  · obtain ⟨c0, c1, c2⟩ := h7 j k hj
    exact ⟨q, o, hA.trans h5, (Array.getElem?_eq_some_iff.1 h6).1, by simp [World.cell?, h6, c0], by simp [World.cell?, h6, c1], by simp [World.cell?, h6, c2]⟩
theorem OS.news {w : World} {ad : Addr} {n cap : Nat} {l : List One} (h : OS w (.slice (some ad) n cap) l) : ∀ (j : Nat) (u : Value), (ocs l)[j]? = some u → w.cell? (ad.add j) = some u := by
  intro j u hu
  have hj : j < l.length * 3 := by
    have := (List.getElem?_eq_some_iff.1 hu).1
    rwa [ocs_len] at this
  have hx : l[j / 3]? = some (l[j / 3]'(by omega)) := List.getElem?_eq_getElem (by omega)
  obtain ⟨q, o, ha, hq, c0, c1, c2⟩ := h.cell hx
  obtain ⟨k0, k1, k2⟩ := ocs_get l _ _ hx
  injection ha with ha
  subst ha
  rw [addr_add]
  have h3 : j = j / 3 * 3 ∨ j = j / 3 * 3 + 1 ∨ j = j / 3 * 3 + 2 := by omega
  rcases h3 with e | e | e
  · rw [← e] at k0 c0
    rw [k0] at hu
    injection hu with hu
    rw [← hu]
    exact c0
  · rw [← e] at k1
    rw [k1] at hu
    injection hu with hu
    rw [← hu]
    rw [show o + j = o + j / 3 * 3 + 1 by omega]
    exact c1
  · rw [← e] at k2
    rw [k2] at hu
    injection hu with hu
    rw [← hu]
    rw [show o + j = o + j / 3 * 3 + 2 by omega]
    exact c2
theorem Try.info129 : (Try.prog.info? 129).map (fun i => (i.zero, i.size, i.bytes)) = some (some (.agg #[.string ⟨#[]⟩, .string ⟨#[]⟩, .bool false]), 3, 40) := by kernel_rfl
/-- Sectors in memory of one's own. -/
def OOwn (B : Nat) (w : World) (v : Value) (l : List One) : Prop := w.ownsRow B 129 3 v l.length (ocs l)
theorem OOwn.shape {B : Nat} {w : World} {v : Value} {l : List One} (h : OOwn B w v l) : ∃ A cap, v = .slice A l.length cap := own_shape h
theorem OOwn.kept {B : Nat} {w w' : World} {v : Value} {l : List One} (h : OOwn B w v l) (hf : Fr [] w w') : OOwn B w' v l := by
  rcases h with ⟨h0, h1⟩
  refine ⟨h0, ?_⟩
  rcases h1 with h1 | ⟨g, cap, cur, e, h2, h3, h4⟩
  · exact .inl h1
  · refine .inr ⟨g, cap, cur, e, h2, ?_, h4⟩
    exact (hf.block g (Array.getElem?_eq_some_iff.1 h3).1 (by simp)).trans h3
/-- A row of sectors, in block g. -/
def OB (w : World) (g : Nat) (l : List One) : Prop := ∃ cs, Blk w g 129 cs ∧ ∀ (j : Nat) (k : One), l[j]? = some k → cs[j * 3]? = some (oc0 k) ∧ cs[j * 3 + 1]? = some (oc1 k) ∧ cs[j * 3 + 2]? = some (oc2 k)
theorem OB.lt {w : World} {g : Nat} {l : List One} (h : OB w g l) : g < w.heap.size := by
  obtain ⟨cs, hb, -⟩ := h
  exact hb.lt
theorem OB.fr {w w' : World} {g : Nat} {l : List One} {S : List Nat} (h : OB w g l) (hf : Fr S w w') (hg : g ∉ S) : OB w' g l := by
  obtain ⟨cs, hb, hc⟩ := h
  exact ⟨cs, hb.fr hf hg, hc⟩
theorem OB.cells {w : World} {g : Nat} {l : List One} (h : OB w g l) {j : Nat} {k : One} (hj : l[j]? = some k) : w.cell? ⟨g, j * 3, none⟩ = some (oc0 k) ∧ w.cell? ⟨g, j * 3 + 1, none⟩ = some (oc1 k) ∧ w.cell? ⟨g, j * 3 + 2, none⟩ = some (oc2 k) := by
  obtain ⟨cs, hb, hc⟩ := h
  rw [hb.cell, hb.cell, hb.cell]
  exact hc j k hj
theorem OB.frozen {w : World} {g : Nat} {l : List One} (h : OB w g l) (i : Nat) : w.frozen? ⟨g, i, none⟩ = false := by
  obtain ⟨cs, hb, hc⟩ := h
  exact hb.frozen i
theorem OB.os {w : World} {g cap : Nat} {l : List One} (h : OB w g l) (h1 : l.length ≤ cap) (h2 : cap ≤ maxLen) : OS w (.slice (some ⟨g, 0, none⟩) l.length cap) l := by
  obtain ⟨cs, hb, hc⟩ := h
  exact ⟨_, cap, rfl, h1, h2, (fun h => by cases h), .inr ⟨g, 0, cs, _, rfl, hb, fun j k hj => by rw [Nat.zero_add]; exact hc j k hj⟩⟩
theorem OOwn.ob {B : Nat} {w : World} {v : Value} {l : List One} (h : OOwn B w v l) (hl : l ≠ []) : ∃ g cap, v = .slice (some ⟨g, 0, none⟩) l.length cap ∧ B ≤ g ∧ l.length ≤ cap ∧ cap ≤ maxLen ∧ OB w g l := by
  have hv : v ≠ .slice none 0 0 := by
    intro hv
    rcases h.2 with ⟨h1, h2⟩ | ⟨g, cap, cur, h1, -⟩
    · exact hl (List.eq_nil_of_length_eq_zero (by omega))
    · rw [hv] at h1
      cases h1
  obtain ⟨g, cap, cs, rfl, h1, h2, h3, h4, h5⟩ := own_some h hv
  exact ⟨g, cap, rfl, h1, h2, h3, cs, h4, fun j k hj => by
    obtain ⟨c0, c1, c2⟩ := ocs_get l j k hj
    exact ⟨h5 _ _ c0, h5 _ _ c1, h5 _ _ c2⟩⟩
/-- A cell of a sector is written. -/
theorem OB.set {w : World} {g : Nat} {l : List One} (h : OB w g l) {i : Nat} {o o' : One} (hi : l[i]? = some o) (c : Nat) (u : Value) (hc : c < 3) (hu : (oc o')[c]? = some u) (hs : ∀ j, j ≠ c → (oc o')[j]? = (oc o)[j]?) : OB (w.setCell ⟨g, i * 3 + c, none⟩ u) g (l.set i o') := by
  obtain ⟨cs, hb, hk⟩ := h
  refine ⟨_, hb.set_ (i * 3 + c) u, fun j k hj => ?_⟩
  have hsz := (Array.getElem?_eq_some_iff.1 (hk i o hi).2.2).1
  rw [List.getElem?_set] at hj
  have hu3 : ∀ m, m < 3 → (cs.setIfInBounds (i * 3 + c) u)[i * 3 + m]? = (oc o')[m]? := fun m hm => by
    rw [Array.getElem?_setIfInBounds]
    by_cases e : i * 3 + c = i * 3 + m
    · have : m = c := by omega
      subst this
      rw [if_pos rfl, if_pos (by omega), hu]
    · rw [if_neg e, hs m (by omega)]
      obtain ⟨k0, k1, k2⟩ := hk i o hi
      have : m = 0 ∨ m = 1 ∨ m = 2 := by omega
      rcases this with rfl | rfl | rfl
      · exact k0
      · exact k1
      · exact k2
  by_cases e : i = j
  · subst e
    rw [if_pos rfl] at hj
    split at hj
    · injection hj with hj
      subst hj
      exact ⟨hu3 0 (by omega), hu3 1 (by omega), hu3 2 (by omega)⟩
    · cases hj
  · rw [if_neg e] at hj
    obtain ⟨k0, k1, k2⟩ := hk j k hj
    refine ⟨?_, ?_, ?_⟩
    · rw [Array.getElem?_setIfInBounds, if_neg (by omega)]; exact k0
    · rw [Array.getElem?_setIfInBounds, if_neg (by omega)]; exact k1
    · rw [Array.getElem?_setIfInBounds, if_neg (by omega)]; exact k2
/-- What a sector of the row says of the disk. -/
def OneIs (o : One) (d : Dk) (i : Nat) : Prop := o.sf = bs d.s (i * 128) 128 ∧ o.un = (d.u i).isSome ∧ ∀ t, d.u i = some t → o.wr = t
def Alike (l : List One) (d : Dk) : Prop := l.length = d.n ∧ ∀ (i : Nat) (o : One), l[i]? = some o → OneIs o d i
theorem Alike.get {l : List One} {d : Dk} (h : Alike l d) {i : Nat} (hi : i < d.n) : ∃ o, l[i]? = some o ∧ OneIs o d i := by
  have : i < l.length := by rw [h.1]; exact hi
  exact ⟨_, List.getElem?_eq_getElem this, h.2 i _ (List.getElem?_eq_getElem this)⟩
theorem OneIs.sec {o : One} {d : Dk} {i : Nat} (h : OneIs o d i) : d.sec i = if o.un then o.wr else o.sf := by
  obtain ⟨h1, h2, h3⟩ := h
  cases hu : d.u i with
  | none => rw [sec_none hu, h2, hu, h1]; rfl
  | some t => rw [sec_some hu, h2, hu, h3 t hu]; rfl
/-- The reference's disk in block q. -/
structure RD (w : World) (q : Nat) (d : Dk) : Prop where
  ok : d.Ok
  hd : ∃ lv cv l, Blk w q 127 #[lv, .int .i64 d.armed, cv, .bool d.dead] ∧ OS w lv l ∧ Alike l d ∧ Zs w cv d.ch
section
variable {w w' : World} {q : Nat} {d : Dk}
theorem RD.fr {S : List Nat} (h : RD w q d) (hf : Fr S w w') (hq : q ∉ S) (ho : NoO w S) (hz : NoZ w S) : RD w' q d := by
  obtain ⟨ok, lv, cv, l, hb, hl, ha, hc⟩ := h
  exact ⟨ok, lv, cv, l, hb.fr hf hq, hl.fr hf ho, ha, hc.fr hf hz⟩
theorem RD.to (h : RD w q d) (hf : Fr [] w w') : RD w' q d := h.fr hf (by simp) (NoO.nil _) (NoZ.nil _)
theorem RD.lt (h : RD w q d) : q < w.heap.size := by
  obtain ⟨ok, lv, cv, l, hb, -⟩ := h
  exact hb.lt
theorem RD.noq (h : RD w q d) : NoO w [q] ∧ NoZ w [q] := by
  obtain ⟨ok, lv, cv, l, hb, -⟩ := h
  refine ⟨hb.noO (by decide), fun j hj cs mk he => ?_⟩
  simp at hj
  subst hj
  unfold Blk at hb
  rw [hb] at he
  injection he with he
  injection he with _ he _
  exact absurd he (by decide)
/-- A row with its form. -/
theorem RD.form (h : RD w q d) : ∃ (A : Addr) (cap : Nat) (cv : Value) (l : List One), Blk w q 127 #[.slice (some A) d.n cap, .int .i64 d.armed, cv, .bool d.dead] ∧ OS w (.slice (some A) d.n cap) l ∧ Alike l d ∧ Zs w cv d.ch ∧ A.spot = none := by
  obtain ⟨ok, lv, cv, l, hb, hl, ha, hc⟩ := h
  have hn := ok.n1
  have hl' := hl
  obtain ⟨A, cap, rfl, -, -, h4, h5⟩ := hl
  rcases h5 with h5 | ⟨g, o, cs, mk, rfl, -⟩
  · have := ha.1
    rw [h5] at this
    simp at this
    omega
  · rw [ha.1] at hb hl'
    exact ⟨_, cap, cv, l, hb, hl', ha, hc, rfl⟩
end
theorem choice_any (A : Option Addr) (n cap : Nat) (l : List Int) (i : Nat) (w : World) (h : Zw w (.slice A n cap) l) : Calls Try.prog 117 #[.slice A n cap, .int .i64 (i : Int)] w fun e w' => e = .returned (.int .i64 (clamp (chAt l i) : Int)) ∧ w = w' := by
  have E := Lib.hid (clamp_int (chAt l i))
  obtain ⟨hn, -, -⟩ := h.len
  by_cases hi : i < n
  · have hi' : (i : Int) < (n : Int) := by omega
    have hi0 : (0 : Int) ≤ (i : Int) := by omega
    have hx : l[i]? = some (l[i]'(by omega)) := List.getElem?_eq_getElem (by omega)
    generalize hX : l[i]'(by omega) = x at hx
    obtain ⟨q, o, rfl, hq, hc⟩ := h.cell hx
    have hch : chAt l i = x := by unfold chAt; rw [hx]; rfl
    rw [hch] at E ⊢
    have E2 := Lib.hid (show (clamp x : Int) = min (128 : Int) (max (0 : Int) x) by rw [E.out]; omega)
    clear h hn hX hx hch E
    go_enter Try.func117, Try.ntmps117
    go_wp2
    go_ret
    exact ⟨by rw [E2.out]; rfl, rfl⟩
  · have hi' : ¬ (i : Int) < (n : Int) := by omega
    have hch : chAt l i = 0 := by unfold chAt; rw [List.getElem?_eq_none (by omega)]; rfl
    rw [hch] at E ⊢
    clear h hn
    go_enter Try.func117, Try.ntmps117
    go_wp2
    go_ret
    exact ⟨rfl, rfl⟩
theorem rCopy_any (q : Nat) (d : Dk) (w : World) (h : RD w q d) : Calls Try.prog 38 #[ptr q] w fun e w' => ∃ r, e = .returned (ptr r) ∧ RD w' r d ∧ w.heap.size ≤ r ∧ Fr [] w w' := by
  obtain ⟨A, cap, cv, l, hb, hl, ha, hc, hA⟩ := h.form
  have hok := h.ok
  have hz0 := hc
  obtain ⟨cA, ccap, hcv, -⟩ := hz0
  have c0 := hb.cell 0
  have c1 := hb.cell 1
  have c2 := hb.cell 2
  have c3 := hb.cell 3
  simp at c0 c1 c2 c3
  have Hend := Lib.hid (show ∃ r, Ending.returned (ptr w.heap.size) = .returned (ptr r) ∧ RD (w.alloc (.cells #[.slice (some A) d.n cap, .int .i64 d.armed, cv, .bool d.dead] 127)) r d ∧ w.heap.size ≤ r ∧ Fr [] w (w.alloc (.cells #[.slice (some A) d.n cap, .int .i64 d.armed, cv, .bool d.dead] 127)) from ⟨w.heap.size, rfl, ⟨hok, _, cv, l, Blk.new _ _ _, hl.fr ((Fr.refl [] w).alloc _) (NoO.nil _), ha, hc.fr ((Fr.refl [] w).alloc _) (NoZ.nil _)⟩, Nat.le_refl _, (Fr.refl [] w).alloc _⟩)
  clear h hb hl ha hc hok hA
  generalize d.ch.length = cl at hcv
  subst hcv
  go_enter Try.func38, Try.ntmps38
  go_wp2
  go_ret
  exact Hend.out
end Go.Proofs.Ythmnloapjdalpaa
namespace Go.Proofs.Ythmnloapjdalpaa
open Go.RowKit
set_option linter.unusedVariables false
set_option linter.unusedSimpArgs false
theorem at8_extr {s : ByteArray} {a b i : Nat} (h : a + i < b) (h2 : b ≤ s.size) : at8 (s.extract a b) i = at8 s (a + i) := by
  unfold at8
  rw [ByteArray.data_extract, Array.getElem?_extract, if_pos (by show i < min b s.size - a; omega)]
theorem at8_cat (s t : ByteArray) (i : Nat) : at8 (s ++ t) i = if i < s.size then at8 s i else at8 t (i - s.size) := by
  unfold at8
  rw [ByteArray.data_append, Array.getElem?_append]
  show Option.getD (if i < s.size then _ else _) _ = _
  split <;> rfl
/-- What a crash leaves of an unsafe sector. -/
theorem left_cat {d : Dk} {i : Nat} {t : ByteArray} (hu : d.u i = some t) (ht : t.size = 128) (l : List Int) :
    t.extract 0 (clamp (chAt l i)) ++ (bs d.s (i * 128) 128).extract (clamp (chAt l i)) 128 = bs (leftB d (chAt l)) (i * 128) 128 := by
  have hc := clamp_le (chAt l i)
  generalize hC : clamp (chAt l i) = c at *
  have s1 : (t.extract 0 c).size = c := by rw [ByteArray.size_extract]; omega
  have s2 : ((bs d.s (i * 128) 128).extract c 128).size = 128 - c := by rw [ByteArray.size_extract, bs_size]; omega
  refine at8_ext (by rw [ByteArray.size_append, s1, s2, bs_size]; omega) fun j hj => ?_
  rw [ByteArray.size_append, s1, s2] at hj
  rw [at8_bs (by omega), at8_cat, s1]
  unfold leftB
  rw [show (i * 128 + j) / 128 = i by omega, show (i * 128 + j) % 128 = j by omega, hu, hC]
  simp only []
  split
  · rw [at8_extr (by omega) (by omega), Nat.zero_add]
  · rw [at8_extr (by omega) (by rw [bs_size]; omega), at8_bs (by omega)]
    congr 1
    omega
theorem left_none {d : Dk} {i : Nat} (hu : d.u i = none) (l : List Int) : bs (leftB d (chAt l)) (i * 128) 128 = bs d.s (i * 128) 128 := by
  refine bs_congr fun j hj => ?_
  unfold leftB
  rw [show (i * 128 + j) / 128 = i by omega, hu]
def leftO (o : One) (c : Nat) : One := if o.un then ⟨o.wr.extract 0 c ++ o.sf.extract c 128, ⟨#[]⟩, false⟩ else o
theorem OneIs.left {o : One} {d : Dk} {i : Nat} (h : OneIs o d i) (hok : d.Ok) (l : List Int) : OneIs (leftO o (clamp (chAt l i))) (d.die l) i := by
  obtain ⟨h1, h2, h3⟩ := h
  cases hu : d.u i with
  | none =>
    rw [hu] at h2
    have : leftO o (clamp (chAt l i)) = o := by unfold leftO; rw [h2]; rfl
    rw [this]
    exact ⟨by rw [h1]; exact (left_none hu l).symm, h2, fun t ht => by cases ht⟩
  | some t =>
    rw [hu] at h2
    have : leftO o (clamp (chAt l i)) = ⟨o.wr.extract 0 (clamp (chAt l i)) ++ o.sf.extract (clamp (chAt l i)) 128, ⟨#[]⟩, false⟩ := by unfold leftO; rw [h2]; rfl
    rw [this]
    refine ⟨?_, rfl, fun t ht => by cases ht⟩
    show _ ++ _ = bs (leftB d (chAt l)) (i * 128) 128
    rw [h3 t hu, h1]
    exact left_cat hu (hok.un i t hu).2 l
theorem newsO (w : World) (k : One) : ∀ (j : Nat) (u : Value), (ocs [k])[j]? = some u → (w.alloc (.cells #[.string k.sf, .string k.wr, .bool k.un] 129)).cell? ((⟨w.heap.size, 0, none⟩ : Addr).add j) = some u := by
  intro j u hu
  have hb := Blk.new w 129 #[.string k.sf, .string k.wr, .bool k.un]
  rw [addr_add, Nat.zero_add, hb.cell]
  simpa [ocs, oc] using hu
/-- The row so far: each as a crash leaves it. -/
def AfR (w0 w : World) (d : Dk) (l : List Int) (v : Value) (k : Nat) : Prop := ∃ lo, lo.length = k ∧ OOwn w0.heap.size w v lo ∧ (∀ (i : Nat) (o : One), lo[i]? = some o → OneIs o (d.die l) i) ∧ Fr [] w0 w
theorem AfR.push {w0 w' : World} {d : Dk} {l : List Int} {v' : Value} {k : Nat} {lo : List One} {o : One} (h : ∀ (i : Nat) (o : One), lo[i]? = some o → OneIs o (d.die l) i) (hl : lo.length = k) (ho : OneIs o (d.die l) k) (hw : w'.ownsRow w0.heap.size 129 3 v' (k + 1) (ocs lo ++ ocs [o])) (hf : Fr [] w0 w') : AfR w0 w' d l v' (k + 1) := by
  refine ⟨lo ++ [o], by simp [hl], ?_, fun i x hx => ?_, hf⟩
  · unfold OOwn
    rw [ocs_app, List.length_append, hl]
    exact hw
  · rw [List.getElem?_append] at hx
    split at hx
    · exact h i x hx
    · have : i = lo.length := by
        have := (List.getElem?_eq_some_iff.1 hx).1
        simp at this
        omega
      subst this
      simp at hx
      subst hx
      rw [hl]
      exact ho
set_option maxRecDepth 100000 in
set_option maxHeartbeats 2000000 in
theorem after_any (q : Nat) (d : Dk) (A : Option Addr) (n cap : Nat) (l : List Int) (w : World) (h : RD w q d) (hz : Zw w (.slice A n cap) l) :
    Calls Try.prog 113 #[ptr q, .slice A n cap] w fun e w' => ∃ A' cap' lo, e = .returned (.slice (some A') d.n cap') ∧ OS w' (.slice (some A') d.n cap') lo ∧ Alike lo (d.die l) ∧ Fr [] w w' := by
  obtain ⟨A0, cap0, cv, L, hb, hl, ha, hc, hA⟩ := h.form
  obtain ⟨i0, hi0, hz0, hz1, hz2⟩ := info3 Try.info129
  have hok := h.ok
  have hn1 := hok.n1
  have hn2 := hok.n2
  obtain ⟨N, hN⟩ : ∃ N, d.n = N := ⟨_, rfl⟩
  have HNd := Lib.hid hN
  rw [hN] at hb hl hn1 hn2
  have HC := Lib.hid (fun W (hf : Fr [] w W) => (show W.cell? ⟨q, 0, none⟩ = some (.slice (some A0) N cap0) from hf.cell_some (hb.cell 0) (by simp)))
  have HG := Lib.hid (fun i (hi : i < N) => ha.get (i := i) (by rw [hN]; exact hi))
  have HL := Lib.hid (fun W (hf : Fr [] w W) i o (hi : L[i]? = some o) => (hl.fr hf (NoO.nil _)).cell hi)
  have HCh := Lib.hid (fun W (hf : Fr [] w W) (i : Nat) => choice_any A n cap l i W (hz.fr hf (NoZ.nil _)))
  have Hok := Lib.hid hok
  have Hst : Hid (AfR w (w.alloc (.cells #[] 129)) d l (.slice (some ⟨w.heap.size, 0, none⟩) 0 0) 0) := Lib.hid ⟨[], rfl, World.ownsRow_made w #[] 0 (Nat.le_refl _) (by simp [maxLen]) (by simp), (fun i o hi => by simp at hi), (Fr.refl [] w).alloc _⟩
  clear h hz hb hl ha hc hok hN
  obtain ⟨ab, ao, asp⟩ := A0
  simp only at hA
  subst hA
  go_enter Try.func113, Try.ntmps113
  go_wp2_with fail
  go_loopg [5, 6] N (fun gg vo vi wr => ∃ (k : Nat), k + gg = N ∧ vi = .int .i64 (k : Int) ∧ AfR w wr d l vo k)
  case atStart => exact ⟨0, by omega, rfl, Hst.out⟩
  case round =>
    obtain ⟨k, hk, rfl, lo, hlo, ho, hq, hf⟩ := hrel
    have Hk := Lib.hid hk
    have Hlo := Lib.hid hlo
    have Hq := Lib.hid hq
    have Hf := Lib.hid hf
    obtain ⟨Ao, co, rfl⟩ := ho.shape
    unfold OOwn at ho
    rw [hlo] at ho ⊢
    have HO := Lib.hid ho
    have c0 := HC.out _ hf
    clear hk hlo hq ho
    by_cases hlt : k < N
    · have hlt' : (k : Int) < (N : Int) := by omega
      have hk0 : (0 : Int) ≤ (k : Int) := by omega
      have hwk : IntKind.i64.wrap ((k : Int) + 1) = (k : Int) + 1 := IntWalk.i64_in _ (by omega)
      obtain ⟨o, hLo, hOi⟩ := HG.out k hlt
      have HE := Lib.hid (hOi.left Hok.out l)
      obtain ⟨q', o', hqa, hqlt, x0, x1, x2⟩ := HL.out _ hf _ _ hLo
      injection hqa with hqa
      injection hqa with e1 e2 _
      subst e1 e2
      have hsf : o.sf.size = 128 := by rw [hOi.1, bs_size]
      have hwr : o.un = true → o.wr.size = 128 := fun hu => by
        have := hOi.2.1
        rw [hu] at this
        cases hdu : d.u k with
        | none => rw [hdu] at this; cases this
        | some t => rw [hOi.2.2 t hdu]; exact (Hok.out.un k t hdu).2
      have hcl := clamp_le (chAt l k)
      have HCk := Lib.hid (fun W (hh : Fr [] w W) => HCh.out W hh k)
      generalize clamp (chAt l k) = c at *
      clear hLo hOi
      obtain ⟨sf, wr_, un⟩ := o
      simp only [oc0, oc1, oc2] at x0 x1 x2
      cases un with
      | false =>
        have HE2 : Hid (OneIs ⟨sf, wr_, false⟩ (d.die l) k) := HE
        have Hns : Hid (∀ (j : Nat) (u : Value), (ocs [⟨sf, wr_, false⟩])[j]? = some u → ((wr.alloc (.cells #[.string sf, .string wr_, .bool false] 129)).alloc (.cells #[.string sf, .string wr_, .bool false] 129)).cell? ((⟨wr.heap.size + 1, 0, none⟩ : Addr).add j) = some u) := Lib.hid (by have := newsO (wr.alloc (.cells #[.string sf, .string wr_, .bool false] 129)) ⟨sf, wr_, false⟩; rw [World.size_alloc] at this; exact this)
        have Hsz : w.heap.size ≤ ((wr.alloc (.cells #[.string sf, .string wr_, .bool false] 129)).alloc (.cells #[.string sf, .string wr_, .bool false] 129)).heap.size := by have := hf.size; simp; omega
        have HO2 := Lib.hid (own_fr HO.out (((Fr.refl [] wr).alloc (.cells #[.string sf, .string wr_, .bool false] 129)).alloc (.cells #[.string sf, .string wr_, .bool false] 129)) (by simp))
        have HPush := Lib.hid (fun (v' : Value) (w' : World) (h1 : w'.ownsRow w.heap.size 129 3 v' (k + 1) (ocs lo ++ ocs [⟨sf, wr_, false⟩])) (h2 : Fr [] w w') => AfR.push (d := d) (l := l) Hq.out Hlo.out HE2.out h1 h2)
        have hm1 : k + 1 ≤ maxLen := by simp only [maxLen]; omega
        have hm2 : (k + 1) * 40 ≤ 140737488355328 := by omega
        have Hf2 := Lib.hid ((Hf.out.alloc (.cells #[.string sf, .string wr_, .bool false] 129)).alloc (.cells #[.string sf, .string wr_, .bool false] 129))
        go_wp2_with (at_builtin; go_must (refine wpList_append_own _ rfl (.tmp 41) (.tmp 43) 125 rfl w.heap.size 129 i0 (.agg #[.string ⟨#[]⟩, .string ⟨#[]⟩, .bool false]) 3 40 Try.underlying125 hi0 hz0 hz1 hz2 rfl (Nat.succ_pos 2) (.slice Ao k co) k (ocs lo) rfl HO2.out ⟨wr.heap.size + 1, 0, none⟩ 1 1 (ocs [⟨sf, wr_, false⟩]) rfl (ocs_len _) Hns.out (ocs_one _) hm1 hm2 Hsz ?_; intro v3 w3 hown3 hg3 hnn3; have hf3 := Hf2.out.own HO2.out hg3; have hE3 := HPush.out _ _ hown3 hf3; have HEnd := Lib.hid hE3; clear hE3 hf3 hown3 hg3 hnn3))
        go_roundg (N - (k + 1))
        case measure => have := Hk.out; omega
        case rel => exact ⟨k + 1, by have := Hk.out; omega, by go_num, HEnd.out⟩
      | true =>
        have hwr' := hwr rfl
        have hsf' : sf.size = 128 := hsf
        have hwr2 : wr_.size = 128 := hwr'
        have m1 := fun wx => sl_h wr_ c (c : Int) rfl wx (by omega)
        have m2 := fun wx => (sl_l sf c (c : Int) rfl wx (by omega)).trans (by rw [hsf'])
        have hP1 : (wr_.extract 0 c).size = c := by rw [ByteArray.size_extract]; omega
        have hP2 : (sf.extract c 128).size = 128 - c := by rw [ByteArray.size_extract]; omega
        have HE2 : Hid (OneIs ⟨wr_.extract 0 c ++ sf.extract c 128, ⟨#[]⟩, false⟩ (d.die l) k) := HE
        generalize wr_.extract 0 c = P1 at *
        generalize sf.extract c 128 = P2 at *
        have hcat : ¬ 9223372036854775807 < P1.size + P2.size := by omega
        clear HE hwr hwr' hwr2 hsf hsf' hP1 hP2
        generalize hPP : P1 ++ P2 = PP at *
        go_wp2_with (go_at_call 117; refine (HCk.out _ (Hf.out.alloc _)).mono ?_; rintro e w4 ⟨rfl, rfl⟩)
        go_region
        have Hns : Hid (∀ (j : Nat) (u : Value), (ocs [⟨PP, ⟨#[]⟩, false⟩])[j]? = some u → (((wr.alloc (.cells #[.string PP, .string ⟨#[]⟩, .bool false] 129)).drew).alloc (.cells #[.string PP, .string ⟨#[]⟩, .bool false] 129)).cell? ((⟨wr.heap.size + 1, 0, none⟩ : Addr).add j) = some u) := Lib.hid (by have := newsO ((wr.alloc (.cells #[.string PP, .string ⟨#[]⟩, .bool false] 129)).drew) ⟨PP, ⟨#[]⟩, false⟩; rw [show ((wr.alloc (.cells #[.string PP, .string ⟨#[]⟩, .bool false] 129)).drew).heap.size = wr.heap.size + 1 by show (World.alloc _ _).heap.size = _; rw [World.size_alloc]] at this; exact this)
        have Hsz : w.heap.size ≤ (((wr.alloc (.cells #[.string PP, .string ⟨#[]⟩, .bool false] 129)).drew).alloc (.cells #[.string PP, .string ⟨#[]⟩, .bool false] 129)).heap.size := by have := hf.size; simp; omega
        have HO2 := Lib.hid (own_fr HO.out (((Fr.refl [] wr).alloc (.cells #[.string PP, .string ⟨#[]⟩, .bool false] 129)).drew.alloc (.cells #[.string PP, .string ⟨#[]⟩, .bool false] 129)) (by simp))
        have HPush := Lib.hid (fun (v' : Value) (w' : World) (h1 : w'.ownsRow w.heap.size 129 3 v' (k + 1) (ocs lo ++ ocs [⟨PP, ⟨#[]⟩, false⟩])) (h2 : Fr [] w w') => AfR.push (d := d) (l := l) Hq.out Hlo.out HE2.out h1 h2)
        have hm1 : k + 1 ≤ maxLen := by simp only [maxLen]; omega
        have hm2 : (k + 1) * 40 ≤ 140737488355328 := by omega
        have Hf2 := Lib.hid ((Hf.out.alloc (.cells #[.string PP, .string ⟨#[]⟩, .bool false] 129)).drew.alloc (.cells #[.string PP, .string ⟨#[]⟩, .bool false] 129))
        go_wp2_with (at_builtin; go_must (refine wpList_append_own _ rfl (.tmp 41) (.tmp 43) 125 rfl w.heap.size 129 i0 (.agg #[.string ⟨#[]⟩, .string ⟨#[]⟩, .bool false]) 3 40 Try.underlying125 hi0 hz0 hz1 hz2 rfl (Nat.succ_pos 2) (.slice Ao k co) k (ocs lo) rfl HO2.out ⟨wr.heap.size + 1, 0, none⟩ 1 1 (ocs [⟨PP, ⟨#[]⟩, false⟩]) rfl (ocs_len _) Hns.out (ocs_one _) hm1 hm2 Hsz ?_; intro v3 w3 hown3 hg3 hnn3; have hf3 := Hf2.out.own HO2.out hg3; have hE3 := HPush.out _ _ hown3 hf3; have HEnd := Lib.hid hE3; clear hE3 hf3 hown3 hg3 hnn3))
        go_roundg (N - (k + 1))
        case measure => have := Hk.out; omega
        case rel => exact ⟨k + 1, by have := Hk.out; omega, by go_num, HEnd.out⟩
    · have hlt' : ¬ (k : Int) < (N : Int) := by omega
      obtain rfl : N = k := by have := Hk.out; omega
      obtain ⟨g, cap', e1, -, h1, h2, hob⟩ := OOwn.ob (l := lo) (v := .slice Ao N co) (by unfold OOwn; rw [Hlo.out]; exact HO.out) (fun h => by have := Hlo.out; rw [h] at this; simp at this; omega)
      rw [Hlo.out] at e1
      injection e1 with e1 _ e2
      subst e1 e2
      have hos := hob.os h1 h2
      rw [Hlo.out] at hos
      have Hos := Lib.hid hos
      clear hob h1 h2 hos
      go_wp2_with fail
      go_ret
      exact ⟨_, _, by rw [HNd.out]; rfl, lo, by rw [HNd.out]; exact Hos.out, ⟨Hlo.out.trans HNd.out.symm, Hq.out⟩, Hf.out⟩
end Go.Proofs.Ythmnloapjdalpaa
namespace Go.Proofs.Ythmnloapjdalpaa
open Go.RowKit
set_option linter.unusedVariables false
set_option linter.unusedSimpArgs false
theorem bcs_next (T : Nat → UInt8) (a b : Nat) : bcs T 0 a ++ bcs T a b = bcs T 0 (a + b) := by
  unfold bcs
  rw [List.range_add, List.map_append, List.map_map]
  congr 1
  refine List.map_congr_left fun i _ => ?_
  simp
theorem strCells_bs (T : Nat → UInt8) (o n : Nat) : Go.Lib.strCells (bs T o n) = bcs T o n := by
  unfold Go.Lib.strCells bcs bs
  simp
theorem rd_bs {d : Dk} {i : Nat} {t : ByteArray} (hu : d.u i = some t) (ht : t.size = 128) : t = bs (rdB d) (i * 128) 128 := by
  refine at8_ext (by rw [bs_size, ht]) fun j hj => ?_
  rw [at8_bs (by omega)]
  unfold rdB
  rw [show (i * 128 + j) / 128 = i by omega, show (i * 128 + j) % 128 = j by omega, hu]
theorem rd_none {d : Dk} {i : Nat} (hu : d.u i = none) : bs d.s (i * 128) 128 = bs (rdB d) (i * 128) 128 := by
  refine bs_congr fun j hj => ?_
  unfold rdB
  rw [show (i * 128 + j) / 128 = i by omega, hu]
def rdT (d : Dk) (r : Bool) : Nat → UInt8 := if r then rdB d else d.s
def tellO (o : One) (r : Bool) : ByteArray := if r && o.un then o.wr else o.sf
theorem OneIs.tell {o : One} {d : Dk} {i : Nat} (h : OneIs o d i) (hok : d.Ok) (r : Bool) : tellO o r = bs (rdT d r) (i * 128) 128 := by
  obtain ⟨h1, h2, h3⟩ := h
  cases r with
  | false => exact h1
  | true =>
    cases hu : d.u i with
    | none =>
      rw [hu] at h2
      have : tellO o true = o.sf := by unfold tellO; rw [h2]; rfl
      rw [this, h1]
      exact rd_none hu
    | some t =>
      rw [hu] at h2
      have : tellO o true = o.wr := by unfold tellO; rw [h2]; rfl
      rw [this, h3 t hu]
      exact rd_bs hu (hok.un i t hu).2
def ByI (w0 w : World) (T : Nat → UInt8) (v : Value) (k : Nat) : Prop := w.ownsRow w0.heap.size 5 1 v (128 * k) (bcs T 0 (128 * k)) ∧ Fr [] w0 w
theorem ByI.push {w0 w' : World} {T : Nat → UInt8} {v' : Value} {k : Nat} {s : ByteArray} (hs : s = bs T (k * 128) 128) (hw : w'.ownsRow w0.heap.size 5 1 v' (128 * k + s.size) (bcs T 0 (128 * k) ++ Go.Lib.strCells s)) (hf : Fr [] w0 w') : ByI w0 w' T v' (k + 1) := by
  refine ⟨?_, hf⟩
  subst hs
  rw [strCells_bs, bs_size, show k * 128 = 128 * k by omega, bcs_next] at hw
  rw [show 128 * (k + 1) = 128 * k + 128 by omega]
  exact hw
set_option maxRecDepth 100000 in
set_option maxHeartbeats 2000000 in
theorem bytesR_any (r : Bool) (A : Addr) (cap : Nat) (L : List One) (d : Dk) (w : World) (hl : OS w (.slice (some A) d.n cap) L) (ha : Alike L d) (hok : d.Ok) :
    Calls Try.prog 85 #[.slice (some A) d.n cap, .bool r] w fun e w' => e = .returned (.string (bs (rdT d r) 0 (128 * d.n))) ∧ Fr [] w w' := by
  obtain ⟨i0, hi0, hz0, hz1, hz2⟩ := info3 Try.info5
  have hn1 := hok.n1
  have hn2 := hok.n2
  have HG := Lib.hid (fun i (hi : i < d.n) => ha.get hi)
  have HL := Lib.hid (fun W (hf : Fr [] w W) i o (hi : L[i]? = some o) => (hl.fr hf (NoO.nil _)).cell hi)
  have HT := Lib.hid (fun i o (h : OneIs o d i) => h.tell hok r)
  generalize d.n = N at *
  generalize hT : rdT d r = T at *
  have Hst : Hid (ByI w (w.alloc (.cells #[] 5)) T (.slice (some ⟨w.heap.size, 0, none⟩) 0 0) 0) := Lib.hid ⟨World.ownsRow_made w #[] 0 (Nat.le_refl _) (by simp [maxLen]) (by simp), (Fr.refl [] w).alloc _⟩
  clear hl ha hok hT
  obtain ⟨ab, ao, asp⟩ := A
  go_enter Try.func85, Try.ntmps85
  go_wp2_with fail
  go_loopg [5, 6] N (fun gg vo vi wr => ∃ (k : Nat), k + gg = N ∧ vi = .int .i64 (k : Int) ∧ ByI w wr T vo k)
  case atStart => exact ⟨0, by omega, rfl, Hst.out⟩
  case round =>
    obtain ⟨k, hk, rfl, ho, hf⟩ := hrel
    have Hk := Lib.hid hk
    have Hf := Lib.hid hf
    obtain ⟨Ao, co, rfl⟩ := own_shape ho
    have HO := Lib.hid ho
    clear hk ho
    by_cases hlt : k < N
    · have hlt' : (k : Int) < (N : Int) := by omega
      have hk0 : (0 : Int) ≤ (k : Int) := by omega
      have hwk : IntKind.i64.wrap ((k : Int) + 1) = (k : Int) + 1 := IntWalk.i64_in _ (by omega)
      obtain ⟨o, hLo, hOi⟩ := HG.out k hlt
      have hts := HT.out k o hOi
      obtain ⟨q', o', hqa, hqlt, x0, x1, x2⟩ := HL.out _ hf _ _ hLo
      injection hqa with hqa
      injection hqa with e1 e2 e3
      subst e1 e2 e3
      have hsz : (tellO o r).size = 128 := by rw [hts, bs_size]
      have HPush := Lib.hid (fun (v' : Value) (w' : World) (h1 : w'.ownsRow w.heap.size 5 1 v' (128 * k + (tellO o r).size) (bcs T 0 (128 * k) ++ Go.Lib.strCells (tellO o r))) (h2 : Fr [] w w') => ByI.push hts h1 h2)
      have hm1 : 128 * k + (tellO o r).size ≤ maxLen := by rw [hsz]; simp only [maxLen]; omega
      have hm2 : 128 * k + (tellO o r).size ≤ 140737488355328 := by rw [hsz]; omega
      have Hsz := hf.size
      clear hLo hOi hts hsz hf
      obtain ⟨sf, wr_, un⟩ := o
      simp only [oc0, oc1, oc2] at x0 x1 x2
      cases r with
      | false =>
        change Hid (∀ (v' : Value) (w' : World), w'.ownsRow w.heap.size 5 1 v' (128 * k + sf.size) (bcs T 0 (128 * k) ++ Go.Lib.strCells sf) → Fr [] w w' → ByI w w' T v' (k + 1)) at HPush
        change 128 * k + sf.size ≤ _ at hm1
        change 128 * k + sf.size ≤ _ at hm2
        go_wp2_with (at_builtin; go_must (refine Go.Lib.wpList_append_own_string _ rfl (.tmp 29) (.tmp 34) 30 9 rfl w.heap.size 5 i0 Try.underlying30 Try.underlying9 hi0 hz0 hz1 hz2 (.slice Ao (128 * k) co) (128 * k) (bcs T 0 (128 * k)) rfl HO.out _ rfl hm1 hm2 Hsz ?_; intro v3 w3 hown3 hg3 hnn3; have hf3 := Hf.out.own HO.out hg3; have hE3 := HPush.out _ _ hown3 hf3; have HEnd := Lib.hid hE3; clear hE3 hf3 hown3 hg3 hnn3))
        go_roundg (N - (k + 1))
        case measure => have := Hk.out; omega
        case rel => exact ⟨k + 1, by have := Hk.out; omega, by go_num, HEnd.out⟩
      | true =>
        cases un with
        | false =>
          change Hid (∀ (v' : Value) (w' : World), w'.ownsRow w.heap.size 5 1 v' (128 * k + sf.size) (bcs T 0 (128 * k) ++ Go.Lib.strCells sf) → Fr [] w w' → ByI w w' T v' (k + 1)) at HPush
          change 128 * k + sf.size ≤ _ at hm1
          change 128 * k + sf.size ≤ _ at hm2
          go_wp2_with (at_builtin; go_must (refine Go.Lib.wpList_append_own_string _ rfl (.tmp 29) (.tmp 34) 30 9 rfl w.heap.size 5 i0 Try.underlying30 Try.underlying9 hi0 hz0 hz1 hz2 (.slice Ao (128 * k) co) (128 * k) (bcs T 0 (128 * k)) rfl HO.out _ rfl hm1 hm2 Hsz ?_; intro v3 w3 hown3 hg3 hnn3; have hf3 := Hf.out.own HO.out hg3; have hE3 := HPush.out _ _ hown3 hf3; have HEnd := Lib.hid hE3; clear hE3 hf3 hown3 hg3 hnn3))
          go_roundg (N - (k + 1))
          case measure => have := Hk.out; omega
          case rel => exact ⟨k + 1, by have := Hk.out; omega, by go_num, HEnd.out⟩
        | true =>
          change Hid (∀ (v' : Value) (w' : World), w'.ownsRow w.heap.size 5 1 v' (128 * k + wr_.size) (bcs T 0 (128 * k) ++ Go.Lib.strCells wr_) → Fr [] w w' → ByI w w' T v' (k + 1)) at HPush
          change 128 * k + wr_.size ≤ _ at hm1
          change 128 * k + wr_.size ≤ _ at hm2
          go_wp2_with (at_builtin; go_must (refine Go.Lib.wpList_append_own_string _ rfl (.tmp 22) (.tmp 27) 30 9 rfl w.heap.size 5 i0 Try.underlying30 Try.underlying9 hi0 hz0 hz1 hz2 (.slice Ao (128 * k) co) (128 * k) (bcs T 0 (128 * k)) rfl HO.out _ rfl hm1 hm2 Hsz ?_; intro v3 w3 hown3 hg3 hnn3; have hf3 := Hf.out.own HO.out hg3; have hE3 := HPush.out _ _ hown3 hf3; have HEnd := Lib.hid hE3; clear hE3 hf3 hown3 hg3 hnn3))
          go_roundg (N - (k + 1))
          case measure => have := Hk.out; omega
          case rel => exact ⟨k + 1, by have := Hk.out; omega, by go_num, HEnd.out⟩
    · have hlt' : ¬ (k : Int) < (N : Int) := by omega
      obtain rfl : N = k := by have := Hk.out; omega
      have hv : (.slice Ao (128 * N) co : Value) ≠ .slice none 0 0 := fun h => by injection h with _ h _; omega
      obtain ⟨g, cap', cs, e1, h1, h2, h2', h3, h4⟩ := own_some HO.out hv
      injection e1 with e1 _ e2
      subst e1 e2
      have hwb := Wb.of_row (l := T) (n := 128 * N) h3 0 h4
      have hcv := conv_wb (o := 0) (n := 128 * N) (cap := co) hwb (by omega)
      rw [bs_congr (l' := T) (o' := 0) (fun i _ => by rw [Nat.zero_add])] at hcv
      clear h1 h2 h2' h3 h4 hwb hv
      go_wp2_with fail
      go_ret
      exact ⟨rfl, Hf.out⟩
theorem rImage_any (q : Nat) (d : Dk) (w : World) (h : RD w q d) : Calls Try.prog 43 #[ptr q] w fun e w' => e = .returned (.string d.image) ∧ Fr [] w w' := by
  obtain ⟨A, cap, cv, l, hb, hl, ha, hc, hA⟩ := h.form
  have HB := Lib.hid (bytesR_any true A cap l d w hl ha h.ok)
  have E := Lib.hid (show bs (rdT d true) 0 (128 * d.n) = d.image from rfl)
  have c0 := hb.cell 0
  simp at c0
  clear h hb hl ha hc hA
  generalize d.image = V at *
  go_enter Try.func43, Try.ntmps43
  go_wp2_with (go_at_call 85; refine HB.out.mono ?_; rintro e w1 ⟨rfl, hf1⟩)
  go_ret
  exact ⟨by rw [E.out]; rfl, hf1⟩
theorem rSafe_any (q : Nat) (d : Dk) (w : World) (h : RD w q d) : Calls Try.prog 44 #[ptr q] w fun e w' => e = .returned (.string d.safe) ∧ Fr [] w w' := by
  obtain ⟨A, cap, cv, l, hb, hl, ha, hc, hA⟩ := h.form
  have HB := Lib.hid (bytesR_any false A cap l d w hl ha h.ok)
  have E := Lib.hid (show bs (rdT d false) 0 (128 * d.n) = d.safe from rfl)
  have c0 := hb.cell 0
  simp at c0
  clear h hb hl ha hc hA
  generalize d.safe = V at *
  go_enter Try.func44, Try.ntmps44
  go_wp2_with (go_at_call 85; refine HB.out.mono ?_; rintro e w1 ⟨rfl, hf1⟩)
  go_ret
  exact ⟨by rw [E.out]; rfl, hf1⟩
theorem rAfter_any (q : Nat) (d : Dk) (A : Option Addr) (n cap : Nat) (l : List Int) (w : World) (h : RD w q d) (hz : Zw w (.slice A n cap) l) : Calls Try.prog 97 #[ptr q, .slice A n cap] w fun e w' => e = .returned (.string (d.after l)) ∧ Fr [] w w' := by
  have HA := Lib.hid (after_any q d A n cap l w h hz)
  have HB := Lib.hid (fun W A cap L (hl : OS W (.slice (some A) d.n cap) L) (ha : Alike L (d.die l)) => bytesR_any false A cap L (d.die l) W hl ha (h.ok.die l))
  have E := Lib.hid (show bs (rdT (d.die l) false) 0 (128 * (d.die l).n) = d.after l from rfl)
  clear h hz
  generalize d.after l = V at *
  go_enter Try.func97, Try.ntmps97
  go_wp2_with (first
    | (go_at_call 113; refine HA.out.mono ?_; rintro e w1 ⟨A', cap', lo, rfl, hl, ha, hf1⟩)
    | (go_at_call 85; refine (HB.out _ _ _ _ hl ha).mono ?_; rintro e w2 ⟨rfl, hf2⟩))
  go_ret
  exact ⟨by rw [E.out]; rfl, hf1.trans hf2⟩
end Go.Proofs.Ythmnloapjdalpaa
