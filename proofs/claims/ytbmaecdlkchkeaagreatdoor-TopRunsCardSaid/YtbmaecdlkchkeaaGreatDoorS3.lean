/- A space in memory: a memory, and each partition's table; is, In, Out. A space: rows of pages; slices.Clone and slices.Clip of them; In, Table. A space: Load. -/
import Derived.Test.YtbmaecdlkchkeaaGreatDoorW13
import Derived.Lib.Hide
import Derived.Test.YtbmaecdlkchkeaaGreatDoorB6
namespace Go.Proofs.YtbmaecdlkchkeaaGreatDoor
open Go.RowKit
set_option linter.unusedVariables false
set_option linter.unusedSimpArgs false
set_option maxRecDepth 100000
/-- What a space is. -/
structure Sp where
  st : St
  tb : List (List Pg)
/-- Blocks of S hold no pages. -/
def NoT (t : TypeId) (w : World) (S : List Nat) : Prop := ∀ k, k ∈ S → ∀ cs mk, w.heap[k]? ≠ some (.cells cs t mk)
theorem NoT.nil (t : TypeId) (w : World) : NoT t w [] := fun k hk => by cases hk
theorem Blk.not {w : World} {k : Nat} {t t' : TypeId} {cs : Array Value} (h : Blk w k t cs) (ht : t' ≠ t) : NoT t' w [k] := by
  intro j hj cs' mk' he
  simp at hj
  subst hj
  unfold Blk at h
  rw [h] at he
  injection he with he
  injection he with _ he _
  exact ht he.symm
theorem NoT.app {t : TypeId} {w : World} {S T : List Nat} (h : NoT t w S) (h' : NoT t w T) : NoT t w (S ++ T) := by
  intro k hk
  rcases List.mem_append.1 hk with hk | hk
  · exact h k hk
  · exact h' k hk
theorem Blk.ne_type {w : World} {k k' : Nat} {t t' : TypeId} {cs cs' : Array Value} (h : Blk w k t cs) (h' : Blk w k' t' cs') (ht : t ≠ t') : k ≠ k' := by
  rintro rfl
  exact ht (h.eq h').1
/-- A table, in a block of pages. -/
def TbT (w : World) (v : Value) (t : List Pg) : Prop := ∃ A c, v = .slice A t.length c ∧ t.length ≤ c ∧ c ≤ maxLen ∧ (A = none → t = []) ∧ ∃ b cb mk, w.heap[b]? = some (.cells cb 82 mk) ∧ Tb w b v t
theorem TbT.fr {S : List Nat} {w w' : World} {v : Value} {t : List Pg} (h : TbT w v t) (hf : Fr S w w') (hS : NoT 82 w S) : TbT w' v t := by
  obtain ⟨A, c, h1, h2, h3, h4, b, cb, mk, hb, ht⟩ := h
  have hn : b ∉ S := fun hk => hS b hk cb mk hb
  exact ⟨A, c, h1, h2, h3, h4, b, cb, mk, (hf.block b (Array.getElem?_eq_some_iff.1 hb).1 hn).trans hb, ht.fr hf hn⟩
/-- A space: its struct in block s, its memory in p and F, the row of its tables in g. -/
structure SpAt (w : World) (s p F g : Nat) (x : Sp) : Prop where
  hb : ∃ cap, Blk w s 87 #[ptr p, .slice (some ⟨g, 0, none⟩) x.tb.length cap] ∧ x.tb.length ≤ cap ∧ cap ≤ maxLen
  mem : MemAt w p F x.st
  row : ∃ cs, Blk w g 43 cs ∧ ∀ (i : Nat) (t : List Pg), x.tb[i]? = some t → ∃ v, cs[i]? = some v ∧ TbT w v t
  n1 : 1 ≤ x.tb.length
  n2 : x.tb.length ≤ 8
  n3 : ∀ (i : Nat) (t : List Pg), x.tb[i]? = some t → t.length ≤ 16
section
variable {w w' : World} {s p F g : Nat} {x : Sp}
theorem SpAt.blks (h : SpAt w s p F g x) : (∃ cs, Blk w s 87 cs) ∧ (∃ cs, Blk w p 123 cs) ∧ (∃ cs, Blk w F 125 cs) ∧ ∃ cs, Blk w g 43 cs := by
  obtain ⟨⟨cap, hb, -⟩, ⟨⟨⟨c2, h2, -⟩, -, -⟩, ⟨c3, h3, -⟩⟩, ⟨cs, hg, -⟩, -⟩ := h
  exact ⟨⟨_, hb⟩, ⟨_, h2⟩, ⟨_, h3⟩, ⟨_, hg⟩⟩
theorem SpAt.not (h : SpAt w s p F g x) {t : TypeId} (t1 : t ≠ 87) (t2 : t ≠ 123) (t3 : t ≠ 125) (t4 : t ≠ 43) : NoT t w [s, p, F, g] := by
  obtain ⟨⟨c1, h1⟩, ⟨c2, h2⟩, ⟨c3, h3⟩, ⟨c4, h4⟩⟩ := h.blks
  exact NoT.app (S := [s]) (h1.not t1) (NoT.app (S := [p]) (h2.not t2) (NoT.app (S := [F]) (h3.not t3) (h4.not t4)))
theorem SpAt.ne (h : SpAt w s p F g x) : s ≠ p ∧ s ≠ F ∧ s ≠ g ∧ p ≠ F ∧ p ≠ g ∧ F ≠ g := by
  obtain ⟨⟨c1, h1⟩, ⟨c2, h2⟩, ⟨c3, h3⟩, ⟨c4, h4⟩⟩ := h.blks
  exact ⟨h1.ne_type h2 (by decide), h1.ne_type h3 (by decide), h1.ne_type h4 (by decide), h2.ne_type h3 (by decide), h2.ne_type h4 (by decide), h3.ne_type h4 (by decide)⟩
theorem SpAt.lt (h : SpAt w s p F g x) : s < w.heap.size ∧ p < w.heap.size ∧ F < w.heap.size ∧ g < w.heap.size := by
  obtain ⟨⟨c1, h1⟩, ⟨c2, h2⟩, ⟨c3, h3⟩, ⟨c4, h4⟩⟩ := h.blks
  exact ⟨h1.lt, h2.lt, h3.lt, h4.lt⟩
/-- What is not the space's turns. -/
theorem SpAt.fr {S : List Nat} (h : SpAt w s p F g x) (hf : Fr S w w') (h1 : s ∉ S) (h2 : p ∉ S) (h3 : F ∉ S) (h4 : g ∉ S) (hS : NoT 82 w S) : SpAt w' s p F g x := by
  obtain ⟨⟨cap, hb, hc⟩, hm, ⟨cs, hg, hr⟩, n1, n2, n3⟩ := h
  refine ⟨⟨cap, hb.fr hf h1, hc⟩, hm.to hf h2 h3, ⟨cs, hg.fr hf h4, fun i t hi => ?_⟩, n1, n2, n3⟩
  obtain ⟨v, e1, e2⟩ := hr i t hi
  exact ⟨v, e1, e2.fr hf hS⟩
theorem SpAt.to (h : SpAt w s p F g x) (hf : Fr [] w w') : SpAt w' s p F g x := h.fr hf (by simp) (by simp) (by simp) (by simp) (NoT.nil _ _)
/-- The memory turns. -/
theorem SpAt.turnM (h : SpAt w s p F g x) {st' : St} (hm : MemAt w' p F st') (hf : Fr [F] w w') : SpAt w' s p F g ⟨st', x.tb⟩ := by
  obtain ⟨e1, e2, e3, e4, e5, e6⟩ := h.ne
  obtain ⟨-, -, ⟨c3, h3⟩, -⟩ := h.blks
  obtain ⟨⟨cap, hb, hc⟩, -, ⟨cs, hg, hr⟩, n1, n2, n3⟩ := h
  refine ⟨⟨cap, hb.fr hf (by simp; omega), hc⟩, hm, ⟨cs, hg.fr hf (by simp; omega), fun i t hi => ?_⟩, n1, n2, n3⟩
  obtain ⟨v, k1, k2⟩ := hr i t hi
  exact ⟨v, k1, k2.fr hf (h3.not (by decide))⟩
theorem SpAt.cells (h : SpAt w s p F g x) : ∃ cap, w.cell? ⟨s, 0, none⟩ = some (ptr p) ∧ w.cell? ⟨s, 1, none⟩ = some (.slice (some ⟨g, 0, none⟩) x.tb.length cap) := by
  obtain ⟨⟨cap, hb, hc⟩, -⟩ := h
  exact ⟨cap, hb.cell 0, hb.cell 1⟩
theorem SpAt.table (h : SpAt w s p F g x) {i : Nat} {t : List Pg} (hi : x.tb[i]? = some t) : ∃ A c b, w.cell? ⟨g, i, none⟩ = some (.slice A t.length c) ∧ t.length ≤ c ∧ c ≤ maxLen ∧ Tb w b (.slice A t.length c) t ∧ b < w.heap.size ∧ TbT w (.slice A t.length c) t := by
  obtain ⟨-, -, ⟨cs, hg, hr⟩, -⟩ := h
  obtain ⟨v, e1, hT⟩ := hr i t hi
  have hT' := hT
  obtain ⟨A, c, rfl, h2, h3, -, b, cb, mk, hb, ht⟩ := hT
  exact ⟨A, c, b, by rw [hg.cell]; exact e1, h2, h3, ht, (Array.getElem?_eq_some_iff.1 hb).1, hT'⟩
end
theorem in_any (n a b : Int) (w : World) : Calls Tryz.prog 30 #[.int .i64 n, .int .i64 a, .int .i64 b] w fun e w' => e = .returned (.bool (decide (a ≤ n) && decide (n ≤ b))) ∧ w = w' := by
  by_cases h1 : a ≤ n
  · by_cases h2 : n ≤ b
    · rw [decide_eq_true h1, decide_eq_true h2]
      go_enter Tryz.func30, Tryz.ntmps30
      go_wp2
      go_ret
      exact ⟨rfl, rfl⟩
    · rw [decide_eq_true h1, decide_eq_false h2]
      go_enter Tryz.func30, Tryz.ntmps30
      go_wp2
      go_ret
      exact ⟨rfl, rfl⟩
  · rw [decide_eq_false h1, Bool.false_and]
    go_enter Tryz.func30, Tryz.ntmps30
    go_wp2
    go_ret
    exact ⟨rfl, rfl⟩
/-- Is a partition there? -/
def hasP (x : Sp) (i : Int) : Bool := decide (0 ≤ i) && decide (i < x.tb.length)
theorem is_any (s p F g : Nat) (x : Sp) (i : Int) (w : World) (h : SpAt w s p F g x) : Calls Tryz.prog 34 #[ptr s, .int .i64 i] w fun e w' => e = .returned (.bool (hasP x i)) ∧ w = w' := by
  obtain ⟨cap, c0, c1⟩ := h.cells
  have hn := h.n2
  have hn1 := h.n1
  have E : Hid ((decide (0 ≤ i) && decide (i ≤ (x.tb.length : Int) - 1)) = hasP x i) := Lib.hid (by
    unfold hasP
    rw [show (decide (i ≤ (x.tb.length : Int) - 1)) = decide (i < (x.tb.length : Int)) from by rw [decide_eq_decide]; omega])
  have HI := Lib.hid (fun W => in_any i 0 ((x.tb.length : Int) - 1) W)
  rw [E.out] at HI
  have hw : IntKind.i64.wrap ((x.tb.length : Int) - 1) = (x.tb.length : Int) - 1 := IntWalk.i64_in _ (by omega)
  clear h E
  generalize hasP x i = B at *
  generalize x.tb.length = N at *
  go_enter Tryz.func34, Tryz.ntmps34
  go_wp2_with (go_at_call 30; refine (HI.out _).mono ?_; rintro e w1 ⟨rfl, rfl⟩)
  go_ret
  exact ⟨rfl, rfl⟩
theorem hasP_some {x : Sp} {i : Int} (h : hasP x i = true) : ∃ (k : Nat) (t : List Pg), i = (k : Int) ∧ x.tb[k]? = some t := by
  unfold hasP at h
  simp only [Bool.and_eq_true, decide_eq_true_eq] at h
  exact ⟨i.toNat, x.tb[i.toNat]'(by omega), by omega, List.getElem?_eq_getElem (by omega)⟩
/-- A partition's table; none: none. -/
def tbOf (x : Sp) (i : Int) : List Pg := if hasP x i then (x.tb[i.toNat]?).getD [] else []
theorem tbOf_some {x : Sp} {k : Nat} {t : List Pg} (h : x.tb[k]? = some t) : hasP x (k : Int) = true ∧ tbOf x (k : Int) = t := by
  have hk : k < x.tb.length := (List.getElem?_eq_some_iff.1 h).1
  have h1 : hasP x (k : Int) = true := by
    unfold hasP
    simp only [Bool.and_eq_true, decide_eq_true_eq]
    omega
  refine ⟨h1, ?_⟩
  unfold tbOf
  rw [if_pos h1, Int.toNat_natCast, h]
  rfl
def outE0 (x : Sp) (i : Int) (s : ByteArray) : Int := if hasP x i = false then 120 else if 255 < s.size then 122 else 0
def outE (x : Sp) (i a : Int) (s : ByteArray) : Int := if outE0 x i s ≠ 0 then outE0 x i s else if wrE x.st (tbOf x i) a s ≠ 0 then 121 else 0
def outS (x : Sp) (i a : Int) (s : ByteArray) : Sp := if outE0 x i s ≠ 0 then x else ⟨wrS x.st (tbOf x i) a s, x.tb⟩
def SpT (s p F g : Nat) (w : World) (x : Sp) (w' : World) : Prop := SpAt w' s p F g x ∧ Fr [F, g] w w'
end Go.Proofs.YtbmaecdlkchkeaaGreatDoor
namespace Go.Proofs.YtbmaecdlkchkeaaGreatDoor
open Go.RowKit
set_option linter.unusedVariables false
set_option linter.unusedSimpArgs false
set_option maxRecDepth 100000
/-- The cells of a table. -/
def cellsT (t : List Pg) : List Value := t.flatMap fun p => [.int .i64 p.f, .int .i64 p.r]
theorem cellsT_len (t : List Pg) : (cellsT t).length = t.length * 2 := by
  induction t with
  | nil => rfl
  | cons p t ih => simp [cellsT] at ih ⊢; omega
theorem cellsT_at : ∀ (t : List Pg) (i : Nat) (p : Pg), t[i]? = some p → (cellsT t)[i * 2]? = some (.int .i64 p.f) ∧ (cellsT t)[i * 2 + 1]? = some (.int .i64 p.r) := by
  intro t
  induction t with
  | nil => intro i p h; simp at h
  | cons q t ih =>
    intro i p h
    cases i with
    | zero => simp at h; subst h; exact ⟨rfl, rfl⟩
    | succ i =>
      have h1 := ih i p (by simpa using h)
      have e : cellsT (q :: t) = .int .i64 q.f :: .int .i64 q.r :: cellsT t := rfl
      rw [e]
      constructor
      · rw [show (i + 1) * 2 = i * 2 + 1 + 1 from by omega, List.getElem?_cons_succ, List.getElem?_cons_succ]; exact h1.1
      · rw [show (i + 1) * 2 + 1 = (i * 2 + 1) + 1 + 1 from by omega, List.getElem?_cons_succ, List.getElem?_cons_succ]; exact h1.2
theorem cellsT_one (t : List Pg) : ∀ u ∈ cellsT t, u.oneCell' = true := by
  intro u hu
  simp only [cellsT, List.mem_flatMap] at hu
  obtain ⟨p, _, hu⟩ := hu
  simp at hu
  rcases hu with rfl | rfl <;> rfl
theorem Tb.cells {w : World} {b off : Nat} {n cap : Nat} {t : List Pg} (h : Tb w b (.slice (some ⟨b, off, none⟩) n cap) t) : ∀ (j : Nat) (u : Value), (cellsT t)[j]? = some u → w.cell? ((⟨b, off, none⟩ : Addr).add j) = some u := by
  intro j u hu
  have hj : j < t.length * 2 := by have := (List.getElem?_eq_some_iff.1 hu).1; rwa [cellsT_len] at this
  obtain ⟨p, hp⟩ : ∃ p, t[j / 2]? = some p := ⟨_, List.getElem?_eq_getElem (by omega)⟩
  obtain ⟨off', hA, _, c0, c1⟩ := h.at_ hp
  injection hA with hA
  injection hA with _ ho
  subst ho
  obtain ⟨k0, k1⟩ := cellsT_at t (j / 2) p hp
  rw [addr_add]
  rcases Nat.mod_two_eq_zero_or_one j with hm | hm
  · have e : j / 2 * 2 = j := by omega
    rw [e] at k0 c0
    rw [k0] at hu
    injection hu with hu
    subst hu
    exact c0
  · have e : j / 2 * 2 + 1 = j := by omega
    rw [e] at k1
    rw [Nat.add_assoc, e] at c1
    rw [k1] at hu
    injection hu with hu
    subst hu
    exact c1
theorem Tryz.info82 : (Tryz.prog.info? 82).map (fun i => (i.zero, i.size, i.bytes)) = some (some (.agg #[.int .i64 0, .int .i64 0]), 2, 16) := by kernel_rfl
/-- A row of pages, in block g. -/
def PB (w : World) (g : Nat) (t : List Pg) : Prop := ∃ cs, Blk w g 82 cs ∧ ∀ (j : Nat) (p : Pg), t[j]? = some p → cs[j * 2]? = some (.int .i64 p.f) ∧ cs[j * 2 + 1]? = some (.int .i64 p.r)
section
variable {w w' : World} {g : Nat} {t : List Pg}
theorem PB.lt (h : PB w g t) : g < w.heap.size := by
  obtain ⟨cs, hb, -⟩ := h
  exact hb.lt
theorem PB.fr {S : List Nat} (h : PB w g t) (hf : Fr S w w') (hg : g ∉ S) : PB w' g t := by
  obtain ⟨cs, hb, hc⟩ := h
  exact ⟨cs, hb.fr hf hg, hc⟩
theorem PB.cells (h : PB w g t) {j : Nat} {p : Pg} (hj : t[j]? = some p) : w.cell? ⟨g, j * 2, none⟩ = some (.int .i64 p.f) ∧ w.cell? ⟨g, j * 2 + 1, none⟩ = some (.int .i64 p.r) := by
  obtain ⟨cs, hb, hc⟩ := h
  rw [hb.cell, hb.cell]
  exact hc j p hj
theorem PB.frozen (h : PB w g t) (i : Nat) : w.frozen? ⟨g, i, none⟩ = false := by
  obtain ⟨cs, hb, hc⟩ := h
  exact hb.frozen i
theorem PB.tb (h : PB w g t) {cap : Nat} (h1 : t.length ≤ cap) (h2 : cap ≤ maxLen) : TbT w (.slice (some ⟨g, 0, none⟩) t.length cap) t := by
  have hlt := h.lt
  have h' := h
  obtain ⟨cs, hb, hc⟩ := h
  refine ⟨_, cap, rfl, h1, h2, (fun h => by cases h), g, cs, _, hb, Nat.le_trans h1 h2, _, cap, rfl, fun i p hi => ⟨0, rfl, hlt, ?_⟩⟩
  obtain ⟨c0, c1⟩ := h'.cells hi
  rw [Nat.zero_add]
  exact ⟨c0, c1⟩
/-- A right is written. -/
theorem PB.set_ (h : PB w g t) {i : Nat} {p : Pg} (hi : t[i]? = some p) (r : Int) : PB (w.setCell ⟨g, i * 2 + 1, none⟩ (.int .i64 r)) g (t.set i ⟨p.f, r⟩) := by
  obtain ⟨cs, hb, hc⟩ := h
  have hsz := (Array.getElem?_eq_some_iff.1 (hc i p hi).2).1
  refine ⟨_, hb.set_ (i * 2 + 1) (.int .i64 r), fun j q hj => ?_⟩
  rw [List.getElem?_set] at hj
  rw [Array.getElem?_setIfInBounds, Array.getElem?_setIfInBounds]
  by_cases e : i = j
  · subst e
    rw [if_pos rfl] at hj
    split at hj
    · injection hj with hj
      subst hj
      exact ⟨by rw [if_neg (by omega)]; exact (hc i p hi).1, by rw [if_pos rfl, if_pos (by omega)]⟩
    · cases hj
  · rw [if_neg e] at hj
    obtain ⟨k0, k1⟩ := hc j q hj
    exact ⟨by rw [if_neg (by omega)]; exact k0, by rw [if_neg (by omega)]; exact k1⟩
end
theorem own_some {w : World} {base : Nat} {e : TypeId} {size : Nat} {v : Value} {n : Nat} {xs : List Value} (h : w.ownsRow base e size v n xs) (hv : v ≠ .slice none 0 0) :
    ∃ g cap cs, v = .slice (some ⟨g, 0, none⟩) n cap ∧ base ≤ g ∧ n ≤ cap ∧ cap ≤ maxLen ∧ Blk w g e cs ∧ ∀ (j : Nat) (u : Value), xs[j]? = some u → cs[j]? = some u := by
  rcases h.2 with ⟨h1, h2⟩ | ⟨g, cap, cur, rfl, hb, hh, h3, h4, h5, h6⟩
  · exact absurd h1 hv
  · refine ⟨g, cap, cur, rfl, hb, h3, h4, hh, fun j u hu => ?_⟩
    rw [← h6, List.getElem?_take] at hu
    split at hu
    · simpa using hu
    · cases hu

theorem own_pb {w : World} {B : Nat} {v : Value} {t : List Pg} (h : w.ownsRow B 82 2 v t.length (cellsT t)) (h0 : 1 ≤ t.length) : ∃ g cap, v = .slice (some ⟨g, 0, none⟩) t.length cap ∧ B ≤ g ∧ t.length ≤ cap ∧ cap ≤ maxLen ∧ PB w g t := by
  have hv : v ≠ .slice none 0 0 := by
    intro hv
    rcases h.2 with ⟨h1, h2⟩ | ⟨g, cap, cur, h1, -⟩
    · omega
    · rw [hv] at h1
      cases h1
  obtain ⟨g, cap, cs, rfl, h1, h2, h3, h4, h5⟩ := own_some h hv
  exact ⟨g, cap, rfl, h1, h2, h3, cs, h4, fun j p hj => ⟨h5 _ _ (cellsT_at t j p hj).1, h5 _ _ (cellsT_at t j p hj).2⟩⟩
theorem cloneP_any (t : List Pg) (A : Option Addr) (c : Nat) (w : World) (h : TbT w (.slice A t.length c) t) (h0 : 1 ≤ t.length) (h16 : t.length ≤ 16) : Calls Tryz.prog 35 #[.slice A t.length c] w fun e w' => ∃ g cap, e = .returned (.slice (some ⟨g, 0, none⟩) t.length cap) ∧ PB w' g t ∧ t.length ≤ cap ∧ cap ≤ maxLen ∧ Fr [] w w' ∧ w.heap.size ≤ g := by
  obtain ⟨i0, hi0, hz0, hz1, hz2⟩ := info3 Tryz.info82
  obtain ⟨A', c', e, h1, h2, h3, b, cb, mk, hb, ht⟩ := h
  injection e with e1 _ e2
  subst e1 e2
  obtain ⟨p0, hp0⟩ : ∃ p, t[0]? = some p := ⟨_, List.getElem?_eq_getElem (by omega)⟩
  obtain ⟨off, rfl, -⟩ := ht.at_ hp0
  have hf0 : Fr [] w (w.alloc (.cells #[] 82)) := (Fr.refl [] w).alloc _
  have hnil := fun w => Lib.run_eql_slice_nil (P := Tryz.prog) w 43 82 (some ⟨b, off, none⟩) t.length c 0 0 Tryz.underlying43
  have Hm0 := Lib.hid (World.ownsRow_made (base := w.heap.size) (e := 82) (size := 2) w #[] 0 (Nat.le_refl _) (by simp [maxLen]) (by simp))
  have Hc := Lib.hid ((ht.fr hf0 (by simp)).cells)
  have Hf0 := Lib.hid hf0
  have Hl := Lib.hid (cellsT_len t)
  have Ho := Lib.hid (cellsT_one t)
  have HE := Lib.hid (fun (W : World) (v : Value) (ho : W.ownsRow w.heap.size 82 2 v t.length (cellsT t)) => own_pb ho h0)
  have hm1 : 0 + t.length ≤ maxLen := by simp only [maxLen]; omega
  have hm2 : (0 + t.length) * 16 ≤ 140737488355328 := by omega
  clear hb ht hf0 h0 h16 h3 hp0
  generalize cellsT t = XS at *
  generalize t.length = n at *
  go_enter Tryz.func35, Tryz.ntmps35
  go_wp2_with (at_builtin; go_must (refine wpList_append_own _ rfl (.tmp 5) (.tmp 6) 43 rfl w.heap.size 82 i0 (.agg #[.int .i64 0, .int .i64 0]) 2 16 Tryz.underlying43 hi0 hz0 hz1 hz2 rfl (Nat.succ_pos 1) _ 0 [] rfl Hm0.out ⟨b, off, none⟩ n c XS rfl Hl.out Hc.out Ho.out hm1 hm2 (by simp) ?_; intro v1 w1 hown1 hg1 hnn; simp only [List.nil_append, Nat.zero_add] at hown1; have hf1 := Hf0.out.own Hm0.out hg1; obtain ⟨g, cap, rfl, k1, k2, k3, k4⟩ := HE.out _ _ hown1; have K4 := Lib.hid k4; have HF1 := Lib.hid hf1; clear k4 hf1 hown1 hg1 hnn))
  go_ret
  exact ⟨g, cap, rfl, K4.out, k2, k3, HF1.out, k1⟩
theorem clip_any (A : Addr) (n cap : Nat) (h : n ≤ cap) (w : World) : Calls Tryz.prog 46 #[.slice (some A) n cap] w fun e w' => e = .returned (.slice (some A) n n) ∧ w = w' := by
  have hs := run_slice_hm (P := Tryz.prog) w 43 (some A) n cap (by kernel_rfl) .i64 .i64 (n : Int) (n : Int) (by omega) (Int.le_refl _) (by omega)
  go_enter Tryz.func46, Tryz.ntmps46
  go_wp2
  go_ret
  exact ⟨rfl, rfl⟩
/-- What Table tells. -/
def TableP (w : World) (x : Sp) (i : Int) (e : Ending) (w' : World) : Prop := (hasP x i = false ∧ e = .returned (.slice none 0 0) ∧ Fr [] w w') ∨ (hasP x i = true ∧ ∃ g, e = .returned (.slice (some ⟨g, 0, none⟩) (tbOf x i).length (tbOf x i).length) ∧ PB w' g (tbOf x i) ∧ Fr [] w w' ∧ w.heap.size ≤ g)
theorem Table_any (s p F g : Nat) (x : Sp) (i : Int) (w : World) (h : SpAt w s p F g x) (hn1 : ∀ (i : Nat) (t : List Pg), x.tb[i]? = some t → 1 ≤ t.length) : Calls Tryz.prog 13 #[ptr s, .int .i64 i] w (TableP w x i) := by
  have HI := Lib.hid (is_any s p F g x i w h)
  obtain ⟨cap, c0, c1⟩ := h.cells
  cases hp : hasP x i with
  | false =>
    rw [hp] at HI
    have HP := Lib.hid hp
    clear h hp
    go_enter Tryz.func13, Tryz.ntmps13
    go_wp2_with (go_at_call 34; refine HI.out.mono ?_; rintro e w1 ⟨rfl, rfl⟩)
    go_ret
    exact .inl ⟨HP.out, rfl, Fr.refl _ _⟩
  | true =>
    rw [hp] at HI
    have HP := Lib.hid hp
    obtain ⟨k, tb, rfl, hk⟩ := hasP_some hp
    have hkn : k < x.tb.length := (List.getElem?_eq_some_iff.1 hk).1
    obtain ⟨-, hto⟩ := tbOf_some hk
    have Hto := Lib.hid hto
    obtain ⟨A, c, b, c2, -, -, hTb, hbl, hTT⟩ := h.table hk
    have HC := Lib.hid (cloneP_any tb A c w hTT (hn1 k tb hk) (h.n3 k tb hk))
    have hk' : (k : Int) < (x.tb.length : Int) := by omega
    have hk0 : (0 : Int) ≤ (k : Int) := by omega
    clear h hp hto hTb hTT hk hkn
    generalize x.tb.length = N at *
    go_enter Tryz.func13, Tryz.ntmps13
    go_wp2_with (first
      | (go_at_call 34; refine HI.out.mono ?_; rintro e w1 ⟨rfl, rfl⟩)
      | (go_at_call 35; refine HC.out.mono ?_; rintro e w2 ⟨g', cap', rfl, h1, h2, h3, h4, h5⟩; have HB := Lib.hid h1; have HF := Lib.hid h4; clear h1 h4)
      | (go_at_call 46; refine (clip_any ⟨g', 0, none⟩ tb.length cap' h2 _).mono ?_; rintro e w3 ⟨rfl, rfl⟩))
    go_ret
    refine .inr ⟨HP.out, g', ?_, ?_, HF.out, h5⟩
    · rw [Hto.out]; rfl
    · rw [Hto.out]; exact HB.out
def inE0 (x : Sp) (i n : Int) : Int := if hasP x i = false then 120 else if n < 0 ∨ 255 < n then 122 else 0
def inE (x : Sp) (i a n : Int) : Int := if inE0 x i n ≠ 0 then inE0 x i n else if (rdRM x.st (tbOf x i) a n 1).2 ≠ 0 then 121 else 0
def inV (x : Sp) (i a n : Int) : ByteArray := if inE x i a n = 0 then ⟨(rdRM x.st (tbOf x i) a n 1).1.toArray⟩ else ⟨#[]⟩
theorem in_bad {x : Sp} {i a n v : Int} (h : inE0 x i n = v) (hv : v ≠ 0) : inE x i a n = v ∧ inV x i a n = ⟨#[]⟩ := by
  have e : inE x i a n = v := by unfold inE; rw [h, if_pos hv]
  exact ⟨e, by unfold inV; rw [e, if_neg hv]⟩
theorem In_any (s p F g : Nat) (x : Sp) (i a n : Int) (w : World) (h : SpAt w s p F g x) (ha : a ≤ 9223372036854775807) : Calls Tryz.prog 17 #[ptr s, .int .i64 i, .int .i64 a, .int .i64 n] w fun e w' => e = .returned (.tuple #[.string (inV x i a n), .int .i64 (inE x i a n)]) ∧ Fr [] w w' := by
  have HI := Lib.hid (is_any s p F g x i w h)
  obtain ⟨cap, c0, c1⟩ := h.cells
  cases hp : hasP x i with
  | false =>
    obtain ⟨E1, E2⟩ := in_bad (a := a) (show inE0 x i n = 120 by unfold inE0; rw [if_pos hp]) (by decide)
    rw [E1, E2]
    rw [hp] at HI
    clear h E1 E2 hp
    go_enter Tryz.func17, Tryz.ntmps17
    go_wp2_with (go_at_call 34; refine HI.out.mono ?_; rintro e w1 ⟨rfl, rfl⟩)
    go_ret2
    exact ⟨rfl, Fr.refl _ _⟩
  | true =>
    rw [hp] at HI
    have HN := Lib.hid (fun W => in_any n 0 255 W)
    by_cases hs : n < 0 ∨ 255 < n
    · obtain ⟨E1, E2⟩ := in_bad (a := a) (show inE0 x i n = 122 by unfold inE0; rw [if_neg (by rw [hp]; simp), if_pos hs]) (by decide)
      rw [E1, E2]
      have E3 : (decide ((0 : Int) ≤ n) && decide (n ≤ 255)) = false := by
        rw [Bool.and_eq_false_iff, decide_eq_false_iff_not, decide_eq_false_iff_not]
        omega
      rw [E3] at HN
      clear h E1 E2 hp hs E3
      go_enter Tryz.func17, Tryz.ntmps17
      go_wp2_with (first
        | (go_at_call 34; refine HI.out.mono ?_; rintro e w1 ⟨rfl, rfl⟩)
        | (go_at_call 30; refine (HN.out _).mono ?_; rintro e w1 ⟨rfl, rfl⟩))
      go_ret2
      exact ⟨rfl, Fr.refl _ _⟩
    · have E0 : inE0 x i n = 0 := by unfold inE0; rw [if_neg (by rw [hp]; simp), if_neg hs]
      have E3 : (decide ((0 : Int) ≤ n) && decide (n ≤ 255)) = true := by
        rw [Bool.and_eq_true, decide_eq_true_eq, decide_eq_true_eq]
        omega
      rw [E3] at HN
      obtain ⟨k, tb, rfl, hk⟩ := hasP_some hp
      have hkn : k < x.tb.length := (List.getElem?_eq_some_iff.1 hk).1
      obtain ⟨-, hto⟩ := tbOf_some hk
      obtain ⟨A, c, b, c2, -, -, hTb, hbl, hTT⟩ := h.table hk
      have HW := Lib.hid (Read_any b p F tb.length c x.st A tb a n 1 w.drew (hTb.fr (Fr.refl [] w).drew (by simp)) (h.to (Fr.refl [] w).drew).mem ha hbl)
      have E1 : inE x (k : Int) a n = if (rdRM x.st tb a n 1).2 ≠ 0 then 121 else 0 := by unfold inE; rw [E0, hto]; rfl
      have E2 : inV x (k : Int) a n = if (rdRM x.st tb a n 1).2 ≠ 0 then ⟨#[]⟩ else ⟨(rdRM x.st tb a n 1).1.toArray⟩ := by
        unfold inV
        rw [E1, hto]
        by_cases hh : (rdRM x.st tb a n 1).2 ≠ 0
        · rw [if_pos hh, if_pos hh, if_neg (by decide)]
        · rw [if_neg hh, if_neg hh, if_pos rfl]
      rw [E1, E2]
      have HK := Lib.hid (fun W (hf : Fr [] w.drew W) => (show W.cell? ⟨s, 0, none⟩ = some (ptr p) ∧ W.cell? ⟨s, 1, none⟩ = some (.slice (some ⟨g, 0, none⟩) x.tb.length cap) ∧ W.cell? ⟨g, k, none⟩ = some (.slice A tb.length c) from ⟨((Fr.refl [] w).drew.trans hf).cell_some c0 (by simp), ((Fr.refl [] w).drew.trans hf).cell_some c1 (by simp), ((Fr.refl [] w).drew.trans hf).cell_some c2 (by simp)⟩))
      have hk' : (k : Int) < (x.tb.length : Int) := by omega
      have hk0 : (0 : Int) ≤ (k : Int) := by omega
      unfold ReadP at HW
      clear h E0 E1 E2 E3 hp hs hto hTb hTT hk hkn
      generalize x.tb.length = N at *
      generalize tb.length = m at *
      generalize (rdRM x.st tb a n 1).2 = E at *
      generalize (⟨(rdRM x.st tb a n 1).1.toArray⟩ : ByteArray) = S at *
      by_cases hE : E = 0
      · rw [if_neg (by omega), if_neg (by omega)]
        subst hE
        go_enter Tryz.func17, Tryz.ntmps17
        go_wp2_with (first
          | (go_at_call 34; refine HI.out.mono ?_; rintro e w1 ⟨rfl, rfl⟩)
          | (go_at_call 30; refine (HN.out _).mono ?_; rintro e w1 ⟨rfl, rfl⟩))
        go_region_held3 (fun W => W.cell? ⟨s, 0, none⟩ = some (ptr p) ∧ W.cell? ⟨s, 1, none⟩ = some (.slice (some ⟨g, 0, none⟩) N cap) ∧ W.cell? ⟨g, k, none⟩ = some (.slice A m c)) (first | exact kk | exact ⟨c0, c1, c2⟩) (first
          | (go_at_call 47; refine HW.out.mono ?_; rintro e w2 ⟨rfl, hf2⟩; have kk := HK.out _ hf2))
        go_wp2_with fail
        go_ret2
        exact ⟨rfl, (Fr.refl [] w).drew.trans hf2⟩
      · rw [if_pos hE, if_pos hE]
        go_enter Tryz.func17, Tryz.ntmps17
        go_wp2_with (first
          | (go_at_call 34; refine HI.out.mono ?_; rintro e w1 ⟨rfl, rfl⟩)
          | (go_at_call 30; refine (HN.out _).mono ?_; rintro e w1 ⟨rfl, rfl⟩))
        go_region_held3 (fun W => W.cell? ⟨s, 0, none⟩ = some (ptr p) ∧ W.cell? ⟨s, 1, none⟩ = some (.slice (some ⟨g, 0, none⟩) N cap) ∧ W.cell? ⟨g, k, none⟩ = some (.slice A m c)) (first | exact kk | exact ⟨c0, c1, c2⟩) (first
          | (go_at_call 47; refine HW.out.mono ?_; rintro e w2 ⟨rfl, hf2⟩; have kk := HK.out _ hf2))
        go_wp2_with fail
        go_ret2
        exact ⟨rfl, (Fr.refl [] w).drew.trans hf2⟩
end Go.Proofs.YtbmaecdlkchkeaaGreatDoor
namespace Go.Proofs.YtbmaecdlkchkeaaGreatDoor
open Go.RowKit
set_option linter.unusedVariables false
set_option linter.unusedSimpArgs false
set_option maxRecDepth 100000
/-- A page behind a load. -/
def pgL (t : ByteArray) (j : Nat) (p : Pg) : Pg := ⟨p.f, if 256 * j < t.size then 5 else 3⟩
/-- A table of which the pages ahead of i are loaded. -/
def ldT (tb : List Pg) (t : ByteArray) (i : Nat) : List Pg := tb.mapIdx fun j p => if j < i then pgL t j p else p
def ldO (m : St) (f : Int) (t : ByteArray) (i : Nat) : St := if 256 * i < t.size then layS (clS m f) f 0 (t.extract (256 * i) (min t.size (256 * i + 256))) else clS m f
def ldM (st : St) (tb : List Pg) (t : ByteArray) : Nat → St
  | 0 => st
  | i + 1 => ldO (ldM st tb t i) ((tb[i]?).getD ⟨0, 0⟩).f t i
theorem ldT_len (tb : List Pg) (t : ByteArray) (i : Nat) : (ldT tb t i).length = tb.length := by simp [ldT]
theorem ldT_at {tb : List Pg} {t : ByteArray} {i : Nat} {p : Pg} (h : tb[i]? = some p) : (ldT tb t i)[i]? = some p := by
  unfold ldT
  rw [List.getElem?_mapIdx, h]
  simp
theorem ldT_zero (tb : List Pg) (t : ByteArray) : ldT tb t 0 = tb := by
  unfold ldT
  refine List.ext_getElem? fun j => ?_
  rw [List.getElem?_mapIdx]
  cases tb[j]? <;> simp
theorem ldT_next {tb : List Pg} {t : ByteArray} {i : Nat} {p : Pg} (h : tb[i]? = some p) : ldT tb t (i + 1) = (ldT tb t i).set i (pgL t i p) := by
  refine List.ext_getElem? fun j => ?_
  rw [List.getElem?_set]
  have hi : i < tb.length := (List.getElem?_eq_some_iff.1 h).1
  by_cases e : i = j
  · subst e
    rw [if_pos rfl, if_pos (by rw [ldT_len]; exact hi)]
    unfold ldT
    rw [List.getElem?_mapIdx, h]
    simp
  · rw [if_neg e]
    unfold ldT
    rw [List.getElem?_mapIdx, List.getElem?_mapIdx]
    cases tb[j]? with
    | none => rfl
    | some q =>
      simp only [Option.map_some]
      by_cases hj : j < i
      · rw [if_pos (by omega), if_pos hj]
      · rw [if_neg (by omega), if_neg hj]
def ldE (x : Sp) (i : Int) (t : ByteArray) : Int := if hasP x i = false then 120 else if (tbOf x i).length * 256 < t.size then 122 else 0
def ldS (x : Sp) (i : Int) (t : ByteArray) : Sp := if ldE x i t ≠ 0 then x else ⟨ldM x.st (tbOf x i) t (tbOf x i).length, x.tb.set i.toNat (ldT (tbOf x i) t (tbOf x i).length)⟩
theorem SpAt.setT {w W : World} {s p F g : Nat} {x : Sp} (h : SpAt w s p F g x) (hf : Fr [F] w W) {st' : St} (hm : MemAt W p F st') {v : Value} {t' : List Pg} (hv : TbT W v t') (ht : t'.length ≤ 16) {k : Nat} (hk : k < x.tb.length) : SpAt (W.setCell ⟨g, k, none⟩ v) s p F g ⟨st', x.tb.set k t'⟩ := by
  obtain ⟨e1, e2, e3, e4, e5, e6⟩ := h.ne
  obtain ⟨-, -, ⟨c3, h3⟩, -⟩ := h.blks
  obtain ⟨⟨cap, hb, hc⟩, -, ⟨cs, hg, hr⟩, n1, n2, n3⟩ := h
  have hg1 := hg.fr hf (by simp; omega)
  have hfg : Fr [g] W (W.setCell ⟨g, k, none⟩ v) := (Fr.refl [g] W).setCell (p := ⟨g, k, none⟩) (.inl (by simp)) v
  have hng : NoT 82 W [g] := hg1.not (by decide)
  refine ⟨⟨cap, by rw [List.length_set]; exact (hb.fr hf (by simp; omega)).fr hfg (by simp; omega), by rw [List.length_set]; exact hc⟩, hm.to hfg (by simp; omega) (by simp; omega), ⟨_, hg1.set_ k v, fun i t hi => ?_⟩, by rw [List.length_set]; exact n1, by rw [List.length_set]; exact n2, fun i t hi => ?_⟩
  · rw [List.getElem?_set] at hi
    have hkc : k < cs.size := by
      obtain ⟨v0, e0, -⟩ := hr k _ (List.getElem?_eq_getElem hk)
      exact (Array.getElem?_eq_some_iff.1 e0).1
    rw [Array.getElem?_setIfInBounds]
    by_cases e : k = i
    · subst e
      rw [if_pos rfl, if_pos hk] at hi
      injection hi with hi
      subst hi
      exact ⟨v, by rw [if_pos rfl, if_pos hkc], hv.fr hfg hng⟩
    · rw [if_neg e] at hi
      obtain ⟨v0, e0, hT⟩ := hr i t hi
      exact ⟨v0, by rw [if_neg e]; exact e0, (hT.fr hf (h3.not (by decide))).fr hfg hng⟩
  · rw [List.getElem?_set] at hi
    split at hi
    · first
      | (injection hi with hi
         subst hi
         exact ht)
      | (split at hi
         · injection hi with hi
           subst hi
           exact ht
         · cases hi)
    · exact n3 i t hi
section
variable (s : ByteArray) (a b : Nat) (ia ib : Int) (ha : ia = a) (hb : ib = b) (wx : World)
include ha hb
theorem sl_lh (h : a ≤ b) (h2 : b ≤ s.size) : (Instr.slice 9 (.string s) (some (.int .i64 ia)) (some (.int .i64 ib)) none).run Tryz.prog wx = .ok (.string (s.extract a b)) wx := by
  subst ha; subst hb
  rw [run_slice_string (P := Tryz.prog) wx 9 s .i64 .i64 _ _ Tryz.underlying9 (by omega) (by omega) (by omega)]
  simp
end
theorem tl_ne {t : ByteArray} (h : ¬ t.size = 0) : ¬ t.toList = [] := by
  intro e
  apply h
  have : t.data.toList = [] := by rw [← e, ByteArray.toList_eq]
  show t.data.size = 0
  rw [← Array.length_toList, this]
  rfl
theorem tl_em {t : ByteArray} (h : ¬ t.size = 0) : t.toList.isEmpty = false := by
  cases h1 : t.toList with
  | nil => exact absurd h1 (tl_ne h)
  | cons a l => rfl
/-- Under way. -/
structure LdI (w wr : World) (p F gt : Nat) (T : List Pg) (m : St) : Prop where
  fr : Fr [F] w wr
  pb : PB wr gt T
  mem : MemAt wr p F m
  gt0 : w.heap.size ≤ gt
theorem LdI.store {w wr : World} {p F gt : Nat} {T : List Pg} {m : St} (h : LdI w wr p F gt T m) (hpF : p < w.heap.size ∧ F < w.heap.size) {i : Nat} {q : Pg} (hi : T[i]? = some q) (r : Int) : LdI w (wr.setCell ⟨gt, i * 2 + 1, none⟩ (.int .i64 r)) p F gt (T.set i ⟨q.f, r⟩) m := by
  have hg := h.gt0
  have hf : Fr [gt] wr (wr.setCell ⟨gt, i * 2 + 1, none⟩ (.int .i64 r)) := (Fr.refl [gt] wr).setCell (p := ⟨gt, i * 2 + 1, none⟩) (.inl (by simp)) _
  exact ⟨h.fr.step hf (fun k hk => by simp at hk; subst hk; exact .inr hg), h.pb.set_ hi r, h.mem.to hf (by simp; omega) (by simp; omega), hg⟩
theorem LdI.call {w wr w' : World} {p F gt : Nat} {T : List Pg} {m m' : St} (h : LdI w wr p F gt T m) (hF : F < w.heap.size) (hm : MemAt w' p F m') (hf : Fr [F] wr w') : LdI w w' p F gt T m' := by
  have hg := h.gt0
  exact ⟨h.fr.trans hf, h.pb.fr hf (by simp; omega), hm, hg⟩
theorem LdI.drew {w wr : World} {p F gt : Nat} {T : List Pg} {m : St} (h : LdI w wr p F gt T m) : LdI w wr.drew p F gt T m := ⟨h.fr.drew, h.pb.fr (Fr.refl [] wr).drew (by simp), h.mem.to (Fr.refl [] wr).drew (by simp) (by simp), h.gt0⟩
theorem Clear_at {w wr : World} {p F gt : Nat} {T : List Pg} {m : St} (h : LdI w wr p F gt T m) (hF : F < w.heap.size) (f : Int) : Calls Tryz.prog 36 #[ptr p, .int .i64 f] wr fun e w' => e = .returned (.int .i64 (clE m.n f)) ∧ LdI w w' p F gt T (clS m f) ∧ Fr [F] wr w' :=
  (Clear_any p F m wr f h.mem).mono fun e w' ⟨he, hm, hf⟩ => ⟨he, h.call hF hm hf, hf⟩
theorem Lay_at {w wr : World} {p F gt : Nat} {T : List Pg} {m : St} (h : LdI w wr p F gt T m) (hF : F < w.heap.size) (f a : Int) (s : ByteArray) (hs : s.size ≤ 1152921504606846976) : Calls Tryz.prog 37 #[ptr p, .int .i64 f, .int .i64 a, .string s] wr fun e w' => e = .returned (.int .i64 (layE m.n f a s)) ∧ LdI w w' p F gt T (layS m f a s) ∧ Fr [F] wr w' :=
  (Lay_any p F m wr f a s h.mem hs).mono fun e w' ⟨he, hm, hf⟩ => ⟨he, h.call hF hm hf, hf⟩
set_option maxHeartbeats 2000000 in
theorem SLoad_any (s p F g : Nat) (x : Sp) (i : Int) (t : ByteArray) (w : World) (h : SpAt w s p F g x) (hn1 : ∀ (i : Nat) (t : List Pg), x.tb[i]? = some t → 1 ≤ t.length) : Calls Tryz.prog 8 #[ptr s, .int .i64 i, .string t] w fun e w' => e = .returned (.int .i64 (ldE x i t)) ∧ SpT s p F g w (ldS x i t) w' := by
  have HI := Lib.hid (is_any s p F g x i w h)
  obtain ⟨cap, c0, c1⟩ := h.cells
  have HR : Hid (SpT s p F g w x w) := Lib.hid ⟨h, Fr.refl _ _⟩
  cases hp : hasP x i with
  | false =>
    have E1 : ldE x i t = 120 := by unfold ldE; rw [if_pos hp]
    have E2 : ldS x i t = x := by unfold ldS; rw [E1]; rfl
    rw [E1, E2]
    rw [hp] at HI
    clear h E1 E2 hp
    go_enter Tryz.func8, Tryz.ntmps8
    go_wp2_with (go_at_call 34; refine HI.out.mono ?_; rintro e w1 ⟨rfl, rfl⟩)
    go_ret
    exact ⟨rfl, HR.out⟩
  | true =>
    rw [hp] at HI
    obtain ⟨k, tb, rfl, hk⟩ := hasP_some hp
    have hkn : k < x.tb.length := (List.getElem?_eq_some_iff.1 hk).1
    obtain ⟨-, hto⟩ := tbOf_some hk
    obtain ⟨A, c, b, c2, -, -, hTb, hbl, hTT⟩ := h.table hk
    have h1 := hn1 k tb hk
    have h16 := h.n3 k tb hk
    have HC := Lib.hid (cloneP_any tb A c w hTT h1 h16)
    have hk' : (k : Int) < (x.tb.length : Int) := by omega
    have hk0 : (0 : Int) ≤ (k : Int) := by omega
    have hwl : IntKind.i64.wrap ((tb.length : Int) * 256) = (tb.length : Int) * 256 := IntWalk.i64_in _ (by omega)
    by_cases hs : tb.length * 256 < t.size
    · have E1 : ldE x (k : Int) t = 122 := by unfold ldE; rw [if_neg (by rw [hp]; simp), hto, if_pos hs]
      have E2 : ldS x (k : Int) t = x := by unfold ldS; rw [E1]; rfl
      rw [E1, E2]
      have hs' : (tb.length : Int) * 256 < (t.size : Int) := by omega
      have HR2 := Lib.hid (fun W (hf : Fr [] w W) => (show SpT s p F g w x W from ⟨h.to hf, hf.mono (fun k hk => by cases hk)⟩))
      clear h E1 E2 hp hto hTb hTT hk hkn hs HR
      generalize x.tb.length = N at *
      generalize tb.length = m at *
      go_enter Tryz.func8, Tryz.ntmps8
      go_wp2_with (first
        | (go_at_call 34; refine HI.out.mono ?_; rintro e w1 ⟨rfl, rfl⟩)
        | (go_at_call 35; refine HC.out.mono ?_; rintro e w2 ⟨g', cap', rfl, q1, q2, q3, q4, q5⟩; have HF := Lib.hid (HR2.out _ q4); clear q1 q4))
      go_ret
      exact ⟨rfl, HF.out⟩
    · have E1 : ldE x (k : Int) t = 0 := by unfold ldE; rw [if_neg (by rw [hp]; simp), hto, if_neg hs]
      have E2 : ldS x (k : Int) t = ⟨ldM x.st tb t tb.length, x.tb.set k (ldT tb t tb.length)⟩ := by unfold ldS; rw [E1, hto]; rfl
      rw [E1, E2]
      have hs' : ¬ (tb.length : Int) * 256 < (t.size : Int) := by omega
      have hst : t.size ≤ 4096 := by omega
      obtain ⟨n1, n2, n3, n4, n5, n6⟩ := h.ne
      obtain ⟨l1, l2, l3, l4⟩ := h.lt
      have hmem := h.mem
      have HK := Lib.hid (fun W (hf : Fr [F] w W) => (show W.cell? ⟨s, 0, none⟩ = some (ptr p) ∧ W.cell? ⟨s, 1, none⟩ = some (.slice (some ⟨g, 0, none⟩) x.tb.length cap) ∧ W.cell? ⟨g, k, none⟩ = some (.slice A tb.length c) ∧ W.frozen? ⟨g, k, none⟩ = false from ⟨hf.cell_some c0 (by simp; omega), hf.cell_some c1 (by simp; omega), hf.cell_some c2 (by simp; omega), by
        obtain ⟨-, -, -, ⟨c4, h4⟩⟩ := h.blks
        exact (h4.fr hf (by simp; omega)).frozen k⟩))
      have HE := Lib.hid (fun W gt cap' (hI : LdI w W p F gt (ldT tb t tb.length) (ldM x.st tb t tb.length)) (q2 : tb.length ≤ cap') (q3 : cap' ≤ maxLen) => (show SpT s p F g w ⟨ldM x.st tb t tb.length, x.tb.set k (ldT tb t tb.length)⟩ (W.setCell ⟨g, k, none⟩ (.slice (some ⟨gt, 0, none⟩) tb.length cap')) from by
        have hv := hI.pb.tb (cap := cap') (by rw [ldT_len]; exact q2) q3
        rw [ldT_len] at hv
        exact ⟨h.setT hI.fr hI.mem hv (by rw [ldT_len]; exact h16) hkn, (hI.fr.mono (fun j hj _ => by simp at hj; simp [hj])).setCell (p := ⟨g, k, none⟩) (.inl (by simp)) _⟩))
      have HT := Lib.hid (fun i (hi : i < tb.length) => (show ∃ q, tb[i]? = some q ∧ (ldT tb t i)[i]? = some q ∧ ((tb[i]?).getD ⟨0, 0⟩).f = q.f from ⟨_, List.getElem?_eq_getElem hi, ldT_at (List.getElem?_eq_getElem hi), by rw [List.getElem?_eq_getElem hi]; rfl⟩))
      have Hlf := Lib.hid l3
      have Hlp := Lib.hid (And.intro l2 l3)
      clear h E1 E2 hp hto hTb hTT hk hs HR hkn n1 n2 n3 n4 n5 n6 l1 l2 l3 l4
      generalize x.tb.length = N at *
      generalize hm : tb.length = m at *
      clear hm
      go_enter Tryz.func8, Tryz.ntmps8
      go_wp2_with (first
        | (go_at_call 34; refine HI.out.mono ?_; rintro e w1 ⟨rfl, rfl⟩)
        | (go_at_call 35; refine HC.out.mono ?_; rintro e w2 ⟨gt, cap', rfl, q1, q2, q3, q4, q5⟩; have HS : Hid (LdI w w2 p F gt (ldT tb t 0) (ldM x.st tb t 0)) := Lib.hid ⟨q4.mono (fun k hk => by cases hk), by rw [ldT_zero]; exact q1, hmem.to q4 (by simp) (by simp), q5⟩; clear q1 q4))
      clear hmem
      go_loopg [31] m (fun gg vi wr => ∃ (i : Nat), i + gg = m ∧ vi = .int .i64 (i : Int) ∧ LdI w wr p F gt (ldT tb t i) (ldM x.st tb t i))
      case atStart => exact ⟨0, by omega, rfl, HS.out⟩
      case round =>
        obtain ⟨i, hi, rfl, hI⟩ := hrel
        have Hi := Lib.hid hi
        clear HS
        by_cases hlt : i < m
        · have hlt' : (i : Int) < (m : Int) := by omega
          have hi0 : (0 : Int) ≤ (i : Int) := by omega
          have hwi : IntKind.i64.wrap ((i : Int) + 1) = (i : Int) + 1 := IntWalk.i64_in _ (by omega)
          obtain ⟨q, ht1, ht2, ht3⟩ := HT.out i hlt
          obtain ⟨f, r⟩ := q
          have HA : Hid (256 * i < t.size → ∀ W, LdI w W p F gt (((ldT tb t i).set i ⟨f, 3⟩).set i ⟨f, 5⟩) (layS (clS (ldM x.st tb t i) f) f 0 (t.extract (256 * i) (min t.size (256 * i + 256)))) → LdI w W p F gt (ldT tb t (i + 1)) (ldM x.st tb t (i + 1))) := Lib.hid fun hb W hL => by
            rw [ldT_next ht1]
            have e1 : pgL t i ⟨f, r⟩ = ⟨f, 5⟩ := by unfold pgL; rw [if_pos hb]
            have e2 : ldM x.st tb t (i + 1) = layS (clS (ldM x.st tb t i) f) f 0 (t.extract (256 * i) (min t.size (256 * i + 256))) := by
              show ldO _ _ t i = _
              rw [ht3]
              unfold ldO
              rw [if_pos hb]
            rw [e1, e2]
            rw [List.set_set] at hL
            exact hL
          have HB : Hid (¬ 256 * i < t.size → ∀ W, LdI w W p F gt ((ldT tb t i).set i ⟨f, 3⟩) (clS (ldM x.st tb t i) f) → LdI w W p F gt (ldT tb t (i + 1)) (ldM x.st tb t (i + 1))) := Lib.hid fun hb W hL => by
            rw [ldT_next ht1]
            have e1 : pgL t i ⟨f, r⟩ = ⟨f, 3⟩ := by unfold pgL; rw [if_neg hb]
            have e2 : ldM x.st tb t (i + 1) = clS (ldM x.st tb t i) f := by
              show ldO _ _ t i = _
              rw [ht3]
              unfold ldO
              rw [if_neg hb]
            rw [e1, e2]
            exact hL
          generalize hTN : ldT tb t (i + 1) = TN at *
          generalize hMN : ldM x.st tb t (i + 1) = MN at *
          have HTN := Lib.hid hTN
          have HMN := Lib.hid hMN
          clear hTN hMN
          generalize ldT tb t i = T0 at *
          generalize ldM x.st tb t i = m0 at *
          have hwm : IntKind.i64.wrap ((i : Int) * 256) = (i : Int) * 256 := IntWalk.i64_in _ (by omega)
          obtain ⟨k0, k1, k2, kf⟩ := HK.out _ hI.drew.fr
          obtain ⟨p0, p1⟩ := hI.drew.pb.cells ht2
          have l0 := And.intro k0 p0
          have HIx := Lib.hid hI.drew
          have Ht2 := Lib.hid ht2
          have HP := Lib.hid (fun W m' (hL : LdI w W p F gt T0 m') => (show (W.cell? ⟨s, 0, none⟩ = some (ptr p) ∧ W.cell? ⟨gt, i * 2, none⟩ = some (.int .i64 f)) ∧ W.cell? ⟨gt, i * 2 + 1, none⟩ = some (.int .i64 r) ∧ W.frozen? ⟨gt, i * 2 + 1, none⟩ = false ∧ LdI w (W.setCell ⟨gt, i * 2 + 1, none⟩ (.int .i64 3)) p F gt (T0.set i ⟨f, 3⟩) m' from ⟨⟨(HK.out _ hL.fr).1, (hL.pb.cells Ht2.out).1⟩, (hL.pb.cells Ht2.out).2, hL.pb.frozen _, hL.store Hlp.out Ht2.out 3⟩))
          have HP3 := Lib.hid (fun W m' (hL : LdI w W p F gt (T0.set i ⟨f, 3⟩) m') => (show (W.cell? ⟨s, 0, none⟩ = some (ptr p) ∧ W.cell? ⟨gt, i * 2, none⟩ = some (.int .i64 f)) ∧ W.cell? ⟨gt, i * 2 + 1, none⟩ = some (.int .i64 3) ∧ W.frozen? ⟨gt, i * 2 + 1, none⟩ = false ∧ LdI w (W.setCell ⟨gt, i * 2 + 1, none⟩ (.int .i64 5)) p F gt ((T0.set i ⟨f, 3⟩).set i ⟨f, 5⟩) m' from by
            have h3 : (T0.set i ⟨f, 3⟩)[i]? = some ⟨f, 3⟩ := by
              rw [List.getElem?_set, if_pos rfl, if_pos (List.getElem?_eq_some_iff.1 Ht2.out).1]
            exact ⟨⟨(HK.out _ hL.fr).1, (hL.pb.cells h3).1⟩, (hL.pb.cells h3).2, hL.pb.frozen _, hL.store Hlp.out h3 5⟩))
          clear hI hi ht1 ht2 ht3 k1 k2 kf
          by_cases hb : 256 * i < t.size
          · have HN := Lib.hid (HA.out hb)
            obtain ⟨E, hE⟩ : ∃ E : Nat, min t.size (256 * i + 256) = E := ⟨_, rfl⟩
            rw [hE] at HN
            have hEl : 256 * i < E := by omega
            have hEs : E ≤ t.size := by omega
            have hm1 : min (t.size : Int) ((i : Int) * 256) = (i : Int) * 256 := by omega
            have hw2 : IntKind.i64.wrap ((i : Int) * 256 + 256) = (i : Int) * 256 + 256 := IntWalk.i64_in _ (by omega)
            have hm2 : min (t.size : Int) ((i : Int) * 256 + 256) = (E : Int) := by omega
            have hsl := fun wx => sl_lh t (256 * i) E ((i : Int) * 256) (E : Int) (by omega) rfl wx (by omega) hEs
            have hos : (t.extract (256 * i) E).size = E - 256 * i := by rw [ByteArray.size_extract]; omega
            have hon : ¬ (t.extract (256 * i) E).size = 0 := by omega
            have HLy := Lib.hid (fun W m' T' (hL : LdI w W p F gt T' m') => Lay_at hL Hlf.out f 0 (t.extract (256 * i) E) (by omega))
            generalize t.extract (256 * i) E = own at *
            have ho1 := tl_ne hon
            have ho2 := tl_em hon
            clear HA HB hE hEl hEs hos hb
            go_wp2_with fail
            go_region_held3 (fun W => W.cell? ⟨s, 0, none⟩ = some (ptr p) ∧ W.cell? ⟨gt, i * 2, none⟩ = some (.int .i64 f)) (first | exact kk | exact l0) (first
              | (go_at_call 36; refine (Clear_at HIx.out Hlf.out f).mono ?_; rintro e w3 ⟨rfl, hL3, -⟩; obtain ⟨kk, x1, x2, hS3⟩ := HP.out _ _ hL3; have HS3 := Lib.hid hS3.drew; clear hS3 hL3))
            have l3 := (HP3.out _ _ HS3.out).1
            clear kk l0 p0 p1
            go_wp2_with fail
            go_region_held3 (fun W => W.cell? ⟨s, 0, none⟩ = some (ptr p) ∧ W.cell? ⟨gt, i * 2, none⟩ = some (.int .i64 f)) (first | exact kk | exact l3) (first
              | (go_at_call 37; refine (HLy.out _ _ _ HS3.out).mono ?_; rintro e w4 ⟨rfl, hL4, -⟩; obtain ⟨kk, x1, x2, hS4⟩ := HP3.out _ _ hL4; have HS4 := Lib.hid (HN.out _ hS4); clear hS4 hL4))
            go_wp2_with fail
            go_roundg (m - (i + 1))
            case measure => have := Hi.out; omega
            case rel => exact ⟨i + 1, by have := Hi.out; omega, by go_num, by rw [HTN.out, HMN.out]; exact HS4.out⟩
          · have HN := Lib.hid (HB.out hb)
            have hm1 : min (t.size : Int) ((i : Int) * 256) = (t.size : Int) := by omega
            have hw2 : IntKind.i64.wrap ((t.size : Int) + 256) = (t.size : Int) + 256 := IntWalk.i64_in _ (by omega)
            have hm2 : min (t.size : Int) ((t.size : Int) + 256) = (t.size : Int) := by omega
            have hemp : t.extract t.size t.size = ⟨#[]⟩ := by
              have : (t.extract t.size t.size).size = 0 := by rw [ByteArray.size_extract]; omega
              cases hx : t.extract t.size t.size with
              | mk a =>
                rw [hx] at this
                have h2 : a.size = 0 := this
                rw [Array.eq_empty_of_size_eq_zero h2]
            have hsl := fun wx => (sl_lh t t.size t.size (t.size : Int) (t.size : Int) rfl rfl wx (Nat.le_refl _) (Nat.le_refl _)).trans (by rw [hemp])
            clear HA HB hb hemp
            go_wp2_with fail
            go_region_held3 (fun W => W.cell? ⟨s, 0, none⟩ = some (ptr p) ∧ W.cell? ⟨gt, i * 2, none⟩ = some (.int .i64 f)) (first | exact kk | exact l0) (first
              | (go_at_call 36; refine (Clear_at HIx.out Hlf.out f).mono ?_; rintro e w3 ⟨rfl, hL3, -⟩; obtain ⟨kk, x1, x2, hS3⟩ := HP.out _ _ hL3; have HS3 := Lib.hid (HN.out _ hS3); clear hS3 hL3))
            go_wp2_with fail
            go_roundg (m - (i + 1))
            case measure => have := Hi.out; omega
            case rel => exact ⟨i + 1, by have := Hi.out; omega, by go_num, by rw [HTN.out, HMN.out]; exact HS3.out⟩
        · have hlt' : ¬ (i : Int) < (m : Int) := by omega
          obtain rfl : m = i := by omega
          obtain ⟨k0, k1, k2, kf⟩ := HK.out _ hI.fr
          have HF := Lib.hid (HE.out _ _ _ hI q2 q3)
          clear hI hi
          go_wp2_with fail
          go_ret
          exact ⟨rfl, HF.out⟩
end Go.Proofs.YtbmaecdlkchkeaaGreatDoor
