/- A console's screen and state, plain; in memory; a row of cells into the middle of a block. -/
import Derived.Test.YtkjahokffpihmaaDoorOwn
import Derived.Test.YtkjahokffpihmaaDoorLib2
import Derived.Deep.WholeRow
import Derived.Laws.CopyRow
import Derived.Deep.MidRow
import Derived.WalkKit
import Derived.WalkSpells
import Derived.WalkLawsBesides
import Derived.Deep.QuietTactic
import Derived.BigQuiet
import Derived.StillTailTactics
import Derived.Lib.Hide
import Derived.Deep.LoopGhost
import Derived.Deep.DeepMust
import Derived.Deep.DeepCutAuto
import Derived.Deep.RegionHeld3
import Derived.Deep.RegionLaw
import Derived.Laws.EntriesVeiled
namespace Go.Proofs.YtkjahokffpihmaaDoor
open Go.RowKit
set_option linter.unusedVariables false
set_option linter.unusedSimpArgs false
/-- A screen: its bytes, row by row (24 a row, 6 rows), and where the next one goes. -/
structure Sc where
  g : Nat → UInt8
  ln : Nat
  cl : Nat
def sclear : Sc := ⟨fun _ => 32, 0, 0⟩
def sfeed (s : Sc) : Sc := if s.ln < 5 then ⟨s.g, s.ln + 1, 0⟩ else ⟨fun p => if p < 120 then s.g (p + 24) else 32, 5, 0⟩
def vis (b : UInt8) : UInt8 := if b < 32 || 126 < b then 63 else b
def sput (s : Sc) (b : UInt8) : Sc := ⟨fun p => if p = s.ln * 24 + s.cl then b else s.g p, s.ln, s.cl + 1⟩
def swrap (s : Sc) : Sc := if s.cl = 24 then sfeed s else s
def sdraw (s : Sc) (b : UInt8) : Sc := if b = 10 then sfeed s else sput (swrap s) (vis b)
def ssays (s : Sc) (l : List UInt8) : Sc := l.foldl sdraw s
structure Sc.Ok (s : Sc) : Prop where
  l : s.ln ≤ 5
  c : s.cl ≤ 24
theorem sclear_ok : sclear.Ok := ⟨by simp [sclear], by simp [sclear]⟩
theorem sfeed_ok {s : Sc} (h : s.Ok) : (sfeed s).Ok ∧ (sfeed s).cl = 0 := by
  unfold sfeed
  split
  · exact ⟨⟨by simp only; omega, by simp⟩, rfl⟩
  · exact ⟨⟨by simp, by simp⟩, rfl⟩
theorem swrap_ok {s : Sc} (h : s.Ok) : (swrap s).ln ≤ 5 ∧ (swrap s).cl < 24 := by
  unfold swrap
  split
  · have := sfeed_ok h
    exact ⟨this.1.l, by rw [this.2]; omega⟩
  · exact ⟨h.l, by have := h.c; omega⟩
theorem sdraw_ok {s : Sc} (h : s.Ok) (b : UInt8) : (sdraw s b).Ok := by
  unfold sdraw
  split
  · exact (sfeed_ok h).1
  · have := swrap_ok h
    exact ⟨this.1, by simp only [sput]; omega⟩
theorem ssays_ok {s : Sc} (h : s.Ok) (l : List UInt8) : (ssays s l).Ok := by
  induction l generalizing s with
  | nil => exact h
  | cons b l ih => exact ih (sdraw_ok h b)
theorem ssays_append (s : Sc) (l m : List UInt8) : ssays s (l ++ m) = ssays (ssays s l) m := by simp [ssays]
/-! In memory: six cells ahead, the rows, where the next one goes. -/
def scell (H : Array Value) (s : Sc) (i : Nat) : Value := if i < 6 then H.getD i undef else if i < 150 then .int .u8 ((s.g (i - 6)).toNat : Int) else if i = 150 then .int .i64 (s.ln : Int) else .int .i64 (s.cl : Int)
def scells (H : Array Value) (s : Sc) : Array Value := Array.ofFn (n := 152) fun i => scell H s i
theorem scells_size (H : Array Value) (s : Sc) : (scells H s).size = 152 := by simp [scells]
theorem scells_at (H : Array Value) (s : Sc) (i : Nat) : (scells H s)[i]? = if i < 152 then some (scell H s i) else none := by
  unfold scells
  rw [Array.getElem?_ofFn]
  split <;> rfl
theorem scells_ext {cs : Array Value} {H : Array Value} {s : Sc} (hs : cs.size = 152) (h : ∀ i, i < 152 → cs[i]? = some (scell H s i)) : cs = scells H s := by
  apply Array.ext_getElem?
  intro i
  rw [scells_at]
  split
  · next hi => exact h i hi
  · exact Array.getElem?_eq_none (by omega)
theorem scells_set {H H' : Array Value} {s s' : Sc} {i : Nat} {v : Value} (hi : i < 152) (hv : scell H' s' i = v) (ho : ∀ j, j < 152 → j ≠ i → scell H' s' j = scell H s j) : (scells H s).setIfInBounds i v = scells H' s' := by
  refine scells_ext (by simp [scells_size]) fun j hj => ?_
  rw [Array.getElem?_setIfInBounds]
  split
  · next hij =>
    subst hij
    rw [if_pos (by rw [scells_size]; exact hi), hv]
  · next hij => rw [scells_at, if_pos hj, ho j hj (Ne.symm hij)]
theorem scell_lo (H : Array Value) (s : Sc) {i : Nat} (h : i < 6) : scell H s i = H.getD i undef := by unfold scell; rw [if_pos h]
theorem scell_mid (H : Array Value) (s : Sc) {i : Nat} (h : 6 ≤ i) (h' : i < 150) : scell H s i = .int .u8 ((s.g (i - 6)).toNat : Int) := by unfold scell; rw [if_neg (show ¬ i < 6 by omega), if_pos h']
theorem scell_ln (H : Array Value) (s : Sc) : scell H s 150 = .int .i64 (s.ln : Int) := rfl
theorem scell_cl (H : Array Value) (s : Sc) : scell H s 151 = .int .i64 (s.cl : Int) := rfl
theorem scells_congr (H : Array Value) {s s' : Sc} (hg : ∀ p, p < 144 → s.g p = s'.g p) (hl : s.ln = s'.ln) (hc : s.cl = s'.cl) : scells H s = scells H s' := by
  refine scells_ext (scells_size _ _) fun j hj => ?_
  rw [scells_at, if_pos hj]
  congr 1
  by_cases h6 : j < 6
  · rw [scell_lo H s h6, scell_lo H s' h6]
  · by_cases h7 : j < 150
    · rw [scell_mid H s (by omega) h7, scell_mid H s' (by omega) h7, hg _ (by omega)]
    · rcases (by omega : j = 150 ∨ j = 151) with rfl | rfl
      · rw [scell_ln, scell_ln, hl]
      · rw [scell_cl, scell_cl, hc]
theorem scells_ln (H : Array Value) (s : Sc) (n : Nat) : (scells H s).setIfInBounds 150 (.int .i64 (n : Int)) = scells H ⟨s.g, n, s.cl⟩ :=
  scells_set (by omega) rfl fun j hj hne => by
    unfold scell
    simp only
    by_cases h6 : j < 6
    · rw [if_pos h6, if_pos h6]
    · by_cases h7 : j < 150
      · rw [if_neg h6, if_pos h7, if_neg h6, if_pos h7]
      · rw [if_neg h6, if_neg h7, if_neg h6, if_neg h7, if_neg (by omega), if_neg (by omega)]
theorem scells_cl (H : Array Value) (s : Sc) (n : Nat) : (scells H s).setIfInBounds 151 (.int .i64 (n : Int)) = scells H ⟨s.g, s.ln, n⟩ :=
  scells_set (by omega) rfl fun j hj hne => by
    unfold scell
    simp only
    by_cases h6 : j < 6
    · rw [if_pos h6, if_pos h6]
    · by_cases h7 : j < 150
      · rw [if_neg h6, if_pos h7, if_neg h6, if_pos h7]
      · rw [if_neg h6, if_neg h7, if_neg h6, if_neg h7, if_pos (by omega), if_pos (by omega)]
theorem scells_byte (H : Array Value) (s : Sc) (p : Nat) (hp : p < 144) (b : UInt8) : (scells H s).setIfInBounds (6 + p) (.int .u8 (b.toNat : Int)) = scells H ⟨fun q => if q = p then b else s.g q, s.ln, s.cl⟩ :=
  scells_set (by omega) (by
    unfold scell
    rw [if_neg (by omega), if_pos (by omega)]
    simp only
    rw [if_pos (by omega)]) fun j hj hne => by
      unfold scell
      simp only
      by_cases h6 : j < 6
      · rw [if_pos h6, if_pos h6]
      · by_cases h7 : j < 150
        · rw [if_neg h6, if_pos h7, if_neg h6, if_pos h7, if_neg (by omega)]
        · rw [if_neg h6, if_neg h7, if_neg h6, if_neg h7]
theorem scells_head (H : Array Value) (hH : H.size = 6) (s : Sc) (i : Nat) (hi : i < 6) (v : Value) : (scells H s).setIfInBounds i v = scells (H.setIfInBounds i v) s :=
  scells_set (by omega) (by
    unfold scell
    rw [if_pos hi]
    simp [Array.getD, hH, hi]) fun j hj hne => by
      unfold scell
      by_cases h6 : j < 6
      · rw [if_pos h6, if_pos h6]
        simp [Array.getD, hH, h6, Array.getElem_setIfInBounds, Ne.symm hne]
      · rw [if_neg h6, if_neg h6]
/-- Cells laid over a block's from a place on. -/
def lay (cur : Array Value) (o : Nat) (vs : List Value) : Array Value := (cur.toList.take o ++ vs ++ cur.toList.drop (o + vs.length)).toArray
theorem lay_size (cur : Array Value) (o : Nat) (vs : List Value) (h : o + vs.length ≤ cur.size) : (lay cur o vs).size = cur.size := by simp [lay]; omega
theorem lay_at (cur : Array Value) (o : Nat) (vs : List Value) (h : o + vs.length ≤ cur.size) (i : Nat) : (lay cur o vs)[i]? = if o ≤ i ∧ i < o + vs.length then vs[i - o]? else cur[i]? := by
  have hl : (cur.toList.take o).length = o := by simp; omega
  unfold lay
  rw [List.getElem?_toArray]
  by_cases h1 : i < o
  · rw [if_neg (by omega), List.append_assoc, List.getElem?_append_left (by omega), List.getElem?_take, if_pos h1, Array.getElem?_toList]
  · by_cases h2 : i < o + vs.length
    · rw [if_pos ⟨by omega, h2⟩, List.append_assoc, List.getElem?_append_right (by omega), List.getElem?_append_left (by omega), hl]
    · rw [if_neg (by omega), List.getElem?_append_right (by simp; omega), List.getElem?_drop, Array.getElem?_toList]
      congr 1
      simp
      omega
theorem lay_full (cur cells : Array Value) (h : cells.size = cur.size) : lay cur 0 cells.toList = cells := by
  apply Array.ext_getElem?
  intro i
  rw [lay_at _ _ _ (by simp; omega)]
  simp only [Nat.zero_le, true_and, Nat.zero_add, Nat.sub_zero, Array.length_toList, Array.getElem?_toList]
  split
  · rfl
  · rw [Array.getElem?_eq_none (by omega), Array.getElem?_eq_none (by omega)]
theorem scells_lay {H : Array Value} {s s' : Sc} {o : Nat} {vs : List Value} (h : o + vs.length ≤ 152) (hv : ∀ j, j < vs.length → vs[j]? = some (scell H s' (o + j))) (ho : ∀ j, j < 152 → (j < o ∨ o + vs.length ≤ j) → scell H s' j = scell H s j) :
    lay (scells H s) o vs = scells H s' := by
  refine scells_ext (by rw [lay_size _ _ _ (by rw [scells_size]; exact h), scells_size]) fun j hj => ?_
  rw [lay_at _ _ _ (by rw [scells_size]; exact h)]
  split
  · next hc =>
    rw [hv _ (by omega)]
    congr 2
    omega
  · next hc => rw [scells_at, if_pos hj, ho j hj (by omega)]
/-- The block is laid anew, the others stand. -/
theorem Blk.row {w : World} {g : Nat} {t : TypeId} {cs : Array Value} (h : Blk w g t cs) (cs' : Array Value) : Blk (w.setRow g cs') g t cs' := setRow_heap w g cs cs' t (0, 0) h
theorem fr_row (w : World) (g : Nat) (cs : Array Value) : Fr [g] w (w.setRow g cs) := ⟨rfl, rfl, rfl, by simp [World.setRow], fun k hk hn => setRow_other w g k cs (by simpa using hn)⟩
theorem lay_cons (cur : Array Value) (o : Nat) (v : Value) (r : List Value) (h : o + (r.length + 1) ≤ cur.size) : lay (cur.setIfInBounds o v) (o + 1) r = lay cur o (v :: r) := by
  apply Array.ext_getElem?
  intro i
  rw [lay_at _ _ _ (by simp; omega), lay_at _ _ _ (by simpa using h), Array.getElem?_setIfInBounds]
  simp only [List.length_cons]
  by_cases h1 : i < o
  · rw [if_neg (show ¬ (o + 1 ≤ i ∧ i < o + 1 + r.length) by omega), if_neg (show ¬ (o ≤ i ∧ i < o + (r.length + 1)) by omega), if_neg (show ¬ o = i by omega)]
  · by_cases h2 : i = o
    · subst h2
      rw [if_neg (show ¬ (i + 1 ≤ i ∧ i < i + 1 + r.length) by omega), if_pos (show i ≤ i ∧ i < i + (r.length + 1) by omega), if_pos rfl, if_pos (by omega)]
      simp
    · by_cases h3 : i < o + (r.length + 1)
      · rw [if_pos (show o + 1 ≤ i ∧ i < o + 1 + r.length by omega), if_pos (show o ≤ i ∧ i < o + (r.length + 1) by omega), show i - o = (i - (o + 1)) + 1 by omega]
        simp
      · rw [if_neg (show ¬ (o + 1 ≤ i ∧ i < o + 1 + r.length) by omega), if_neg (show ¬ (o ≤ i ∧ i < o + (r.length + 1)) by omega), if_neg (show ¬ o = i by omega)]
theorem Blk.setCells {g : Nat} {t : TypeId} : ∀ (vs : List Value) (o : Nat) {w : World} {cur : Array Value}, Blk w g t cur → o + vs.length ≤ cur.size → Blk (w.setCells g o vs) g t (lay cur o vs) ∧ Fr [g] w (w.setCells g o vs)
  | [], o, w, cur, h, _ => ⟨by
      have e : lay cur o [] = cur := by simp [lay]
      rw [e]
      exact h, Fr.refl _ _⟩
  | v :: r, o, w, cur, h, hl => by
    have hl' : o + (r.length + 1) ≤ cur.size := by simpa using hl
    have := Blk.setCells r (o + 1) (h.set_ o v) (by simp; omega)
    rw [lay_cons _ _ _ _ hl'] at this
    exact ⟨this.1, ((Fr.refl [g] w).setCell (by simp) v).trans this.2⟩
theorem Blk.there {w : World} {g : Nat} {t : TypeId} {cur : Array Value} (h : Blk w g t cur) {o n : Nat} (hl : o + n ≤ cur.size) : w.there g o n := fun j hj => ⟨by rw [h.cell, Array.getElem?_eq_getElem (by omega)]; rfl, h.frozen _⟩
section
variable {P : Program}
theorem run_storeVar_blk {w : World} {g o : Nat} {t ty : TypeId} {cur : Array Value} {cells : Array Value} (hg : Blk w g t cur) (hf : o + cells.size ≤ cur.size) (hi : (P.info? ty).map (·.size) = some cells.size) (h1 : cells.all (·.oneCell') = true) :
    (storeVar ty ⟨g, o, none⟩ (.agg cells)).run P w = .ok () (w.setRow g (lay cur o cells.toList)) := by
  have := run_storeCells_at P g o t cells.toList 0 cur w hg (by simpa using hf) (fun v hv => (Array.all_eq_true_iff_forall_mem.1 h1) v (by simpa using hv))
  cases hq : P.info? ty with
  | none => simp [hq] at hi
  | some i =>
    have hs : cells.size = i.size := by simp [hq] at hi; omega
    simp only [Nat.add_zero] at this
    simp [storeVar, sizeOf, typeInfo, hq, Value.cells, hs, this, lay]
/-- As a walk's simp leaves such a store in a region that draws its order. -/
theorem run_storeCells_blk {w : World} {g o : Nat} {t : TypeId} {cur cells : Array Value} (hg : Blk w g t cur) (hf : o + cells.size ≤ cur.size) (h1 : cells.all (·.oneCell') = true) :
    ∃ w', (storeCells ⟨g, o, none⟩ cells.toList).run P w = .ok () w' ∧ Blk w' g t (lay cur o cells.toList) ∧ Fr [g] w w' := by
  refine ⟨_, ?_, hg.row _, fr_row _ _ _⟩
  have := run_storeCells_at P g o t cells.toList 0 cur w hg (by simpa using hf) (fun v hv => (Array.all_eq_true_iff_forall_mem.1 h1) v (by simpa using hv))
  simp only [Nat.add_zero] at this
  exact this
theorem wp_store_blk {op : Oper} {a : Act} {w : World} {K : Act → World → Prop} {Q : Exit → Act → World → Prop} (ty : TypeId) (x y : Operand) (ho : op.op = .store ty x y) (hd : op.dst = none)
    (g o : Nat) (cells : Array Value) (hx : a.eval x = .pointer (some ⟨g, o, none⟩)) (hy : a.eval y = .agg cells) (t : TypeId) (cur : Array Value) (hg : Blk w g t cur) (hf : o + cells.size ≤ cur.size)
    (hi : (P.info? ty).map (·.size) = some cells.size) (h1 : cells.all (·.oneCell') = true)
    (h : ∀ w', Blk w' g t (lay cur o cells.toList) → Fr [g] w w' → K a w') : op.wp P a w K Q := by
  unfold Oper.wp execOp
  simp only [ho, hx, hy, Instr.storeAt, Instr.sureAddr, Sem.run_bind, Sem.run_pure, Result.andThen_ok, run_storeVar_blk hg hf hi h1]
  have e : a.put op.dst undef = a := by rw [hd]; rfl
  show K (a.put op.dst undef) _
  rw [e]
  exact h _ (hg.row _) (fr_row _ _ _)
theorem wpList_store_blk {ops : Array Oper} {rest : List Oper} {op : Oper} {a : Act} {w : World} {Q : Exit → Act → World → Prop} (hgd : op.guard = none) (ty : TypeId) (x y : Operand) (ho : op.op = .store ty x y) (hd : op.dst = none)
    (g o : Nat) (cells : Array Value) (hx : a.eval x = .pointer (some ⟨g, o, none⟩)) (hy : a.eval y = .agg cells) (t : TypeId) (cur : Array Value) (hg : Blk w g t cur) (hf : o + cells.size ≤ cur.size)
    (hi : (P.info? ty).map (·.size) = some cells.size) (h1 : cells.all (·.oneCell') = true)
    (h : ∀ w', Blk w' g t (lay cur o cells.toList) → Fr [g] w w' → wpList P ops Q rest a w') : wpList P ops Q (op :: rest) a w :=
  wpList_plain hgd fun _ hK => wp_store_blk ty x y ho hd g o cells hx hy t cur hg hf hi h1 fun w' a b => hK _ _ (h w' a b)
theorem step_store_blk {ops : Array Oper} {op : Oper} {a : Act} {w : World} {K : Act → World → Prop} {Q : Exit → Act → World → Prop} {E : Prop} (hgd : op.guard = none) (ty : TypeId) (x y : Operand) (ho : op.op = .store ty x y) (hd : op.dst = none)
    (g o : Nat) (cells : Array Value) (hx : a.eval x = .pointer (some ⟨g, o, none⟩)) (hy : a.eval y = .agg cells) (t : TypeId) (cur : Array Value) (hg : Blk w g t cur) (hf : o + cells.size ≤ cur.size)
    (hi : (P.info? ty).map (·.size) = some cells.size) (h1 : cells.all (·.oneCell') = true)
    (h : ∀ w', Blk w' g t (lay cur o cells.toList) → Fr [g] w w' → K a w') : if Region.wanted op (yielded ops a.tmps) = true then Oper.wp P op a w K Q else E := by
  have hw : Region.wanted op (yielded ops a.tmps) = true := by simp [Region.wanted, hgd]
  rw [if_pos hw]
  exact wp_store_blk ty x y ho hd g o cells hx hy t cur hg hf hi h1 h
/-- copy(dst, src), both in one block known whole, of elements of several cells. -/
theorem run_copy_blk {w : World} {g o s : Nat} {dT sT ty elem t : TypeId} {dLen dCap sLen sCap size : Nat} {cur : Array Value} (hu : P.underlying dT = some (.slice elem)) (hs : (P.info? elem).map (·.size) = some size)
    (hg : Blk w g t cur) (hfit : o + Nat.min sLen dLen * size ≤ cur.size) (hsrc : s + Nat.min sLen dLen * size ≤ cur.size) (h1 : ∀ (i : Nat) (v : Value), cur[i]? = some v → v.oneCell' = true) :
    (Builtin.copy_ #[dT, sT] ty #[.slice (some ⟨g, o, none⟩) dLen dCap, .slice (some ⟨g, s, none⟩) sLen sCap]).run P w =
      .ok (goInt (Nat.min sLen dLen)) (w.setRow g (lay cur o ((cur.toList.drop s).take (Nat.min sLen dLen * size)))) := by
  have hlen : ((cur.toList.drop s).take (Nat.min sLen dLen * size)).length = Nat.min sLen dLen * size := by simp; omega
  have hl := run_loadCells_list (P := P) w ⟨g, s, none⟩ ((cur.toList.drop s).take (Nat.min sLen dLen * size)) (fun j v hv => by
    rw [addr_add, hg.cell]
    rw [List.getElem?_take] at hv
    split at hv
    · rw [List.getElem?_drop, Array.getElem?_toList] at hv
      exact hv
    · cases hv)
  have hst := run_storeCells_at P g o t ((cur.toList.drop s).take (Nat.min sLen dLen * size)) 0 cur w hg (by rw [hlen]; omega) (fun v hv => by
    obtain ⟨i, hi⟩ := List.getElem?_of_mem hv
    rw [List.getElem?_take] at hi
    split at hi
    · rw [List.getElem?_drop, Array.getElem?_toList] at hi
      exact h1 _ _ hi
    · cases hi)
  rw [hlen] at hl
  cases hq : P.info? elem with
  | none => simp [hq] at hs
  | some i =>
    have hi : i.size = size := by simpa [hq] using hs
    simp only [Nat.add_zero] at hst
    simp [Builtin.copy_, run_underlying hu, Builtin.lenOf, Builtin.firstCells, sizeOf, typeInfo, hq, hi, hl, hst, lay]
theorem step_copy_blk {ops : Array Oper} {o : Oper} {a : Act} {w : World} {K : Act → World → Prop} {Q : Exit → Act → World → Prop} {E : Prop} (hgd : o.guard = none) (d x : Operand) (dT sT : TypeId)
    (ho : o.op = .call { callee := .builtin .copy, args := #[d, x], argTypes := #[dT, sT] }) (elem t : TypeId) (size g off s dLen dCap sLen sCap n : Nat) (cur : Array Value)
    (hu : P.underlying dT = some (.slice elem)) (hs : (P.info? elem).map (·.size) = some size) (hd : a.eval d = .slice (some ⟨g, off, none⟩) dLen dCap) (hx : a.eval x = .slice (some ⟨g, s, none⟩) sLen sCap)
    (hn : Nat.min sLen dLen = n) (hg : Blk w g t cur) (hfit : off + n * size ≤ cur.size) (hsrc : s + n * size ≤ cur.size) (h1 : ∀ (i : Nat) (v : Value), cur[i]? = some v → v.oneCell' = true)
    (h : ∀ w', Blk w' g t (lay cur off ((cur.toList.drop s).take (n * size))) → Fr [g] w w' → K (a.put o.dst (goInt n)) w') :
    if Region.wanted o (yielded ops a.tmps) = true then Oper.wp P o a w K Q else E := by
  have hw : Region.wanted o (yielded ops a.tmps) = true := by simp [Region.wanted, hgd]
  rw [if_pos hw]
  subst hn
  have hr := run_copy_blk (P := P) (sT := sT) (ty := o.type) (o := off) (s := s) (dCap := dCap) (sCap := sCap) hu hs hg hfit hsrc h1
  unfold Oper.wp execOp
  simp only [ho, resolve, invoke, builtin, Sem.run_bind, Sem.run_pure, Result.andThen_ok, List.map_toArray, List.map_cons, List.map_nil, hd, hx, hr]
  exact h _ (hg.row _) (fr_row _ _ _)
end
end Go.Proofs.YtkjahokffpihmaaDoor
