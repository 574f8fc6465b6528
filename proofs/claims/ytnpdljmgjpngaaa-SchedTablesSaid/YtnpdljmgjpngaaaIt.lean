/- The iterator over a major frame's spans: its contract. -/
import Derived.RangeFuncNested
import Derived.RangeFuncBound
import Derived.RangeFuncCalls
import Derived.RangeFuncLeaves
import Derived.RangeFuncFrom
import Derived.Shelf.Abstract
import Derived.WalkKit
import Derived.OwnWalkIn
import Derived.TacticsInMore
import Derived.LoopNIn
import Derived.LoopIn
import Derived.Test.YtnpdljmgjpngaaaW2
namespace Go.Proofs.Ytnpdljmgjpngaaa
open Go.RowKit Go.Shelf
attribute [local go_sem] Oper.semAt_some
set_option linter.unusedVariables false
set_option linter.unusedSimpArgs false

/-- A span: a window's number, its first tick in the frame, the first one behind it, and what it is. -/
structure Sp where
  num : Int
  fr : Int
  to : Int
  K : Int
  I : Int
  T : Int
  h : 0 ≤ num ∧ num ≤ 64 ∧ 0 ≤ fr ∧ fr ≤ 1048576 ∧ 0 ≤ to ∧ to ≤ 1048576 ∧ 0 ≤ T ∧ T ≤ 255
def Sp.enc (s : Sp) : Array Value := #[.agg #[.int .i64 s.num, .int .i64 s.fr, .int .i64 s.to, .int .i64 s.K, .int .i64 s.I, .int .i64 s.T]]
/-- How many ticks the first k windows have. -/
def tot (l : List Win) (k : Nat) : Int := ((l.take k).map (·.T)).sum
theorem tot_succ {l : List Win} {k : Nat} {x : Win} (h : l[k]? = some x) : tot l (k + 1) = tot l k + x.T := by
  unfold tot
  rw [List.take_add_one, h]
  simp
theorem okL_at {l : List Win} (h : okL l = true) {k : Nat} {x : Win} (hx : l[k]? = some x) : mayW x = true := by
  unfold okL at h
  simp only [Bool.and_eq_true, List.all_eq_true] at h
  exact h.2 x (List.mem_of_getElem? hx)
theorem okL_len {l : List Win} (h : okL l = true) : 1 ≤ l.length ∧ l.length ≤ 64 := by
  unfold okL at h
  simp only [Bool.and_eq_true, decide_eq_true_eq] at h
  exact h.1
theorem tot_bd {l : List Win} (h : okL l = true) : ∀ k, k ≤ l.length → (k : Int) ≤ tot l k ∧ tot l k ≤ 255 * k := by
  intro k
  induction k with
  | zero => intro _; simp [tot]
  | succ k ih =>
    intro hk
    obtain ⟨x, hx⟩ : ∃ x, l[k]? = some x := ⟨_, List.getElem?_eq_getElem (by omega)⟩
    have h1 := ih (by omega)
    have h2 := (mayW_iff x).1 (okL_at h hx)
    rw [tot_succ hx]
    omega
/-- The k-th span. -/
def spAt (l : List Win) (h : okL l = true) (k : Nat) (hk : k < l.length) : Sp :=
  ⟨k, tot l k, tot l k + (l[k]).T, (l[k]).K, (l[k]).I, (l[k]).T, by
    have h0 := okL_len h
    have h1 := tot_bd h k (by omega)
    have h2 := (mayW_iff l[k]).1 (okL_at h (List.getElem?_eq_getElem hk))
    omega⟩
/-- The first k of them. -/
def spTo (l : List Win) (h : okL l = true) : (k : Nat) → k ≤ l.length → List Sp
  | 0, _ => []
  | k + 1, hk => spTo l h k (by omega) ++ [spAt l h k (by omega)]
theorem spTo_len (l : List Win) (h : okL l = true) : ∀ k hk, (spTo l h k hk).length = k := by
  intro k
  induction k with
  | zero => intro _; rfl
  | succ k ih => intro hk; simp [spTo, ih]
def spL (l : List Win) (h : okL l = true) : List Sp := spTo l h l.length (Nat.le_refl _)
theorem spTo_prefix (l : List Win) (h : okL l = true) : ∀ d k (hk : k + d ≤ l.length), spTo l h k (by omega) <+: spTo l h (k + d) hk := by
  intro d
  induction d with
  | zero => intro k hk; exact List.prefix_refl _
  | succ d ih => intro k hk; exact (ih k (by omega)).trans (List.prefix_append _ _)

theorem spTo_all (l : List Win) (h : okL l = true) (k : Nat) (hk : k ≤ l.length) : spTo l h k hk <+: spL l h := by
  obtain ⟨d, hd⟩ : ∃ d, l.length = k + d := ⟨l.length - k, by omega⟩
  have := spTo_prefix l h d k (by omega)
  unfold spL
  simpa only [hd] using this
theorem spTo_full (l : List Win) (h : okL l = true) (k : Nat) (hk : k ≤ l.length) (he : k = l.length) : spTo l h k hk = spL l h := by
  subst he
  rfl

/-- What a round keeps: all that lay below n₀, and each block of cells from n₁ on. -/
def KpS (n₀ n₁ : Nat) (W W' : World) : Prop := Below n₀ W W' ∧ ∀ b t cs, n₁ ≤ b → Blk W b t cs → Blk W' b t cs
theorem KpS.refl (n₀ n₁ : Nat) (W : World) : KpS n₀ n₁ W W := ⟨Below.refl _ _, fun _ _ _ _ h => h⟩
theorem kpS_t {n₀ n₁ : Nat} {A B C : World} (h : KpS n₀ n₁ A B) (k : KpS n₀ n₁ B C) : KpS n₀ n₁ A C := ⟨h.1.trans k.1, fun b t cs hb hc => k.2 b t cs hb (h.2 b t cs hb hc)⟩
theorem kpS_b {n₀ n₁ : Nat} {w : World} (hn : n₀ ≤ w.heap.size) (W : World) (l : Nat) (o o' : Obj) (hl : w.heap.size ≤ l) (h : W.heap[l]? = some o) (hc : o.isCells = false) (hw : o.isWalk = false) : KpS n₀ n₁ W (W.putObj l o') := by
  refine ⟨belowK_b hn W l o o' hl h hc hw, fun b t cs _ hb => ?_⟩
  have hne : b ≠ l := by
    rintro rfl
    unfold Blk at hb
    rw [hb] at h
    injection h with h
    subst h
    cases hc
  unfold Blk at hb ⊢
  rw [World.putObj_heap_other hne]
  exact hb
theorem KpS.setCell {n₀ n₁ : Nat} {W W' : World} (h : KpS n₀ n₁ W W') {p : Addr} (h0 : n₀ ≤ p.block) (h1 : p.block < n₁) (v : Value) : KpS n₀ n₁ W (W'.setCell p v) :=
  ⟨h.1.setCell h0 v, fun b t cs hb hc => (h.2 b t cs hb hc).far (by omega) v⟩
theorem KpS.alloc {n₀ n₁ : Nat} {W W' : World} (h : KpS n₀ n₁ W W') (hn : n₀ ≤ W.heap.size) (o : Obj) : KpS n₀ n₁ W (W'.alloc o) :=
  ⟨h.1.alloc (Nat.le_trans hn h.1.size) o, fun b t cs hb hc => (h.2 b t cs hb hc).alloc o⟩
theorem KpS.drew {n₀ n₁ : Nat} {W W' : World} (h : KpS n₀ n₁ W W') : KpS n₀ n₁ W W'.drew := ⟨h.1.drew, fun b t cs hb hc => (h.2 b t cs hb hc).drew⟩

set_option maxRecDepth 100000 in
set_option maxHeartbeats 2000000 in
theorem spans1_in (F : Fence) (n : Nat) (h47 : F.fn 47) (hro : F.round = none) (hn : 1 ≤ n) (l : Nat) (Bs n₀ n₁ len cap : Nat) (A : Option Addr) (ws : List Win) (hok : okL ws = true) (hlen : len = ws.length) (J Jx : List Sp → World → Prop)
    (hY : ∀ pre x W, J pre W → pre.length < ws.length → YieldAt F (n - 1) Try.prog l (Sp.enc x) W fun e W' =>
      (e = .returned (.bool true) ∧ J (pre ++ [x]) W' ∧ KpS n₀ n₁ W W') ∨ (e = .returned (.bool false) ∧ Jx (pre ++ [x]) W'))
    (W : World) (hJ : AbidesFrom W.heap.size J) (hBs : W.cell? ⟨Bs, 0, none⟩ = some (.slice A len cap)) (hw : WinsIn W (.slice A len cap) ws) (hA : ∀ a, A = some a → a.block < n₀) (hn₀ : n₀ ≤ W.heap.size) (hn₁ : n₁ ≤ W.heap.size) (h0 : J [] W) :
    CallsIn F n Try.prog 47 #[.func (.yield l) #[] #[], .pointer (some ⟨Bs, 0, none⟩)] W fun e W' => (∃ v, e = .returned v) ∧
      ((∃ ys, ys = spL ws hok ∧ J ys W') ∨ (∃ pre, pre <+: spL ws hok ∧ Jx pre W')) := by
  refine callsIn_of_wp Try.func47 rfl h47 ?_ hro
  simp only [Try.ntmps47, List.size_toArray, List.length_cons, List.length_nil, Nat.reduceAdd, Nat.reduceSub, Array.replicate_succ, Array.replicate_zero, List.push_toArray, List.append_toArray, List.nil_append, List.cons_append]
  have Hlen := Lib.hid hlen
  have hl64 := (okL_len hok).2
  have hl64' : len ≤ 64 := by omega
  have Hw := Lib.hid hw
  clear hlen hw
  gi_wp2
  gi_loopw [3, 8] (fun at_ i wr => ∃ (k : Nat) (hk : k ≤ ws.length), i = .int .i64 k ∧ at_ = .int .i64 (tot ws k) ∧ J (spTo ws hok k hk) wr ∧ Below n₀ W wr ∧ W.heap.size ≤ wr.heap.size)
    (fun _ i _ => len - (intOf i).toNat)
  case atStart => exact ⟨0, Nat.zero_le _, rfl, rfl, h0, Below.refl _ _, Nat.le_refl _⟩
  case round =>
    obtain ⟨k, hk, rfl, rfl, hJs, hnx, hsz⟩ := hrel
    have hb := tot_bd hok k hk
    by_cases hlt : k < len
    · obtain ⟨x, hx⟩ : ∃ x, ws[k]? = some x := ⟨_, List.getElem?_eq_getElem (by have := Hlen.out; omega)⟩
      have hkl : k < ws.length := (List.getElem?_eq_some_iff.1 hx).1
      obtain ⟨b, off, hA', hbl, c0, c1, c2⟩ := Hw.out.at_ hx
      have hbn : b < n₀ := hA _ hA'
      subst hA'
      have d0 := (hnx.cell (p := ⟨b, off + k * 3, none⟩) hbn).trans c0
      have d1 := (hnx.cell (p := ⟨b, off + k * 3 + 1, none⟩) hbn).trans c1
      have d2 := (hnx.cell (p := ⟨b, off + k * 3 + 2, none⟩) hbn).trans c2
      have hm := (mayW_iff x).1 (okL_at hok hx)
      have hJa := hJ _ wr (wr.alloc (.cells #[.int .i64 x.K, .int .i64 x.I, .int .i64 x.T] 40)) none hJs (World.grownBy_alloc wr _ none) (fun r e => by cases e)
      obtain ⟨fn, tmps, assign, body, hy, hR⟩ := hY _ (spAt ws hok k hkl) _ hJa (by rw [spTo_len]; exact hkl)
      have hxe : ws[k] = x := (List.getElem?_eq_some_iff.1 hx).2
      have henc : Sp.enc (spAt ws hok k hkl) = #[.agg #[.int .i64 k, .int .i64 (tot ws k), .int .i64 (tot ws k + x.T), .int .i64 x.K, .int .i64 x.I, .int .i64 x.T]] := by
        simp [Sp.enc, spAt, hxe]
      rw [henc] at hy
      have hT : tot ws (k + 1) = tot ws k + x.T := tot_succ hx
      have HT := Lib.hid hT
      have Hx := Lib.hid hx
      clear hT hx henc hxe c0 c1 c2
      generalize tot ws k = tk at *
      gi_wp2
      have hsz2 : wr.heap.size < wr.heap.size + 1 := by omega
      refine hR.mono ?_
      rintro e W3 (⟨rfl, hJ3, hk3⟩ | ⟨rfl, hJx3⟩)
      · have hbx := hk3.2 wr.heap.size _ _ (by omega) (Blk.new wr 40 #[.int .i64 x.K, .int .i64 x.I, .int .i64 x.T])
        have e2 := hbx.cell 2
        simp at e2
        have hz3 : wr.heap.size + 1 ≤ W3.heap.size := by have := hk3.1.size; simpa using this
        clear hbx
        gi_wp2
        go_roundw
        case rel => exact ⟨k + 1, hkl, by go_num, by rw [HT.out], hJ3, (hnx.alloc (by omega) _).trans hk3.1, by omega⟩
        case measure => simp [intOf]; omega
      · gi_wp2
        refine bodyPost_ret (results_none rfl _ _ _) rfl ?_
        exact ⟨⟨_, rfl⟩, .inr ⟨spTo ws hok (k + 1) hkl, spTo_all ws hok (k + 1) hkl, hJx3⟩⟩
    · have hkn : k = ws.length := by have := Hlen.out; omega
      gi_wp2
      go_end0
      exact ⟨⟨_, rfl⟩, .inl ⟨_, spTo_full ws hok k hk hkn, hJs⟩⟩
end Go.Proofs.Ytnpdljmgjpngaaa
