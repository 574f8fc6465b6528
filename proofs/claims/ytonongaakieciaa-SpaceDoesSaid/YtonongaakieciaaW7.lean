/- The iterator over bytes at an address: its contract. -/
import Derived.RangeFuncNested
import Derived.RangeFuncBound
import Derived.RangeFuncCalls
import Derived.RangeFuncLeaves
import Derived.RangeFuncFrom
import Derived.Shelf.Abstract
import Derived.WalkKit
import Derived.OwnWalkIn
import Derived.TacticsInMore
import Derived.LoopNIn
import Derived.LoopIn
import Derived.Test.YtonongaakieciaaW6
import Derived.Test.YtonongaakieciaaRd
import Derived.Test.YtonongaakieciaaB3
namespace Go.Proofs.Ytonongaakieciaa
open Go.RowKit Go.Shelf
attribute [local go_sem] Oper.semAt_some
set_option linter.unusedVariables false
set_option maxRecDepth 100000
set_option linter.unusedSimpArgs false

def yenc (F : Nat) {N : Nat} : Yb N → Array Value
  | .ok j _ => #[.pointer (some ⟨F, j, none⟩), .int .i64 0]
  | .bad e _ => #[.pointer none, .int .i64 e]
theorem yenc_size (F : Nat) {N : Nat} (x : Yb N) : (yenc F x).size = 2 := by cases x <;> rfl
/-- What a round keeps: all that lay below n₀, and the blocks of S. -/
def KpB (n₀ : Nat) (S : List Nat) (W W' : World) : Prop := Below n₀ W W' ∧ ∀ k, k ∈ S → W'.heap[k]? = W.heap[k]?
theorem KpB.refl (n₀ : Nat) (S : List Nat) (W : World) : KpB n₀ S W W := ⟨Below.refl _ _, fun _ _ => rfl⟩
theorem kpB_t {n₀ : Nat} {S : List Nat} {A B C : World} (h : KpB n₀ S A B) (k : KpB n₀ S B C) : KpB n₀ S A C := ⟨h.1.trans k.1, fun b hb => (k.2 b hb).trans (h.2 b hb)⟩
theorem kpB_b {n₀ : Nat} {S : List Nat} {w : World} (hn : n₀ ≤ w.heap.size) (hS : ∀ k, k ∈ S → k < w.heap.size) (W : World) (l : Nat) (o o' : Obj) (hl : w.heap.size ≤ l) (h : W.heap[l]? = some o) (hc : o.isCells = false) (hw : o.isWalk = false) : KpB n₀ S W (W.putObj l o') :=
  ⟨belowK_b hn W l o o' hl h hc hw, fun k hk => World.putObj_heap_other (by have := hS k hk; omega)⟩
/-- From W to W' nothing below n₀ and nothing of S has turned: a step of Fr that turns neither. -/
theorem KpB.of_fr {n₀ : Nat} {S T : List Nat} {W W' : World} (h : Fr T W W') (hn : n₀ ≤ W.heap.size) (hT : ∀ k, k ∈ T → n₀ ≤ k ∧ k ∉ S) (hS : ∀ k, k ∈ S → k < W.heap.size) : KpB n₀ S W W' :=
  ⟨h.below hn (fun k hk => (hT k hk).1), fun k hk => h.block k (hS k hk) (fun hm => (hT k hm).2 hk)⟩

structure Bx (W : World) (kn ka kt kr km n : Nat) (a r : Int) (tv : Value) (p : Nat) : Prop where
  n_ : W.cell? ⟨kn, 0, none⟩ = some (.int .i64 n)
  a_ : W.cell? ⟨ka, 0, none⟩ = some (.int .i64 a)
  t_ : W.cell? ⟨kt, 0, none⟩ = some tv
  r_ : W.cell? ⟨kr, 0, none⟩ = some (.int .i64 r)
  m_ : W.cell? ⟨km, 0, none⟩ = some (ptr p)
theorem Bx.kp {W W' : World} {kn ka kt kr km n : Nat} {a r : Int} {tv : Value} {p : Nat} (h : Bx W kn ka kt kr km n a r tv p) (hk : ∀ k, k ∈ [kn, ka, kt, kr, km] → W'.heap[k]? = W.heap[k]?) : Bx W' kn ka kt kr km n a r tv p :=
  ⟨(World.cell?_of_block (a := ⟨kn, 0, none⟩) (hk kn (by simp))).trans h.n_, (World.cell?_of_block (a := ⟨ka, 0, none⟩) (hk ka (by simp))).trans h.a_, (World.cell?_of_block (a := ⟨kt, 0, none⟩) (hk kt (by simp))).trans h.t_, (World.cell?_of_block (a := ⟨kr, 0, none⟩) (hk kr (by simp))).trans h.r_, (World.cell?_of_block (a := ⟨km, 0, none⟩) (hk km (by simp))).trans h.m_⟩

theorem Bx.lts {W : World} {kn ka kt kr km n : Nat} {a r : Int} {tv : Value} {p : Nat} (h : Bx W kn ka kt kr km n a r tv p) : ∀ k, k ∈ [kn, ka, kt, kr, km] → k < W.heap.size := by
  intro k hk
  simp at hk
  rcases hk with rfl | rfl | rfl | rfl | rfl
  · exact World.block_lt_of_cell? W _ h.n_
  · exact World.block_lt_of_cell? W _ h.a_
  · exact World.block_lt_of_cell? W _ h.t_
  · exact World.block_lt_of_cell? W _ h.r_
  · exact World.block_lt_of_cell? W _ h.m_
set_option maxHeartbeats 1000000 in
theorem bytes_in (F : Fence) (n : Nat) (h31 : F.fn 91) (hro : F.round = none) (p m cap : Nat) (A : Option Addr) (a k r : Int) (w : World) :
    CallsIn F n Try.prog 91 #[ptr p, .slice A m cap, .int .i64 a, .int .i64 k, .int .i64 r] w fun e w' =>
      e = .returned (.func (.func 120) #[] #[ptr (w.heap.size + 1 + 1 + 1), ptr (w.heap.size + 1 + 1), ptr (w.heap.size + 1), ptr (w.heap.size + 1 + 1 + 1 + 1), ptr w.heap.size]) ∧
      w' = ((((w.alloc (.cells #[ptr p] 54)).alloc (.cells #[.slice A m cap] 62)).alloc (.cells #[.int .i64 a] 3)).alloc (.cells #[.int .i64 k] 3)).alloc (.cells #[.int .i64 r] 3) := by
  refine callsIn_of_wp Try.func91 rfl h31 ?_ hro
  simp only [Try.ntmps91, List.size_toArray, List.length_cons, List.length_nil, Nat.reduceAdd, Nat.reduceSub, Array.replicate_succ, Array.replicate_zero, List.push_toArray, List.append_toArray, List.nil_append, List.cons_append]
  gi_wp2
  go_ret
  exact ⟨rfl, rfl⟩
end Go.Proofs.Ytonongaakieciaa
