/- Invariants of a range over a function: what they abide. -/
import Derived.RangeFuncNested
import Derived.RangeFuncBound
import Derived.RangeFuncCalls
import Derived.RangeFuncLeaves
import Derived.RangeFuncFrom
import Derived.Shelf.Abstract
import Derived.OwnWalkIn
import Derived.TacticsInMore
import Derived.Test.YtonongaakieciaaLib2
namespace Go.Proofs.Ytonongaakieciaa
open Go.RowKit Go.Shelf
set_option linter.unusedVariables false
/-- A block of cells abides the turn of a block that is none. -/
theorem blk_grown {B g : Nat} {t : TypeId} {cs : Array Value} {W W' : World} {row : Option Nat} (hs : Blk W g t cs) (hg : W.grownBy W' row) (hr : ∀ r, row = some r → B ≤ r ∧ ∃ o : Obj, W.heap[r]? = some o ∧ o.isCells = false) : Blk W' g t cs := by
  have hl := hs.lt
  unfold Blk at hs ⊢
  refine (hg.block g hl (fun e => ?_)).trans hs
  obtain ⟨_, o, ho, hc⟩ := hr g e.symm
  rw [hs] at ho
  injection ho with ho
  subst ho
  cases hc
theorem ownFrom_blk {β : Type} (B g : Nat) (t : TypeId) (cs : β → Array Value) : OwnFrom B (fun s W => Blk W g t (cs s)) := fun s W W' row hs hg hr => blk_grown hs hg hr
theorem own_grown {B base : Nat} {e : TypeId} {size n : Nat} {v : Value} {xs : List Value} {W W' : World} {row : Option Nat} (hs : W.ownsRow base e size v n xs) (hg : W.grownBy W' row) (hr : ∀ r, row = some r → B ≤ r ∧ ∃ o : Obj, W.heap[r]? = some o ∧ o.isCells = false) : W'.ownsRow base e size v n xs := by
  refine ⟨hs.1, ?_⟩
  rcases hs.2 with h2 | ⟨g, cap, cur, hv, hb, hh, r⟩
  · exact .inl h2
  · exact .inr ⟨g, cap, cur, hv, hb, blk_grown (show Blk W g e cur from hh) hg hr, r⟩
theorem ownFrom_fr {β : Type} {B : Nat} {S : List Nat} {w : World} (hB : w.heap.size ≤ B) : OwnFrom B (fun (_ : β) W => Fr S w W) :=
  fun s W W' row hs hg hr => ⟨hg.os.trans hs.os, hg.tape.trans hs.tape, hg.output.trans hs.output, Nat.le_trans hs.size hg.size, fun k hk hn => (hg.block k (Nat.lt_of_lt_of_le hk hs.size) (fun e => by have := (hr k e.symm).1; omega)).trans (hs.block k hk hn)⟩
theorem Fr.putDef {S : List Nat} {w W : World} {D : Nat} {o o' : Obj} (h : Fr S w W) (hD : w.heap.size ≤ D) (hK : W.heap[D]? = some o) : Fr S w (W.putObj D o') :=
  h.step (Fr.of_grown (S := [D]) (grownBy_putObj' W D o') (fun k e => by cases e; simp)) (fun k hk => by simp at hk; subst hk; exact .inr hD)
theorem ownFrom_size {β : Type} (B k : Nat) : OwnFrom B (fun (_ : β) W => k ≤ W.heap.size) := fun s W W' row hs hg hr => Nat.le_trans hs hg.size
theorem KeepsOthers.of_fr {S : List Nat} {W W' : World} (h : Fr S W W') (hS : ∀ k, k ∈ S → ∃ t cs, Blk W k t cs) : KeepsOthers W W' :=
  ⟨h.size, fun k o hk ho => (h.block k (Array.getElem?_eq_some_iff.1 hk).1 (fun hm => by
    obtain ⟨t, cs, hb⟩ := hS k hm
    unfold Blk at hb
    rw [hb] at hk
    injection hk with hk
    subst hk
    cases ho)).trans hk⟩
theorem wpIn_append {F : Fence} {n : Nat} {P : Program} {w : World} {o : Oper} {a : Act} {K : Act → World → Prop} {Q : Exit → Act → World → Prop}
    (s x : Operand) (t : TypeId) (hop : o.op = Op.call { callee := Callee.builtin Builtin.append, args := #[s, x], argTypes := #[t, t] })
    (base : Nat) (e : TypeId) (i : TypeInfo) (z : Value) (size bytes : Nat) (h1 : P.underlying t = some (.slice e)) (h2 : P.info? e = some i) (h3 : i.zero = some z) (h4 : i.size = size) (h5 : i.bytes = bytes) (h6 : z.cells.size = size) (h7 : 0 < size)
    (v : Value) (k : Nat) (xs : List Value) (hs : a.eval s = v) (hown : w.ownsRow base e size v k xs) (ad : Addr) (m c : Nat) (news : List Value) (hx : a.eval x = .slice (some ad) m c) (hn : news.length = m * size)
    (hc : ∀ j u, news[j]? = some u → w.cell? (ad.add j) = some u) (h1c : ∀ u ∈ news, u.oneCell' = true) (b1 : k + m ≤ maxLen) (b2 : (k + m) * bytes ≤ 140737488355328) (b3 : base ≤ w.heap.size)
    (hK : ∀ v' w', w'.ownsRow base e size v' (k + m) (xs ++ news) → w.grownBy w' v.ownBlock → (v' = .slice none 0 0 ↔ v = .slice none 0 0 ∧ m = 0) → K (a.put o.dst v') w') :
    Oper.wpIn F n P o a w K Q := by
  obtain ⟨v', w', hrun, r1, r2, r3⟩ := run_append_own (P := P) w base t o.type e i z size bytes h1 h2 h3 h4 h5 h6 h7 v k xs hown ad m c news hn hc h1c b1 b2 b3
  unfold Oper.wpIn
  refine ⟨?_, ?_⟩
  · simp [Oper.about, hop, resolve, Target.leads, Sem.run_pure]
  · rw [Oper.semAt_plain F _ _ (by rw [hop]; intro c hc'; cases hc')]
    simp [execOp, hop, resolve, invoke, builtin, hs, hx, hrun, Result.andThen]
    exact hK v' w' r1 r2 r3
end Go.Proofs.Ytonongaakieciaa
