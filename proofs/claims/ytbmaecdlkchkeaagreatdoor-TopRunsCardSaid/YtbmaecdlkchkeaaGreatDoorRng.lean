/- A region that draws its order, whatever the fence (in a round of a range over a function too): an invariant that each operation keeps, over which ones have run. A region that draws its order: the invariant's way, and what has run bears all that it is bound to. Invariants of a range over a function: what they abide. -/
import Derived.OrdersIn
import Derived.WalkKit
import Derived.OwnWalkIn
import Derived.TacticsInMore
import Derived.RangeFuncNested
import Derived.RangeFuncBound
import Derived.RangeFuncCalls
import Derived.RangeFuncLeaves
import Derived.RangeFuncFrom
import Derived.Shelf.Abstract
import Derived.Test.YtbmaecdlkchkeaaGreatDoorLib2
namespace Go.Proofs.YtbmaecdlkchkeaaGreatDoor
open Go.RowKit

section
variable {F : Fence} {n : Nat} {P : Program} {ops : Array Oper} {Q : Exit → Act → World → Prop} {md : Region.Mode}

/-- Each operation is bound behind elder ones alone. -/
def topo (md : Region.Mode) (ops : Array Oper) : Bool := ops.toList.zipIdx.all fun (o, i) => o.after.toList.all fun e => !Region.binds md e || decide (e.on < i)
theorem topo_at (h : topo md ops = true) {i : Nat} {o : Oper} (ho : ops[i]? = some o) {e : Edge} (he : e ∈ o.after) (hb : Region.binds md e = true) : e.on < i := by
  unfold topo at h
  rw [List.all_eq_true] at h
  have h1 := h (o, i) (by
    rw [List.mem_zipIdx_iff_getElem?]
    simpa using ho)
  simp only [List.all_eq_true] at h1
  have h2 := h1 e (by simpa using he)
  simpa [hb] using h2
theorem ready_nil_all (ht : topo md ops = true) {L : Array Bool} (hs : L.size = ops.size) (hr : Region.ready md ops L = []) : L = Array.replicate ops.size true := by
  have key : ∀ i, i < ops.size → L.getD i true = true := by
    intro i
    induction i using Nat.strongRecOn with
    | _ i ih =>
      intro hi
      cases hf : L.getD i true with
      | true => rfl
      | false =>
        exfalso
        have : i ∈ Region.ready md ops L := mem_ready.2 ⟨hf, ops[i], by simp [hi], fun e he hb => by
          have hlt := topo_at ht (show ops[i]? = some ops[i] by simp [hi]) he hb
          have := ih e.on hlt (by omega)
          have hl : e.on < L.size := by omega
          simpa [Array.getD, hl] using this⟩
        rw [hr] at this
        cases this
  apply Array.ext
  · simpa using hs
  · intro i h1 h2
    have := key i (by omega)
    simpa [Array.getD, h1] using this
theorem count_set {L : List Bool} {i : Nat} (h : L[i]? = some false) : (L.set i true).count false + 1 = L.count false := by
  induction L generalizing i with
  | nil => simp at h
  | cons b L ih =>
    cases i with
    | zero => simp at h; subst h; simp
    | succ i =>
      simp at h
      have := ih h
      simp [List.count_cons]
      omega
theorem wpAnyIn_inv (ht : topo md ops = true) (Φ : Array Bool → Act → World → Prop)
    (hstep : ∀ (L : Array Bool) (a : Act) (w : World) (i : Nat) (o : Oper), L.size = ops.size → ops[i]? = some o → L.getD i true = false → (∀ e ∈ o.after, Region.binds md e = true → L.getD e.on false = true) → Φ L a w → wpOpIn F n P ops Q i (Φ (L.setIfInBounds i true)) a w)
    (hend : ∀ a w, Φ (Array.replicate ops.size true) a w → Q .normal a w) :
    ∀ (fuel : Nat) (L : Array Bool) (a : Act) (w : World), L.size = ops.size → L.toList.count false ≤ fuel → Φ L a w → wpAnyIn F n P md ops Q fuel L a w := by
  have hn : ∀ L a w, L.size = ops.size → Φ L a w → Region.ready md ops L = [] → Q .normal a w := fun L a w hs hΦ hr => by
    rw [ready_nil_all ht hs hr] at hΦ
    exact hend a w hΦ
  intro fuel
  induction fuel with
  | zero =>
    intro L a w hs hc hΦ
    have hr : Region.ready md ops L = [] := by
      rw [List.eq_nil_iff_forall_not_mem]
      intro i hi
      obtain ⟨hf, o, ho, -⟩ := mem_ready.1 hi
      have hlt : i < L.size := by rw [hs]; exact (Array.getElem?_eq_some_iff.1 ho).1
      have : false ∈ L.toList := by
        rw [List.mem_iff_getElem?]
        exact ⟨i, by simp [Array.getD, hlt] at hf; simp [hlt, hf]⟩
      have h2 := List.count_pos_iff.2 this
      omega
    exact ⟨hr, hn L a w hs hΦ hr⟩
  | succ fuel ih =>
    intro L a w hs hc hΦ
    refine ⟨hn L a w hs hΦ, fun i hi => ?_⟩
    obtain ⟨hf, o, ho, hp⟩ := mem_ready.1 hi
    have hlt : i < L.size := by rw [hs]; exact (Array.getElem?_eq_some_iff.1 ho).1
    refine wpOpIn_mono (fun a w h => ih _ a w (by simpa using hs) ?_ h) (hstep L a w i o hs ho hf hp hΦ)
    have h1 : L.toList[i]? = some false := by simp [Array.getD, hlt] at hf; simp [hlt, hf]
    have h2 := count_set h1
    simp only [Array.toList_setIfInBounds]
    omega
theorem wpIn_region_inv {id : Nat} {a : Act} {w : World} (hm : P.follows .mixedOrders = true) (ht : topo .any ops = true) (Φ : Array Bool → Act → World → Prop)
    (h0 : Φ (Array.replicate ops.size false) a w.drew)
    (hstep : ∀ (L : Array Bool) (a : Act) (w : World) (i : Nat) (o : Oper), L.size = ops.size → ops[i]? = some o → L.getD i true = false → (∀ e ∈ o.after, Region.binds .any e = true → L.getD e.on false = true) → Φ L a w → wpOpIn F n P ops Q i (Φ (L.setIfInBounds i true)) a w)
    (hend : ∀ a w, Φ (Array.replicate ops.size true) a w → Q .normal a w) : (Code.region id ops true).wpIn F n P Q a w :=
  wpIn_region_any hm (wpAnyIn_inv ht Φ hstep hend _ _ _ _ (by simp) (by simp) h0)
end
end Go.Proofs.YtbmaecdlkchkeaaGreatDoor
namespace Go.Proofs.YtbmaecdlkchkeaaGreatDoor
open Go.RowKit
section
variable {F : Fence} {n : Nat} {P : Program} {ops : Array Oper} {Q : Exit → Act → World → Prop} {md : Region.Mode}
/-- Of what has run, all that it is bound to has run. -/
def Closed (md : Region.Mode) (ops : Array Oper) (L : Array Bool) : Prop := ∀ (i : Nat) (o : Oper), ops[i]? = some o → L.getD i false = true → ∀ e ∈ o.after, Region.binds md e = true → L.getD e.on false = true
def marks (md : Region.Mode) : List Edge → List Bool → List Bool
  | [], s => s
  | e :: es, s => marks md es (if Region.binds md e then s.set e.on true else s)
/-- All that the marked ones are bound to, marked. -/
def closeDown (md : Region.Mode) (ops : Array Oper) : Nat → List Bool → List Bool
  | 0, s => s
  | k + 1, s => closeDown md ops k (if s.getD k false then (match ops[k]? with | none => s | some o => marks md o.after.toList s) else s)
def needs (md : Region.Mode) (ops : Array Oper) (i j : Nat) : Bool := (closeDown md ops ops.size ((List.replicate ops.size false).set i true)).getD j false
theorem getD_set_true {s : List Bool} {i j : Nat} (h : (s.set i true).getD j false = true) : s.getD j false = true ∨ i = j := by
  by_cases hij : i = j
  · exact .inr hij
  · left
    rw [List.getD_eq_getElem?_getD, List.getElem?_set_ne hij] at h
    rw [List.getD_eq_getElem?_getD]
    exact h
theorem marks_sub {L : Array Bool} : ∀ (es : List Edge) (s : List Bool), (∀ j, s.getD j false = true → L.getD j false = true) → (∀ e ∈ es, Region.binds md e = true → L.getD e.on false = true) → ∀ j, (marks md es s).getD j false = true → L.getD j false = true := by
  intro es
  induction es with
  | nil => intro s hs _ j hj; exact hs j hj
  | cons e es ih =>
    intro s hs he j hj
    refine ih _ (fun j hj => ?_) (fun e' h' => he e' (List.mem_cons_of_mem _ h')) j hj
    split at hj
    · rename_i hb
      rcases getD_set_true hj with h | rfl
      · exact hs j h
      · exact he e (List.mem_cons_self ..) hb
    · exact hs j hj
theorem closeDown_sub {L : Array Bool} (hc : Closed md ops L) : ∀ (k : Nat) (s : List Bool), (∀ j, s.getD j false = true → L.getD j false = true) → ∀ j, (closeDown md ops k s).getD j false = true → L.getD j false = true := by
  intro k
  induction k with
  | zero => intro s hs j hj; exact hs j hj
  | succ k ih =>
    intro s hs j hj
    rw [closeDown] at hj
    refine ih _ (fun j hj => ?_) j hj
    split at hj
    · rename_i hk
      cases ho : ops[k]? with
      | none => rw [ho] at hj; exact hs j hj
      | some o =>
        rw [ho] at hj
        exact marks_sub _ s hs (fun e he hb => hc k o ho (hs k hk) e (by simpa using he) hb) j hj
    · exact hs j hj
theorem Closed.needs {L : Array Bool} (hc : Closed md ops L) {i j : Nat} (hn : needs md ops i j = true) (hi : L.getD i false = true) : L.getD j false = true := by
  refine closeDown_sub hc _ _ (fun k hk => ?_) j hn
  rcases getD_set_true hk with h | rfl
  · have : (List.replicate ops.size false).getD k false = false := by
      rw [List.getD_eq_getElem?_getD, List.getElem?_replicate]
      split <;> rfl
    rw [this] at h
    cases h
  · exact hi
/-- What has not run, of what another one is bound to: then that has not run either. -/
theorem Closed.off {L : Array Bool} (hc : Closed md ops L) {i j : Nat} (hn : Go.Proofs.YtbmaecdlkchkeaaGreatDoor.needs md ops i j = true) (hj : L.getD j true = false) : L.getD i false = false := by
  cases hi : L.getD i false with
  | false => rfl
  | true =>
    have := hc.needs hn hi
    by_cases hl : j < L.size
    · simp [Array.getD, hl] at this hj
      rw [this] at hj
      cases hj
    · simp [Array.getD, hl] at this
theorem Closed.set_ {L : Array Bool} (hc : Closed md ops L) {i : Nat} {o : Oper} (ho : ops[i]? = some o) (hi : i < L.size) (hp : ∀ e ∈ o.after, Region.binds md e = true → L.getD e.on false = true) : Closed md ops (L.setIfInBounds i true) := by
  have up : ∀ j, L.getD j false = true → (L.setIfInBounds i true).getD j false = true := by
    intro j hj
    by_cases hl : j < L.size
    · simp [Array.getD, hl] at hj ⊢
      rw [Array.getElem_setIfInBounds]
      split
      · rfl
      · exact hj
    · simp [Array.getD, hl] at hj
  intro k o' ho' hk e he hb
  by_cases hki : k = i
  · subst hki
    rw [ho] at ho'
    injection ho' with ho'
    subst ho'
    exact up _ (hp e he hb)
  · refine up _ (hc k o' ho' ?_ e he hb)
    by_cases hl : k < L.size
    · simp [Array.getD, hl] at hk ⊢
      rw [Array.getElem_setIfInBounds hl, if_neg (Ne.symm hki)] at hk
      exact hk
    · simp [Array.getD, hl] at hk
theorem wpIn_region_inv2 {id : Nat} {a : Act} {w : World} (hm : P.follows .mixedOrders = true) (ht : topo .any ops = true) (Φ : Array Bool → Act → World → Prop)
    (h0 : Φ (Array.replicate ops.size false) a w.drew)
    (hstep : ∀ (L : Array Bool) (a : Act) (w : World) (i : Nat) (o : Oper), L.size = ops.size → ops[i]? = some o → L.getD i true = false → (∀ e ∈ o.after, Region.binds .any e = true → L.getD e.on false = true) → Closed .any ops L → Φ L a w → wpOpIn F n P ops Q i (Φ (L.setIfInBounds i true)) a w)
    (hend : ∀ a w, Φ (Array.replicate ops.size true) a w → Q .normal a w) : (Code.region id ops true).wpIn F n P Q a w := by
  refine wpIn_region_inv hm ht (fun L a w => Φ L a w ∧ Closed .any ops L) ⟨h0, ?_⟩ ?_ (fun a w h => hend a w h.1)
  · intro i o _ hi
    simp [Array.getD] at hi
  · intro L a w i o hs ho hf hp ⟨hΦ, hc⟩
    have hi : i < L.size := by rw [hs]; exact (Array.getElem?_eq_some_iff.1 ho).1
    exact wpOpIn_mono (fun a w h => ⟨h, hc.set_ ho hi hp⟩) (hstep L a w i o hs ho hf hp hc hΦ)
end
end Go.Proofs.YtbmaecdlkchkeaaGreatDoor
namespace Go.Proofs.YtbmaecdlkchkeaaGreatDoor
open Go.RowKit Go.Shelf
set_option linter.unusedVariables false
/-- A block of cells abides the turn of a block that is none. -/
theorem blk_grown {B g : Nat} {t : TypeId} {cs : Array Value} {W W' : World} {row : Option Nat} (hs : Blk W g t cs) (hg : W.grownBy W' row) (hr : ∀ r, row = some r → B ≤ r ∧ ∃ o : Obj, W.heap[r]? = some o ∧ o.isCells = false) : Blk W' g t cs := by
  have hl := hs.lt
  unfold Blk at hs ⊢
  refine (hg.block g hl (fun e => ?_)).trans hs
  obtain ⟨_, o, ho, hc⟩ := hr g e.symm
  rw [hs] at ho
  injection ho with ho
  subst ho
  cases hc
theorem ownFrom_blk {β : Type} (B g : Nat) (t : TypeId) (cs : β → Array Value) : OwnFrom B (fun s W => Blk W g t (cs s)) := fun s W W' row hs hg hr => blk_grown hs hg hr
theorem own_grown {B base : Nat} {e : TypeId} {size n : Nat} {v : Value} {xs : List Value} {W W' : World} {row : Option Nat} (hs : W.ownsRow base e size v n xs) (hg : W.grownBy W' row) (hr : ∀ r, row = some r → B ≤ r ∧ ∃ o : Obj, W.heap[r]? = some o ∧ o.isCells = false) : W'.ownsRow base e size v n xs := by
  refine ⟨hs.1, ?_⟩
  rcases hs.2 with h2 | ⟨g, cap, cur, hv, hb, hh, r⟩
  · exact .inl h2
  · exact .inr ⟨g, cap, cur, hv, hb, blk_grown (show Blk W g e cur from hh) hg hr, r⟩
theorem ownFrom_fr {β : Type} {B : Nat} {S : List Nat} {w : World} (hB : w.heap.size ≤ B) : OwnFrom B (fun (_ : β) W => Fr S w W) :=
  fun s W W' row hs hg hr => ⟨hg.os.trans hs.os, hg.tape.trans hs.tape, hg.output.trans hs.output, Nat.le_trans hs.size hg.size, fun k hk hn => (hg.block k (Nat.lt_of_lt_of_le hk hs.size) (fun e => by have := (hr k e.symm).1; omega)).trans (hs.block k hk hn)⟩
theorem Fr.putDef {S : List Nat} {w W : World} {D : Nat} {o o' : Obj} (h : Fr S w W) (hD : w.heap.size ≤ D) (hK : W.heap[D]? = some o) : Fr S w (W.putObj D o') :=
  h.step (Fr.of_grown (S := [D]) (grownBy_putObj' W D o') (fun k e => by cases e; simp)) (fun k hk => by simp at hk; subst hk; exact .inr hD)
theorem ownFrom_size {β : Type} (B k : Nat) : OwnFrom B (fun (_ : β) W => k ≤ W.heap.size) := fun s W W' row hs hg hr => Nat.le_trans hs hg.size
theorem KeepsOthers.of_fr {S : List Nat} {W W' : World} (h : Fr S W W') (hS : ∀ k, k ∈ S → ∃ t cs, Blk W k t cs) : KeepsOthers W W' :=
  ⟨h.size, fun k o hk ho => (h.block k (Array.getElem?_eq_some_iff.1 hk).1 (fun hm => by
    obtain ⟨t, cs, hb⟩ := hS k hm
    unfold Blk at hb
    rw [hb] at hk
    injection hk with hk
    subst hk
    cases ho)).trans hk⟩
theorem wpIn_append {F : Fence} {n : Nat} {P : Program} {w : World} {o : Oper} {a : Act} {K : Act → World → Prop} {Q : Exit → Act → World → Prop}
    (s x : Operand) (t : TypeId) (hop : o.op = Op.call { callee := Callee.builtin Builtin.append, args := #[s, x], argTypes := #[t, t] })
    (base : Nat) (e : TypeId) (i : TypeInfo) (z : Value) (size bytes : Nat) (h1 : P.underlying t = some (.slice e)) (h2 : P.info? e = some i) (h3 : i.zero = some z) (h4 : i.size = size) (h5 : i.bytes = bytes) (h6 : z.cells.size = size) (h7 : 0 < size)
    (v : Value) (k : Nat) (xs : List Value) (hs : a.eval s = v) (hown : w.ownsRow base e size v k xs) (ad : Addr) (m c : Nat) (news : List Value) (hx : a.eval x = .slice (some ad) m c) (hn : news.length = m * size)
    (hc : ∀ j u, news[j]? = some u → w.cell? (ad.add j) = some u) (h1c : ∀ u ∈ news, u.oneCell' = true) (b1 : k + m ≤ maxLen) (b2 : (k + m) * bytes ≤ 140737488355328) (b3 : base ≤ w.heap.size)
    (hK : ∀ v' w', w'.ownsRow base e size v' (k + m) (xs ++ news) → w.grownBy w' v.ownBlock → (v' = .slice none 0 0 ↔ v = .slice none 0 0 ∧ m = 0) → K (a.put o.dst v') w') :
    Oper.wpIn F n P o a w K Q := by
  obtain ⟨v', w', hrun, r1, r2, r3⟩ := run_append_own (P := P) w base t o.type e i z size bytes h1 h2 h3 h4 h5 h6 h7 v k xs hown ad m c news hn hc h1c b1 b2 b3
  unfold Oper.wpIn
  refine ⟨?_, ?_⟩
  · simp [Oper.about, hop, resolve, Target.leads, Sem.run_pure]
  · rw [Oper.semAt_plain F _ _ (by rw [hop]; intro c hc'; cases hc')]
    simp [execOp, hop, resolve, invoke, builtin, hs, hx, hrun, Result.andThen]
    exact hK v' w' r1 r2 r3
end Go.Proofs.YtbmaecdlkchkeaaGreatDoor
