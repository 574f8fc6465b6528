/- Plain lemmas on worlds: a block known whole, a frame with a list of blocks that may turn, a slice in memory of the call's own. -/
import Derived.Below
import Derived.Deep.Draws
import Derived.Deep.Quiet
import Derived.OwnWalk
import Derived.Laws.AppendOwn
import Derived.Laws.Append
import Derived.Laws.NewBlocks
import Derived.WalkSmall
import Derived.ChangeSame
import Derived.RegionTactic
import Derived.Deep.RegionLaw
namespace Go.Proofs.YtbmaecdlkchkeaaGreatDoor
open Go.RowKit

/-- Block g is just the cells cs of element type t, none of them frozen. -/
def Blk (w : World) (g : Nat) (t : TypeId) (cs : Array Value) : Prop := w.heap[g]? = some (.cells cs t (0, 0))

/-- From w to w' no block that was there has turned, but those of S. -/
structure Fr (S : List Nat) (w w' : World) : Prop where
  os : w'.os = w.os
  tape : w'.tape = w.tape
  output : w'.output = w.output
  size : w.heap.size ≤ w'.heap.size
  block : ∀ k, k < w.heap.size → k ∉ S → w'.heap[k]? = w.heap[k]?

section
variable {w w' w'' : World} {g : Nat} {t : TypeId} {cs : Array Value} {S : List Nat}
theorem Blk.lt (h : Blk w g t cs) : g < w.heap.size := by
  unfold Blk at h
  exact (Array.getElem?_eq_some_iff.1 h).1
theorem Blk.cell (h : Blk w g t cs) (i : Nat) : w.cell? ⟨g, i, none⟩ = cs[i]? := by
  unfold Blk at h
  simp [World.cell?, h]
theorem Blk.frozen (h : Blk w g t cs) (i : Nat) : w.frozen? ⟨g, i, none⟩ = false := by
  unfold Blk at h
  simp [World.frozen?, h]
theorem Blk.cellA (h : Blk w g t cs) (a : Addr) (ha : a.block = g) (hs : a.spot = none) : w.cell? a = cs[a.off]? := by
  obtain ⟨b, o, s⟩ := a
  simp only at ha hs
  subst ha; subst hs
  exact h.cell o
theorem Blk.new (w : World) (t : TypeId) (cs : Array Value) : Blk (w.alloc (.cells cs t)) w.heap.size t cs := heap_alloc_new w _
theorem Blk.new' {w : World} {g : Nat} {t : TypeId} {cs : Array Value} (h : g = w.heap.size) : Blk (w.alloc (.cells cs t)) g t cs := by
  subst h; exact Blk.new w t cs
theorem Blk.drew (h : Blk w g t cs) : Blk w.drew g t cs := h
theorem Blk.drewN (h : Blk w g t cs) (n : Nat) : Blk (w.drewN n) g t cs := h
theorem Blk.alloc (h : Blk w g t cs) (o : Obj) : Blk (w.alloc o) g t cs := (Below.heap_alloc w o g h.lt).trans h
theorem Blk.set_ (h : Blk w g t cs) (i : Nat) (u : Value) : Blk (w.setCell ⟨g, i, none⟩ u) g t (cs.setIfInBounds i u) := by
  unfold Blk at h ⊢
  simp [World.setCell, Array.getElem?_modify, h]
theorem Blk.far (h : Blk w g t cs) {p : Addr} (hp : g ≠ p.block) (u : Value) : Blk (w.setCell p u) g t cs := (Below.heap_setCell w p u g hp).trans h
theorem Blk.fr (h : Blk w g t cs) (hf : Fr S w w') (hg : g ∉ S) : Blk w' g t cs := (hf.block g h.lt hg).trans h
theorem Blk.below {B : Nat} (h : Blk w g t cs) (hb : Below B w w') (hg : g < B) : Blk w' g t cs := (hb.block g hg).trans h
theorem Blk.eq {t' : TypeId} {cs' : Array Value} (h : Blk w g t cs) (h' : Blk w g t' cs') : t = t' ∧ cs = cs' := by
  unfold Blk at h h'
  rw [h] at h'
  injection h' with h'
  injection h' with hc ht
  exact ⟨ht, hc⟩
theorem Blk.ne_ {g' : Nat} {t' : TypeId} {cs' : Array Value} (h : Blk w g t cs) (h' : Blk w g' t' cs') (hne : t ≠ t') : g ≠ g' := by
  rintro rfl
  exact hne (h.eq h').1

theorem Fr.refl (S : List Nat) (w : World) : Fr S w w := ⟨rfl, rfl, rfl, Nat.le_refl _, fun _ _ _ => rfl⟩
theorem Fr.trans (h : Fr S w w') (k : Fr S w' w'') : Fr S w w'' :=
  ⟨k.os.trans h.os, k.tape.trans h.tape, k.output.trans h.output, Nat.le_trans h.size k.size, fun i hi hn => (k.block i (Nat.lt_of_lt_of_le hi h.size) hn).trans (h.block i hi hn)⟩
theorem Fr.mono {S' : List Nat} (h : Fr S w w') (hs : ∀ k, k ∈ S → k < w.heap.size → k ∈ S') : Fr S' w w' :=
  ⟨h.os, h.tape, h.output, h.size, fun i hi hn => h.block i hi (fun hk => hn (hs i hk hi))⟩
/-- Two steps, the second of which turns blocks of S or blocks that were not there at the start. -/
theorem Fr.step {S' : List Nat} (h : Fr S w w') (k : Fr S' w' w'') (hs : ∀ k, k ∈ S' → k ∈ S ∨ w.heap.size ≤ k) : Fr S w w'' :=
  ⟨k.os.trans h.os, k.tape.trans h.tape, k.output.trans h.output, Nat.le_trans h.size k.size, fun i hi hn =>
    (k.block i (Nat.lt_of_lt_of_le hi h.size) (fun hk => (hs i hk).elim hn (fun h => by omega))).trans (h.block i hi hn)⟩
theorem Fr.drew (h : Fr S w w') : Fr S w w'.drew := ⟨h.os, h.tape, h.output, h.size, h.block⟩
theorem Fr.drewN (h : Fr S w w') (n : Nat) : Fr S w (w'.drewN n) := ⟨h.os, h.tape, h.output, h.size, h.block⟩
theorem Fr.alloc (h : Fr S w w') (o : Obj) : Fr S w (w'.alloc o) :=
  ⟨h.os, h.tape, h.output, Nat.le_trans h.size (by simp), fun i hi hn => (Below.heap_alloc w' o i (Nat.lt_of_lt_of_le hi h.size)).trans (h.block i hi hn)⟩
theorem Fr.setCell (h : Fr S w w') {p : Addr} (hp : p.block ∈ S ∨ w.heap.size ≤ p.block) (u : Value) : Fr S w (w'.setCell p u) :=
  ⟨h.os, h.tape, h.output, by simpa [World.setCell] using h.size, fun i hi hn => (Below.heap_setCell w' p u i (by
    rintro rfl
    rcases hp with hp | hp
    · exact hn hp
    · omega)).trans (h.block i hi hn)⟩
theorem Fr.below {B : Nat} (h : Fr S w w') (hB : B ≤ w.heap.size) (hs : ∀ k, k ∈ S → B ≤ k) : Below B w w' :=
  ⟨h.os, h.tape, h.output, h.size, fun k hk => h.block k (by omega) (fun hm => by have := hs k hm; omega)⟩
theorem Fr.of_below {B : Nat} (h : Below B w w') (hB : w.heap.size ≤ B) : Fr S w w' :=
  ⟨h.os, h.tape, h.output, h.size, fun k hk _ => h.block k (by omega)⟩
theorem Fr.of_grown {row : Option Nat} (h : w.grownBy w' row) (hr : ∀ k, row = some k → k ∈ S) : Fr S w w' :=
  ⟨h.os, h.tape, h.output, h.size, fun k hk hn => h.block k hk (fun e => hn (hr k e.symm))⟩
theorem Fr.cell (h : Fr S w w') {p : Addr} (hp : p.block < w.heap.size) (hn : p.block ∉ S) : w'.cell? p = w.cell? p := World.cell?_of_block (w := w) (h.block p.block hp hn)
theorem Fr.frozen (h : Fr S w w') {p : Addr} (hp : p.block < w.heap.size) (hn : p.block ∉ S) : w'.frozen? p = w.frozen? p := World.frozen?_of_block (w := w) (h.block p.block hp hn)

/-- A slice of n elements (size cells each) in a block of element type e that is known whole; xs: its cells. -/
def Sl (w : World) (e : TypeId) (size : Nat) (v : Value) (n : Nat) (xs : List Value) : Prop :=
  xs.length = n * size ∧ ((v = .slice none 0 0 ∧ n = 0) ∨
    ∃ g o cap cs, v = .slice (some ⟨g, o, none⟩) n cap ∧ n ≤ cap ∧ cap ≤ maxLen ∧ Blk w g e cs ∧ ∀ j u, xs[j]? = some u → cs[o + j]? = some u)
section
variable {e : TypeId} {size n : Nat} {v : Value} {xs : List Value}
theorem Sl.nil (w : World) (e : TypeId) (size : Nat) : Sl w e size (.slice none 0 0) 0 [] := ⟨by simp, .inl ⟨rfl, rfl⟩⟩
theorem Sl.fr (h : Sl w e size v n xs) (hf : Fr S w w') (hs : ∀ k, k ∈ S → ∀ cs, ¬ Blk w k e cs) : Sl w' e size v n xs := by
  refine ⟨h.1, ?_⟩
  rcases h.2 with h2 | ⟨g, o, cap, cs, hv, h1, h2, hb, hc⟩
  · exact .inl h2
  · exact .inr ⟨g, o, cap, cs, hv, h1, h2, hb.fr hf (fun hk => hs g hk cs hb), hc⟩
theorem Sl.cells (h : Sl w e size v n xs) (g o cap : Nat) (hv : v = .slice (some ⟨g, o, none⟩) n cap) : ∀ j u, xs[j]? = some u → w.cell? ⟨g, o + j, none⟩ = some u := by
  intro j u hu
  rcases h.2 with ⟨h2, _⟩ | ⟨g', o', cap', cs, hv', h1, h2, hb, hc⟩
  · rw [hv] at h2; cases h2
  · rw [hv] at hv'
    injection hv' with ha hn hcp
    injection ha with ha
    injection ha with hg ho
    subst hg; subst ho
    rw [hb.cell]
    exact hc j u hu
end
end

/-- What an append that has no room reads of the slice it goes onto: its cells. -/
def Olds (w : World) (A : Option Addr) (n cap : Nat) (xs : List Value) : Prop :=
  (A = none → n = 0 ∧ cap = 0) ∧ ∀ b, A = some b → ∀ j u, xs[j]? = some u → w.cell? (b.add j) = some u
theorem Fr.cell_some {S : List Nat} {w w' : World} (h : Fr S w w') {p : Addr} {u : Value} (hc : w.cell? p = some u) (hn : p.block ∉ S) : w'.cell? p = some u :=
  (h.cell (World.block_lt_of_cell? w p hc) hn).trans hc
theorem block_add (b : Addr) (j : Nat) : (b.add j).block = b.block := by
  unfold Addr.add
  split <;> rfl
theorem Olds.fr {w w' : World} {A : Option Addr} {n cap : Nat} {xs : List Value} (h : Olds w A n cap xs) (hf : Fr [] w w') : Olds w' A n cap xs :=
  ⟨h.1, fun b hb j u hu => hf.cell_some (h.2 b hb j u hu) (by simp)⟩
theorem addr_add (b o j : Nat) : (⟨b, o, none⟩ : Addr).add j = ⟨b, o + j, none⟩ := by simp [Addr.add]
theorem news1 {w : World} {b : Nat} {x : Value} (h : w.cell? ⟨b, 0, none⟩ = some x) : ∀ (j : Nat) (u : Value), [x][j]? = some u → w.cell? ((⟨b, 0, none⟩ : Addr).add j) = some u := by
  intro j u hu
  rw [addr_add]
  match j, hu with
  | 0, hu => simp at hu; rw [← hu]; simpa using h
theorem news2 {w : World} {b : Nat} {x y : Value} (h : w.cell? ⟨b, 0, none⟩ = some x) (h1 : w.cell? ⟨b, 1, none⟩ = some y) : ∀ (j : Nat) (u : Value), [x, y][j]? = some u → w.cell? ((⟨b, 0, none⟩ : Addr).add j) = some u := by
  intro j u hu
  rw [addr_add]
  match j, hu with
  | 0, hu => simp at hu; rw [← hu]; simpa using h
  | 1, hu => simp at hu; rw [← hu]; simpa using h1
section
variable {P : Program} (w : World)
theorem run_append_fresh (t ty e : TypeId) (i : TypeInfo) (z : Value) (size bytes : Nat) (ht : P.underlying t = some (.slice e)) (hi : P.info? e = some i) (hz : i.zero = some z)
    (hsize : i.size = size) (hby : i.bytes = bytes)
    (A : Option Addr) (n cap : Nat) (xs : List Value) (hx : xs.length = n * size) (ho : Olds w A n cap xs)
    (b : Addr) (m c : Nat) (news : List Value) (hl : news.length = m * size) (hnews : ∀ j u, news[j]? = some u → w.cell? (b.add j) = some u)
    (hm : 0 < m) (hg : cap < n + m) (h63 : n + m ≤ maxLen) (hbytes : (n + m) * bytes ≤ 140737488355328) :
    ∃ (cap' : Nat) (cs : Array Value), (Builtin.append_ #[t, t] ty #[.slice A n cap, .slice (some b) m c]).run P w = .ok (.slice (some ⟨w.heap.size, 0, none⟩) (n + m) cap') (w.drew.alloc (.cells cs e)) ∧
      n + m ≤ cap' ∧ cap' ≤ maxLen ∧ ∀ (j : Nat) (u : Value), (xs ++ news)[j]? = some u → cs[j]? = some u := by
  subst hsize
  subst hby
  have hsmall : n + m ≤ 9223372036854775807 := by simp only [maxLen] at h63; omega
  have read : ∀ (zs : Array Value) (j : Nat) (u : Value), (xs ++ news)[j]? = some u → (xs.toArray ++ news.toArray ++ zs)[j]? = some u := by
    intro zs j u hu
    have hj : j < (xs ++ news).length := (List.getElem?_eq_some_iff.1 hu).1
    rw [Array.getElem?_append_left (by simpa using hj)]
    simpa using hu
  rcases A with _ | ad
  · obtain ⟨rfl, rfl⟩ := ho.1 rfl
    have hxs : xs = [] := List.eq_nil_of_length_eq_zero (by simpa using hx)
    subst hxs
    have hr := run_append_nil (P := P) w t ty e i z ht hi hz b m c news hl hnews hm (by omega) (by have hb := hbytes; simp only [Nat.zero_add] at hb; omega)
    refine ⟨_, _, by rw [hr, Nat.zero_add], ?_, ?_, fun j u hu => ?_⟩
    · rw [Nat.zero_add]; exact grownCap_ge ..
    · exact grownCap_le_maxLen w m 0 e (by omega)
    · have := read (Builtin.zeroCells z.cells (grownCap w m 0 e - m)) j u hu
      simpa using this
  · have hr := run_append_grow (P := P) w t ty e i z ht hi hz ad n cap xs hx (ho.2 ad rfl) b m c news hl hnews hg (by omega) (growslice_fits hg hbytes)
    exact ⟨_, _, hr, grownCap_ge .., grownCap_le_maxLen w _ _ e h63, read _⟩

theorem wp_append_fresh {o : Oper} {a : Act} {K : Act → World → Prop} {Q : Exit → Act → World → Prop} (s x : Operand) (t : TypeId)
    (hop : o.op = .call { callee := .builtin .append, args := #[s, x], argTypes := #[t, t] })
    (e : TypeId) (i : TypeInfo) (z : Value) (size bytes : Nat) (ht : P.underlying t = some (.slice e)) (hi : P.info? e = some i) (hz : i.zero = some z)
    (hsize : i.size = size) (hby : i.bytes = bytes)
    (A : Option Addr) (n cap : Nat) (xs : List Value) (hs : a.eval s = .slice A n cap) (hx : xs.length = n * size) (ho : Olds w A n cap xs)
    (b : Addr) (m c : Nat) (news : List Value) (hv : a.eval x = .slice (some b) m c) (hl : news.length = m * size) (hnews : ∀ j u, news[j]? = some u → w.cell? (b.add j) = some u)
    (hm : 0 < m) (hg : cap < n + m) (h63 : n + m ≤ maxLen) (hbytes : (n + m) * bytes ≤ 140737488355328) (H : Nat) (hH : w.heap.size = H)
    (h : ∀ (cap' : Nat) (cs : Array Value), n + m ≤ cap' → cap' ≤ maxLen → (∀ (j : Nat) (u : Value), (xs ++ news)[j]? = some u → cs[j]? = some u) → K (a.put o.dst (.slice (some ⟨H, 0, none⟩) (n + m) cap')) (w.drew.alloc (.cells cs e))) : o.wp P a w K Q := by
  obtain ⟨cap', cs, hr, h1, h2, h3⟩ := run_append_fresh (P := P) w t o.type e i z size bytes ht hi hz hsize hby A n cap xs hx ho b m c news hl hnews hm hg h63 hbytes
  subst hH
  unfold Oper.wp execOp
  simp only [hop, resolve, invoke, builtin, Sem.run_bind, Sem.run_pure, Result.andThen_ok, List.map_toArray, List.map_cons, List.map_nil, hs, hv, hr]
  exact h cap' cs h1 h2 h3

theorem wpList_append_fresh {ops : Array Oper} {rest : List Oper} {o : Oper} {a : Act} {Q : Exit → Act → World → Prop} (hgd : o.guard = none) (s x : Operand) (t : TypeId)
    (hop : o.op = .call { callee := .builtin .append, args := #[s, x], argTypes := #[t, t] })
    (e : TypeId) (i : TypeInfo) (z : Value) (size bytes : Nat) (ht : P.underlying t = some (.slice e)) (hi : P.info? e = some i) (hz : i.zero = some z)
    (hsize : i.size = size) (hby : i.bytes = bytes)
    (A : Option Addr) (n cap : Nat) (xs : List Value) (hs : a.eval s = .slice A n cap) (hx : xs.length = n * size) (ho : Olds w A n cap xs)
    (b : Addr) (m c : Nat) (news : List Value) (hv : a.eval x = .slice (some b) m c) (hl : news.length = m * size) (hnews : ∀ j u, news[j]? = some u → w.cell? (b.add j) = some u)
    (hm : 0 < m) (hg : cap < n + m) (h63 : n + m ≤ maxLen) (hbytes : (n + m) * bytes ≤ 140737488355328) (H : Nat) (hH : w.heap.size = H)
    (h : ∀ (cap' : Nat) (cs : Array Value), n + m ≤ cap' → cap' ≤ maxLen → (∀ (j : Nat) (u : Value), (xs ++ news)[j]? = some u → cs[j]? = some u) → wpList P ops Q rest (a.put o.dst (.slice (some ⟨H, 0, none⟩) (n + m) cap')) (w.drew.alloc (.cells cs e))) : wpList P ops Q (o :: rest) a w :=
  wpList_plain hgd fun _ hK => wp_append_fresh w s x t hop e i z size bytes ht hi hz hsize hby A n cap xs hs hx ho b m c news hv hl hnews hm hg h63 hbytes H hH fun cap' cs h1 h2 h3 => hK _ _ (h cap' cs h1 h2 h3)

theorem step_append_fresh {ops : Array Oper} {o : Oper} {a : Act} {K : Act → World → Prop} {Q : Exit → Act → World → Prop} {E : Prop} (hgd : o.guard = none) (s x : Operand) (t : TypeId)
    (hop : o.op = .call { callee := .builtin .append, args := #[s, x], argTypes := #[t, t] })
    (e : TypeId) (i : TypeInfo) (z : Value) (size bytes : Nat) (ht : P.underlying t = some (.slice e)) (hi : P.info? e = some i) (hz : i.zero = some z)
    (hsize : i.size = size) (hby : i.bytes = bytes)
    (A : Option Addr) (n cap : Nat) (xs : List Value) (hs : a.eval s = .slice A n cap) (hx : xs.length = n * size) (ho : Olds w A n cap xs)
    (b : Addr) (m c : Nat) (news : List Value) (hv : a.eval x = .slice (some b) m c) (hl : news.length = m * size) (hnews : ∀ j u, news[j]? = some u → w.cell? (b.add j) = some u)
    (hm : 0 < m) (hg : cap < n + m) (h63 : n + m ≤ maxLen) (hbytes : (n + m) * bytes ≤ 140737488355328) (H : Nat) (hH : w.heap.size = H)
    (h : ∀ (cap' : Nat) (cs : Array Value), n + m ≤ cap' → cap' ≤ maxLen → (∀ (j : Nat) (u : Value), (xs ++ news)[j]? = some u → cs[j]? = some u) → K (a.put o.dst (.slice (some ⟨H, 0, none⟩) (n + m) cap')) (w.drew.alloc (.cells cs e))) :
    if Region.wanted o (yielded ops a.tmps) = true then Oper.wp P o a w K Q else E := by
  have hw : Region.wanted o (yielded ops a.tmps) = true := by simp [Region.wanted, hgd]
  rw [if_pos hw]
  exact wp_append_fresh w s x t hop e i z size bytes ht hi hz hsize hby A n cap xs hs hx ho b m c news hv hl hnews hm hg h63 hbytes H hH h
end
/-- A contract that leaves the world alone, in the form that a region's walk asks. -/
theorem same_of {P : Program} {f : FuncId} {args : Array Value} {w : World} {v : Value} (h : Calls P f args w fun e w' => e = .returned v ∧ w = w') : Calls P f args w fun e w' => e = .returned v ∧ w' = w :=
  h.mono fun _ _ ⟨he, hw⟩ => ⟨he, hw.symm⟩
/-- A row of the type table, in the parts that the append laws ask. -/
theorem info3 {P : Program} {e : TypeId} {z : Value} {size bytes : Nat} (h : (P.info? e).map (fun i => (i.zero, i.size, i.bytes)) = some (some z, size, bytes)) :
    ∃ i, P.info? e = some i ∧ i.zero = some z ∧ i.size = size ∧ i.bytes = bytes := by
  cases hi : P.info? e with
  | none => rw [hi] at h; cases h
  | some i => rw [hi] at h; simp at h; exact ⟨i, rfl, h.1, h.2.1, h.2.2⟩
end Go.Proofs.YtbmaecdlkchkeaaGreatDoor
