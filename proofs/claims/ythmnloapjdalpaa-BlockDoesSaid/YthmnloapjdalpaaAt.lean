/- The disk in plain words. The map of what is unsafe: which sector, which text. A disk in the program's memory. -/
import Derived.Test.YthmnloapjdalpaaBytes
import Derived.Test.YthmnloapjdalpaaRows
import Derived.Maps.StringElems
import Derived.Maps.OwnOps
import Derived.Lib.Hide
import Derived.Test.YthmnloapjdalpaaLib2
import Derived.WalkKit
import Derived.WalkSpells
import Derived.WalkLawsBesides
import Derived.Deep.QuietTactic
import Derived.BigQuiet
import Derived.Deep.LoopGhost
import Derived.Deep.DeepMust
import Derived.Deep.RegionHeld3
import Derived.Laws.EntriesVeiled
import Derived.Lib.LazyBuf
namespace Go.Proofs.Ythmnloapjdalpaa
open Go.RowKit
set_option linter.unusedVariables false
/-- So many bytes of a row, from a place on. -/
def bs (l : Nat → UInt8) (o n : Nat) : ByteArray := ⟨((List.range n).map fun i => l (o + i)).toArray⟩
theorem bs_size (l : Nat → UInt8) (o n : Nat) : (bs l o n).size = n := by
  show ((List.range n).map fun i => l (o + i)).toArray.size = n
  simp
theorem bs_get (l : Nat → UInt8) (o n i : Nat) (hi : i < n) : (bs l o n).data[i]? = some (l (o + i)) := by
  show ((List.range n).map fun i => l (o + i)).toArray[i]? = _
  simp [hi]
theorem bs_list (l : Nat → UInt8) (o n : Nat) : (bs l o n).data.toList = (List.range n).map fun i => l (o + i) := rfl
theorem ba_ext {s t : ByteArray} (h : ∀ i : Nat, s.data[i]? = t.data[i]?) : s = t := by
  obtain ⟨s⟩ := s
  obtain ⟨t⟩ := t
  exact congrArg _ (Array.ext_getElem? h)
theorem ba_ext' {s t : ByteArray} (h1 : s.size = t.size) (h : ∀ i : Nat, i < s.size → s.data[i]? = t.data[i]?) : s = t := by
  refine ba_ext fun i => ?_
  by_cases hi : i < s.size
  · exact h i hi
  · have e1 : s.data.size ≤ i := by have : s.data.size = s.size := rfl; omega
    have e2 : t.data.size ≤ i := by have : t.data.size = t.size := rfl; omega
    rw [Array.getElem?_eq_none e1, Array.getElem?_eq_none e2]
theorem bs_congr {l l' : Nat → UInt8} {o o' n : Nat} (h : ∀ i, i < n → l (o + i) = l' (o' + i)) : bs l o n = bs l' o' n := by
  refine ba_ext' (by rw [bs_size, bs_size]) fun i hi => ?_
  rw [bs_size] at hi
  rw [bs_get _ _ _ _ hi, bs_get _ _ _ _ hi, h i hi]
theorem bs_inj {l l' : Nat → UInt8} {o o' n : Nat} (h : bs l o n = bs l' o' n) : ∀ i, i < n → l (o + i) = l' (o' + i) := by
  intro i hi
  have h1 := bs_get l o n i hi
  rw [h, bs_get _ _ _ _ hi] at h1
  injection h1 with h1
  exact h1.symm
/-- A text's byte; 0 behind its end. -/
def at8 (t : ByteArray) (i : Nat) : UInt8 := (t.data[i]?).getD 0
theorem at8_get {t : ByteArray} {i : Nat} (hi : i < t.size) : t.data[i]? = some (at8 t i) := by
  have hi' : i < t.data.size := hi
  unfold at8
  rw [Array.getElem?_eq_getElem hi']
  rfl
theorem at8_elem {t : ByteArray} {i : Nat} (hi : i < t.size) : t[i]'hi = at8 t i := by
  have h := at8_get hi
  have h2 : t[i]'hi = t.data[i]'hi := rfl
  rw [h2]
  have hi' : i < t.data.size := hi
  rw [Array.getElem?_eq_getElem hi'] at h
  injection h
theorem bs_all (t : ByteArray) : bs (at8 t) 0 t.size = t := by
  refine ba_ext' (bs_size _ _ _) fun i hi => ?_
  rw [bs_size] at hi
  rw [bs_get _ _ _ _ hi, at8_get hi, Nat.zero_add]
theorem bs_all' {t : ByteArray} {n : Nat} (h : t.size = n) : bs (at8 t) 0 n = t := by rw [← h]; exact bs_all t
theorem at8_bs {l : Nat → UInt8} {o n i : Nat} (hi : i < n) : at8 (bs l o n) i = l (o + i) := by
  unfold at8
  rw [bs_get _ _ _ _ hi]
  rfl
theorem at8_ext {s t : ByteArray} (h1 : s.size = t.size) (h : ∀ i, i < s.size → at8 s i = at8 t i) : s = t := by
  refine ba_ext' h1 fun i hi => ?_
  rw [at8_get hi, at8_get (by omega), h i hi]

/-- Sectors, what is unsafe, what is armed, whether the power is gone. -/
structure Dk where
  n : Nat
  s : Nat → UInt8
  u : Nat → Option ByteArray
  armed : Int
  ch : List Int
  dead : Bool
structure Dk.Ok (d : Dk) : Prop where
  n1 : 1 ≤ d.n
  n2 : d.n ≤ 4096
  un : ∀ k t, d.u k = some t → k < d.n ∧ t.size = 128
  a0 : 0 ≤ d.armed
  a1 : d.armed ≤ 9223372036854775807
def clamp (c : Int) : Nat := (min (max 0 c) 128).toNat
theorem clamp_le (c : Int) : clamp c ≤ 128 := by unfold clamp; omega
theorem clamp_int (c : Int) : (clamp c : Int) = min (max 0 c) 128 := by unfold clamp; omega
def chAt (l : List Int) (i : Nat) : Int := (l[i]?).getD 0
/-- A sector's byte, of which so many are the written ones. -/
def leftB (d : Dk) (c : Nat → Int) (i : Nat) : UInt8 :=
  match d.u (i / 128) with
  | some t => if i % 128 < clamp (c (i / 128)) then at8 t (i % 128) else d.s i
  | none => d.s i
def rdB (d : Dk) (i : Nat) : UInt8 :=
  match d.u (i / 128) with
  | some t => at8 t (i % 128)
  | none => d.s i
theorem left_rd (d : Dk) : leftB d (fun _ => 128) = rdB d := by
  funext i
  unfold leftB rdB
  cases d.u (i / 128) with
  | none => rfl
  | some t =>
    have h : clamp 128 = 128 := rfl
    simp only [h]
    rw [if_pos (Nat.mod_lt _ (by omega))]
def Dk.die (d : Dk) (l : List Int) : Dk := ⟨d.n, leftB d (chAt l), fun _ => none, 0, d.ch, true⟩
theorem Dk.Ok.die {d : Dk} (h : d.Ok) (l : List Int) : (d.die l).Ok := ⟨h.n1, h.n2, fun k t hk => (by cases hk), (by show (0 : Int) ≤ 0; omega), (by show (0 : Int) ≤ 9223372036854775807; omega)⟩
def Dk.image (d : Dk) : ByteArray := bs (rdB d) 0 (128 * d.n)
def Dk.safe (d : Dk) : ByteArray := bs d.s 0 (128 * d.n)
def Dk.after (d : Dk) (l : List Int) : ByteArray := bs (leftB d (chAt l)) 0 (128 * d.n)
/-- A sector as it is read. -/
def Dk.sec (d : Dk) (i : Nat) : ByteArray :=
  match d.u i with
  | some t => t
  | none => bs d.s (i * 128) 128
def atE (d : Dk) (i : Int) : Int := if i < 0 ∨ (d.n : Int) ≤ i then 71 else 0
def Dk.readE (d : Dk) (i : Int) : Int := if d.dead then 2 else atE d i
def Dk.readV (d : Dk) (i : Int) : ByteArray := if d.readE i = 0 then d.sec i.toNat else ⟨#[]⟩
/-- A change is counted. -/
def Dk.gone (d : Dk) : Bool := d.armed == 1
def Dk.tick (d : Dk) : Dk := if d.armed = 0 then d else { d with armed := d.armed - 1 }
theorem Dk.Ok.tick {d : Dk} (h : d.Ok) : d.tick.Ok := by
  unfold Dk.tick
  split
  · exact h
  · exact ⟨h.n1, h.n2, h.un, by have := h.a0; show 0 ≤ d.armed - 1; omega, by have := h.a1; show d.armed - 1 ≤ _; omega⟩
def Dk.put (d : Dk) (i : Nat) (t : ByteArray) : Dk := { d with u := fun k => if k = i then some t else d.u k }
theorem Dk.Ok.put {d : Dk} (h : d.Ok) {i : Nat} {t : ByteArray} (hi : i < d.n) (ht : t.size = 128) : (d.put i t).Ok := by
  refine ⟨h.n1, h.n2, fun k s hk => ?_, h.a0, h.a1⟩
  unfold Dk.put at hk
  simp only at hk
  split at hk
  · rename_i e
    injection hk with hk
    subst e
    subst hk
    exact ⟨hi, ht⟩
  · exact h.un k s hk
def Dk.writeE0 (d : Dk) (i : Int) (t : ByteArray) : Int := if d.dead then 2 else if i < 0 ∨ (d.n : Int) ≤ i then 71 else if t.size ≠ 128 then 72 else 0
def Dk.writeE (d : Dk) (i : Int) (t : ByteArray) : Int := if d.writeE0 i t = 0 then (if d.gone then 2 else 0) else d.writeE0 i t
def Dk.writeS (d : Dk) (i : Int) (t : ByteArray) : Dk :=
  if d.writeE0 i t = 0 then (if d.gone then (d.put i.toNat t).tick.die d.ch else (d.put i.toNat t).tick) else d
def Dk.flushE0 (d : Dk) (a b : Int) : Int := if d.dead then 2 else if a < 0 ∨ b < 0 ∨ (d.n : Int) < a ∨ (d.n : Int) - a < b then 71 else 0
def Dk.flushE (d : Dk) (a b : Int) : Int := if d.flushE0 a b = 0 then (if d.gone then 2 else 0) else d.flushE0 a b
/-- The sectors from a on, ahead of b, are made safe. -/
def Dk.settle (d : Dk) (a b : Nat) : Dk :=
  { d with s := fun i => if a ≤ i / 128 ∧ i / 128 < b then rdB d i else d.s i, u := fun k => if a ≤ k ∧ k < b then none else d.u k }
theorem Dk.Ok.settle {d : Dk} (h : d.Ok) (a b : Nat) : (d.settle a b).Ok := by
  refine ⟨h.n1, h.n2, fun k s hk => ?_, h.a0, h.a1⟩
  unfold Dk.settle at hk
  simp only at hk
  split at hk
  · cases hk
  · exact h.un k s hk
def Dk.flushS (d : Dk) (a b : Int) : Dk :=
  if d.flushE0 a b = 0 then (if d.gone then d.tick.die d.ch else d.tick.settle a.toNat (a + b).toNat) else d
def Dk.armE (d : Dk) (n : Int) : Int := if d.dead then 2 else if n < 0 then 1 else 0
def Dk.armS (d : Dk) (n : Int) (l : List Int) : Dk := if d.armE n = 0 then { d with armed := n, ch := l } else d
def Dk.crashE (d : Dk) : Int := if d.dead then 2 else 0
def Dk.crashS (d : Dk) (l : List Int) : Dk := if d.dead then d else d.die l
def Dk.revive (d : Dk) : Dk := { d with dead := false, armed := 0 }
def Dk.waiting (d : Dk) : List Int := ((List.range d.n).filter fun k => (d.u k).isSome).map fun (k : Nat) => (k : Int)
def newE (t : ByteArray) : Int := if t.size = 0 ∨ t.size % 128 ≠ 0 ∨ 524288 < t.size then 70 else 0
def newD (t : ByteArray) : Dk := ⟨t.size / 128, at8 t, fun _ => none, 0, [], false⟩
theorem newD_ok {t : ByteArray} (h : newE t = 0) : (newD t).Ok := by
  unfold newE at h
  have h1 : ¬ (t.size = 0 ∨ t.size % 128 ≠ 0 ∨ 524288 < t.size) := by
    intro h2
    rw [if_pos h2] at h
    cases h
  refine ⟨?_, ?_, fun k t hk => (by cases hk), (by show (0 : Int) ≤ 0; omega), (by show (0 : Int) ≤ 9223372036854775807; omega)⟩
  · show 1 ≤ t.size / 128
    omega
  · show t.size / 128 ≤ 4096
    omega
theorem newD_size {t : ByteArray} (h : newE t = 0) : t.size = 128 * (newD t).n := by
  unfold newE at h
  have h1 : ¬ (t.size = 0 ∨ t.size % 128 ≠ 0 ∨ 524288 < t.size) := by
    intro h2
    rw [if_pos h2] at h
    cases h
  show t.size = 128 * (t.size / 128)
  omega
theorem Dk.Ok.writeS {d : Dk} (h : d.Ok) (i : Int) (t : ByteArray) : (d.writeS i t).Ok := by
  unfold Dk.writeS
  split
  · rename_i h0
    unfold Dk.writeE0 at h0
    split at h0
    · cases h0
    · split at h0
      · cases h0
      · split at h0
        · cases h0
        · rename_i h1 h2 h3
          have hp : (d.put i.toNat t).Ok := h.put (by omega) (by omega)
          split
          · exact hp.tick.die _
          · exact hp.tick
  · exact h
theorem Dk.Ok.flushS {d : Dk} (h : d.Ok) (a b : Int) : (d.flushS a b).Ok := by
  unfold Dk.flushS
  split
  · split
    · exact h.tick.die _
    · exact h.tick.settle _ _
  · exact h
theorem Dk.Ok.armS {d : Dk} (h : d.Ok) (n : Int) (l : List Int) (hn : n ≤ 9223372036854775807) : (d.armS n l).Ok := by
  unfold Dk.armS
  split
  · rename_i h0
    unfold Dk.armE at h0
    split at h0
    · cases h0
    · split at h0
      · cases h0
      · exact ⟨h.n1, h.n2, h.un, by show 0 ≤ n; omega, hn⟩
  · exact h
theorem Dk.Ok.crashS {d : Dk} (h : d.Ok) (l : List Int) : (d.crashS l).Ok := by
  unfold Dk.crashS
  split
  · exact h
  · exact h.die l
theorem Dk.Ok.revive {d : Dk} (h : d.Ok) : d.revive.Ok := ⟨h.n1, h.n2, h.un, (by show (0 : Int) ≤ 0; omega), (by show (0 : Int) ≤ 9223372036854775807; omega)⟩
end Go.Proofs.Ythmnloapjdalpaa
namespace Go.Proofs.Ythmnloapjdalpaa
open Go.RowKit Go.Maps
set_option linter.unusedVariables false
theorem law3 : Keyed Try.prog 3 := int_keyed Try.underlying3
theorem zero9 (w : World) : (zeroValue 9).run Try.prog w = .ok (.string ⟨#[]⟩) w := by kernel_rfl
theorem plain9 {H : Type} : plainElem (H := H) Try.prog 9 (.string ⟨#[]⟩) = some (.lit (.string (⟨#[]⟩ : ByteArray).data.toList), []) := plainElem_string Try.underlying9 (Nat.zero_le _)
theorem wfk {k : Nat} (h : k ≤ 4096) : (Lit.int .i64 (k : Int)).wf = true := by
  refine WalkArith.wf_i64 ?_
  omega
theorem keyk {k : Nat} (h : k ≤ 4096) : keyOf Try.prog 3 (.int .i64 (k : Int)) = some (.int .i64 (k : Int)) := keyOf_int_mk Try.underlying3 (wfk h)
theorem list_string {s t : ByteArray} (h : s.data.toList = t.data.toList) : s = t := by
  obtain ⟨⟨s⟩⟩ := s
  obtain ⟨⟨t⟩⟩ := t
  exact congrArg _ (congrArg _ h)
/-- Block m is the map of what is unsafe. -/
def UMap (w : World) (m n : Nat) (u : Nat → Option ByteArray) : Prop :=
  n ≤ 4096 ∧ ∃ D : DataW Unit, w.ownsMap Try.prog 3 (plainElem Try.prog 9) m n D ∧ (∀ kl, Maps.has D kl = true → ∃ k, k < n ∧ kl = .int .i64 (k : Int)) ∧
    (∀ k, Maps.has D (.int .i64 ((k : Nat) : Int)) = (u k).isSome) ∧ ∀ k t, u k = some t → t.size ≤ maxLen ∧ ∀ z, D.atKey (.int .i64 ((k : Nat) : Int)) z = .lit (.string t.data.toList)
theorem UMap.lt {w : World} {m n : Nat} {u : Nat → Option ByteArray} (h : UMap w m n u) : m < w.heap.size := by
  obtain ⟨hn, D, ho, -⟩ := h
  exact ho.lt
theorem UMap.fr {w w' : World} {S : List Nat} {m n : Nat} {u : Nat → Option ByteArray} (h : UMap w m n u) (hf : Fr S w w') (hm : m ∉ S) : UMap w' m n u := by
  obtain ⟨hn, D, ho, h1⟩ := h
  refine ⟨hn, D, ?_, h1⟩
  have hb := hf.block m ho.lt hm
  obtain ⟨es, clock, hb0, r⟩ := ho
  exact ⟨es, clock, hb.trans hb0, r⟩
theorem UMap.drewN {w : World} {m n : Nat} {u : Nat → Option ByteArray} (h : UMap w m n u) (j : Nat) : UMap (w.drewN j) m n u := h.fr (S := []) ((Fr.refl [] w).drewN j) (by simp)
theorem UMap.not_cells {w : World} {m n : Nat} {u : Nat → Option ByteArray} (h : UMap w m n u) {cs : Array Value} {t : TypeId} {mk : Nat × Nat} : w.heap[m]? ≠ some (.cells cs t mk) := by
  obtain ⟨hn, D, ⟨es, clock, hb, -⟩, -⟩ := h
  rw [hb]
  intro e
  cases e
theorem UMap.made {w : World} {n : Nat} (hn : n ≤ 4096) : UMap (w.alloc (.map #[] 0)) w.heap.size n (fun _ => none) :=
  ⟨hn, .map [], (World.ownsMap_made w _ 3 _).mono (Nat.zero_le _), fun kl h => (by cases h), fun k => rfl, fun k t h => (by cases h)⟩
open Classical in
/-- Keys that differ, all below n, are n at most. -/
theorem few_keys : ∀ (n : Nat) (l : List Lit), l.Pairwise (fun a b => a ≠ b) → (∀ a ∈ l, ∃ k, k < n ∧ a = .int .i64 ((k : Nat) : Int)) → l.length ≤ n
  | 0, [], _, _ => Nat.le_refl _
  | 0, a :: l, _, h => by
    obtain ⟨k, hk, -⟩ := h a (by simp)
    omega
  | n + 1, l, hp, h => by
    have h1 := few_keys n (l.filter fun a => !decide (a = .int .i64 ((n : Nat) : Int))) (hp.filter _) (fun a ha => by
      obtain ⟨ha1, ha2⟩ := List.mem_filter.1 ha
      obtain ⟨k, hk, rfl⟩ := h a ha1
      refine ⟨k, ?_, rfl⟩
      by_cases e : k = n
      · subst e
        simp at ha2
      · omega)
    have h2 : ∀ (l : List Lit) (x : Lit), l.Pairwise (fun a b => a ≠ b) → l.length ≤ (l.filter fun a => !decide (a = x)).length + 1 := by
      intro l x hp
      induction l with
      | nil => simp
      | cons a l ih =>
        obtain ⟨p1, p2⟩ := List.pairwise_cons.1 hp
        by_cases e : a = x
        · subst e
          have h3 : (l.filter fun b => !decide (b = a)) = l := List.filter_eq_self.2 (fun b hb => by
            have := p1 b hb
            simp [Ne.symm this])
          rw [List.filter_cons]
          simp [h3]
        · have := ih p2
          rw [List.filter_cons]
          simp [e]
          exact this
    have := h2 l (.int .i64 ((n : Nat) : Int)) hp
    omega
theorem size_few {w : World} {b n m : Nat} {D : DataW Unit} (h : w.ownsMap Try.prog 3 (plainElem Try.prog 9) b m D) (hk : ∀ kl, Maps.has D kl = true → ∃ k, k < n ∧ kl = .int .i64 (k : Int)) : w.ownsMap Try.prog 3 (plainElem Try.prog 9) b n D := by
  obtain ⟨es, hD, hp, hkl⟩ := h.entries law3
  have h1 := few_keys n (es.map (·.1)) (by
    rw [List.pairwise_map]
    exact hp) (fun a ha => by
    obtain ⟨p, hp1, rfl⟩ := List.mem_map.1 ha
    refine hk p.1 ?_
    rw [hD]
    exact List.any_eq_true.2 ⟨p, hp1, WideAt.sameKey_self (hkl p hp1)⟩)
  rw [List.length_map] at h1
  obtain ⟨ms, clock, hb, F, hs, hD'⟩ := h
  refine ⟨ms, clock, hb, F, ?_, hD'⟩
  rw [hD] at hD'
  injection hD' with e
  rw [e, length_sorted, List.length_map] at h1
  simpa using h1
theorem lit_ne {j k : Nat} (h : j ≠ k) : (Lit.int .i64 (j : Int)) ≠ .int .i64 (k : Int) := by
  intro e
  injection e with _ e
  omega
theorem keyLit (k : Int) : WideAt.IsKeyLit (.int .i64 k) := by trivial
theorem UMap.put {w : World} {m n : Nat} {u : Nat → Option ByteArray} (h : UMap w m n u) (T : TypeId) (hT : Try.prog.underlying T = some (.map 3 9)) {k : Nat} (hk : k < n) {t : ByteArray} (ht : t.size ≤ maxLen) :
    ∃ w', (Instr.mapUpdate T (.map (some m)) (.int .i64 (k : Int)) (.string t)).run Try.prog w = .ok () w' ∧ UMap w' m n (fun j => if j = k then some t else u j) ∧ Fr [m] w w' := by
  obtain ⟨hn, D, ho, h1, h2, h3⟩ := h
  obtain ⟨w', hr, ho', ht'⟩ := ho.store law3 hT (by unfold maxLen; omega) (keyk (by omega : k ≤ 4096)) (plainElem_string Try.underlying9 ht)
  have hD := ho.isMap
  have hkeys : ∀ kl, Maps.has (D.put (.int .i64 (k : Int)) (.lit (.string t.data.toList))) kl = true → ∃ k, k < n ∧ kl = .int .i64 (k : Int) := by
    intro kl hkl
    by_cases e : kl = .int .i64 (k : Int)
    · exact ⟨k, hk, e⟩
    · rw [has_put_other e] at hkl
      exact h1 kl hkl
  refine ⟨w', hr, ⟨hn, _, size_few ho' hkeys, hkeys, fun j => ?_, fun j s hj => ?_⟩, ?_⟩
  · by_cases e : j = k
    · subst e
      rw [has_put_same hD (keyLit _)]
      simp
    · rw [has_put_other (lit_ne e), h2 j]
      simp only [if_neg e]
  · by_cases e : j = k
    · subst e
      simp only [if_pos] at hj
      injection hj with hj
      subst hj
      exact ⟨ht, fun z => atKey_put_same hD (keyLit _) _ _⟩
    · simp only [if_neg e] at hj
      obtain ⟨a, b⟩ := h3 j s hj
      exact ⟨a, fun z => by rw [atKey_put_other (lit_ne e)]; exact b z⟩
  · exact Fr.of_grown ht'.grown (fun i hi => by cases hi; simp)
theorem UMap.del {w : World} {m n : Nat} {u : Nat → Option ByteArray} (h : UMap w m n u) (T : TypeId) (hT : Try.prog.underlying T = some (.map 3 9)) {k : Nat} (hk : k < n) (ty : TypeId) :
    ∃ w', (Builtin.delete_ #[T, 3] ty #[.map (some m), .int .i64 (k : Int)]).run Try.prog w = .ok (.tuple #[]) w' ∧ UMap w' m n (fun j => if j = k then none else u j) ∧ Fr [m] w w' := by
  obtain ⟨hn, D, ho, h1, h2, h3⟩ := h
  obtain ⟨w', hr, ho', ht'⟩ := ho.drop law3 hT (keyk (by omega : k ≤ 4096)) ty
  refine ⟨w', hr, ⟨hn, _, ho', fun kl hkl => ?_, fun j => ?_, fun j s hj => ?_⟩, ?_⟩
  · by_cases e : kl = .int .i64 (k : Int)
    · exact ⟨k, hk, e⟩
    · rw [has_del_other e] at hkl
      exact h1 kl hkl
  · by_cases e : j = k
    · subst e
      rw [has_del_same]
      simp
    · rw [has_del_other (lit_ne e), h2 j]
      simp only [if_neg e]
  · by_cases e : j = k
    · subst e
      simp only [if_pos] at hj
      cases hj
    · simp only [if_neg e] at hj
      obtain ⟨a, b⟩ := h3 j s hj
      exact ⟨a, fun z => by rw [atKey_del_other (lit_ne e)]; exact b z⟩
  · exact Fr.of_grown ht'.grown (fun i hi => by cases hi; simp)
theorem UMap.look_some {w : World} {m n : Nat} {u : Nat → Option ByteArray} (h : UMap w m n u) (T : TypeId) (hT : Try.prog.underlying T = some (.map 3 9)) {k : Nat} {t : ByteArray} (hk : u k = some t) :
    (Instr.lookup T (.map (some m)) (.int .i64 (k : Int)) true).run Try.prog w = .ok (.tuple #[.string t, .bool true]) w := by
  obtain ⟨hn, D, ho, h1, h2, h3⟩ := h
  have hh : Maps.has D (.int .i64 ((k : Nat) : Int)) = true := by rw [h2, hk]; rfl
  obtain ⟨k', hk', he⟩ := h1 _ hh
  have he := (Lit.int.inj he).2
  have hk4 : k ≤ 4096 := by omega
  have hz9 := plain9 (H := Unit)
  have hkk := keyk hk4
  obtain ⟨v, ps, hr, hv⟩ := ho.look_ok law3 hT (zero9 w) hz9 hkk
  obtain ⟨s, rfl, hs, hw⟩ := plainElem_string_inv Try.underlying9 hv
  have h4 := (h3 k t hk).2 (.lit (.string (⟨#[]⟩ : ByteArray).data.toList))
  have h5 := congrArg Prod.fst hs
  simp only at h5
  rw [h4] at h5
  have h5 := Lit.string.inj (DataW.lit.inj h5)
  rw [hr, hh, list_string h5]
theorem UMap.look_none {w : World} {m n : Nat} {u : Nat → Option ByteArray} (h : UMap w m n u) (T : TypeId) (hT : Try.prog.underlying T = some (.map 3 9)) {k : Nat} (hkn : k < n) (hk : u k = none) :
    (Instr.lookup T (.map (some m)) (.int .i64 (k : Int)) true).run Try.prog w = .ok (.tuple #[.string ⟨#[]⟩, .bool false]) w := by
  obtain ⟨hn, D, ho, h1, h2, h3⟩ := h
  have hh : Maps.has D (.int .i64 ((k : Nat) : Int)) = false := by rw [h2, hk]; rfl
  have hk4 : k ≤ 4096 := by omega
  have hz9 := plain9 (H := Unit)
  have hkk := keyk hk4
  obtain ⟨v, ps, hr, hv⟩ := ho.look_ok law3 hT (zero9 w) hz9 hkk
  obtain ⟨s, rfl, hs, hw⟩ := plainElem_string_inv Try.underlying9 hv
  rw [atKey_of_not_has hh] at hs
  have h5 := congrArg Prod.fst hs
  simp only at h5
  have h5 := Lit.string.inj (DataW.lit.inj h5)
  have h6 : (⟨#[]⟩ : ByteArray) = s := list_string h5
  rw [hr, hh, ← h6]
end Go.Proofs.Ythmnloapjdalpaa
namespace Go.Proofs.Ythmnloapjdalpaa
open Go.RowKit
set_option linter.unusedVariables false
set_option linter.unusedSimpArgs false
theorem ret_bool {a b : Bool} (h : a = b) : Ending.returned (.bool a) = .returned (.bool b) := by rw [h]
theorem ret_int {k : IntKind} {a b : Int} (h : a = b) : Ending.returned (.int k a) = .returned (.int k b) := by rw [h]
abbrev ptr (p : Nat) : Value := .pointer (some ⟨p, 0, none⟩)
/-- Blocks of S hold no row of numbers. -/
def NoZ (w : World) (S : List Nat) : Prop := ∀ k, k ∈ S → ∀ cs mk, w.heap[k]? ≠ some (.cells cs 3 mk)
theorem NoZ.nil (w : World) : NoZ w [] := fun k hk => by cases hk
/-- A slice of numbers. -/
def Zs (w : World) (v : Value) (l : List Int) : Prop :=
  ∃ A cap, v = .slice A l.length cap ∧ l.length ≤ cap ∧ cap ≤ maxLen ∧ (A = none → l = []) ∧
    (l = [] ∨ ∃ q o cs mk, A = some ⟨q, o, none⟩ ∧ w.heap[q]? = some (.cells cs 3 mk) ∧ ∀ j x, l[j]? = some x → cs[o + j]? = some (.int .i64 x))
theorem Zs.fr {w w' : World} {v : Value} {l : List Int} {S : List Nat} (h : Zs w v l) (hf : Fr S w w') (hz : NoZ w S) : Zs w' v l := by
  obtain ⟨A, cap, h1, h2, h3, h4, h5⟩ := h
  refine ⟨A, cap, h1, h2, h3, h4, ?_⟩
  rcases h5 with h5 | ⟨q, o, cs, mk, h5, h6, h7⟩
  · exact .inl h5
  · exact .inr ⟨q, o, cs, mk, h5, (hf.block q (Array.getElem?_eq_some_iff.1 h6).1 (fun hq => hz q hq cs mk h6)).trans h6, h7⟩
theorem Zs.nil (w : World) : Zs w (.slice none 0 0) [] := ⟨none, 0, rfl, Nat.le_refl _, Nat.zero_le _, fun _ => rfl, .inl rfl⟩
theorem Zs.cell {w : World} {A : Option Addr} {n cap : Nat} {l : List Int} (h : Zs w (.slice A n cap) l) {j : Nat} {x : Int} (hj : l[j]? = some x) : ∃ q o, A = some ⟨q, o, none⟩ ∧ q < w.heap.size ∧ w.cell? ⟨q, o + j, none⟩ = some (.int .i64 x) := by
  obtain ⟨A', cap', h1, h2, h3, h4, h5⟩ := h
  injection h1 with hA _ _
  rcases h5 with rfl | ⟨q, o, cs, mk, h5, h6, h7⟩
  · simp at hj
  · refine ⟨q, o, hA.trans h5, (Array.getElem?_eq_some_iff.1 h6).1, ?_⟩
    simp [World.cell?, h6, h7 j x hj]
theorem Zs.len {w : World} {A : Option Addr} {n cap : Nat} {l : List Int} (h : Zs w (.slice A n cap) l) : n = l.length ∧ n ≤ cap ∧ cap ≤ maxLen := by
  obtain ⟨A', cap', h1, h2, h3, h4, h5⟩ := h
  injection h1 with _ h6 h7
  subst h6; subst h7
  exact ⟨rfl, h2, h3⟩
/-- A slice of numbers, wherever it lies. -/
def Zw (w : World) (v : Value) (l : List Int) : Prop :=
  ∃ A cap, v = .slice A l.length cap ∧ l.length ≤ cap ∧ cap ≤ maxLen ∧ (A = none → l = []) ∧
    ∀ (j : Nat) (x : Int), l[j]? = some x → ∃ q o, A = some ⟨q, o, none⟩ ∧ q < w.heap.size ∧ w.cell? ⟨q, o + j, none⟩ = some (.int .i64 x)
theorem Zw.fr {w w' : World} {v : Value} {l : List Int} (h : Zw w v l) (hf : Fr [] w w') (_ : NoZ w []) : Zw w' v l := by
  obtain ⟨A, cap, h1, h2, h3, h4, h5⟩ := h
  refine ⟨A, cap, h1, h2, h3, h4, fun j x hj => ?_⟩
  obtain ⟨q, o, e1, e2, e3⟩ := h5 j x hj
  have := hf.size
  exact ⟨q, o, e1, by omega, hf.cell_some e3 (by simp)⟩
theorem Zw.cell {w : World} {A : Option Addr} {n cap : Nat} {l : List Int} (h : Zw w (.slice A n cap) l) {j : Nat} {x : Int} (hj : l[j]? = some x) : ∃ q o, A = some ⟨q, o, none⟩ ∧ q < w.heap.size ∧ w.cell? ⟨q, o + j, none⟩ = some (.int .i64 x) := by
  obtain ⟨A', cap', h1, h2, h3, h4, h5⟩ := h
  injection h1 with hA _ _
  rw [hA]
  exact h5 j x hj
theorem Zw.len {w : World} {A : Option Addr} {n cap : Nat} {l : List Int} (h : Zw w (.slice A n cap) l) : n = l.length ∧ n ≤ cap ∧ cap ≤ maxLen := by
  obtain ⟨A', cap', h1, h2, h3, h4, h5⟩ := h
  injection h1 with _ h6 h7
  subst h6; subst h7
  exact ⟨rfl, h2, h3⟩
theorem Zs.zw {w : World} {v : Value} {l : List Int} (h : Zs w v l) : Zw w v l := by
  obtain ⟨A, cap, rfl, h2, h3, h4, h5⟩ := h
  exact ⟨A, cap, rfl, h2, h3, h4, fun j x hj => Zs.cell ⟨A, cap, rfl, h2, h3, h4, h5⟩ hj⟩
theorem Zw.nil (w : World) : Zw w (.slice none 0 0) [] := (Zs.nil w).zw
/-- A disk: its struct in block p, its safe bytes in g, what is unsafe in m. -/
structure DiskAt (w : World) (p g m : Nat) (d : Dk) : Prop where
  ok : d.Ok
  hd : ∃ cap cv, Blk w p 110 #[.slice (some ⟨g, 0, none⟩) (128 * d.n) cap, .map (some m), .int .i64 d.armed, cv, .bool d.dead] ∧ 128 * d.n ≤ cap ∧ cap ≤ maxLen ∧ Zs w cv d.ch
  sb : Wb w g (128 * d.n) d.s
  um : UMap w m d.n d.u
theorem DiskAt.fr {w w' : World} {p g m : Nat} {d : Dk} {S : List Nat} (h : DiskAt w p g m d) (hf : Fr S w w') (hz : NoZ w S) (h1 : p ∉ S) (h2 : g ∉ S) (h3 : m ∉ S) : DiskAt w' p g m d := by
  obtain ⟨ok, ⟨cap, cv, hb, hc, hm, hz'⟩, sb, um⟩ := h
  exact ⟨ok, ⟨cap, cv, hb.fr hf h1, hc, hm, hz'.fr hf hz⟩, sb.fr hf h2, um.fr hf h3⟩
theorem DiskAt.to {w w' : World} {p g m : Nat} {d : Dk} (h : DiskAt w p g m d) (hf : Fr [] w w') : DiskAt w' p g m d := h.fr hf (NoZ.nil w) (by simp) (by simp) (by simp)
theorem DiskAt.ltp {w : World} {p g m : Nat} {d : Dk} (h : DiskAt w p g m d) : p < w.heap.size := by
  obtain ⟨ok, ⟨cap, cv, hb, hc, hm, hz'⟩, sb, um⟩ := h
  exact hb.lt
theorem DiskAt.ltg {w : World} {p g m : Nat} {d : Dk} (h : DiskAt w p g m d) : g < w.heap.size := h.sb.lt
theorem DiskAt.ltm {w : World} {p g m : Nat} {d : Dk} (h : DiskAt w p g m d) : m < w.heap.size := h.um.lt
theorem DiskAt.pg {w : World} {p g m : Nat} {d : Dk} (h : DiskAt w p g m d) : p ≠ g := by
  obtain ⟨ok, ⟨cap, cv, hb, hc, hm, hz'⟩, sb, um⟩ := h
  rintro rfl
  exact sb.not hb (by decide)
theorem DiskAt.pm {w : World} {p g m : Nat} {d : Dk} (h : DiskAt w p g m d) : p ≠ m := by
  obtain ⟨ok, ⟨cap, cv, hb, hc, hm, hz'⟩, sb, um⟩ := h
  rintro rfl
  exact um.not_cells hb
theorem DiskAt.gm {w : World} {p g m : Nat} {d : Dk} (h : DiskAt w p g m d) : g ≠ m := by
  obtain ⟨ok, ⟨cap, cv, hb, hc, hm, hz'⟩, ⟨cs, mk, hs, -⟩, um⟩ := h
  rintro rfl
  exact um.not_cells hs
/-- What a disk turns is no row of numbers. -/
theorem DiskAt.noz {w : World} {p g m : Nat} {d : Dk} (h : DiskAt w p g m d) : NoZ w [p, g, m] := by
  obtain ⟨ok, ⟨cap, cv, hb, hc, hm, hz'⟩, ⟨cs, mk, hs, -⟩, um⟩ := h
  intro k hk cs' mk' he
  simp only [List.mem_cons, List.not_mem_nil, or_false] at hk
  rcases hk with rfl | rfl | rfl
  · unfold Blk at hb
    rw [hb] at he
    injection he with he
    injection he with _ he _
    cases he
  · rw [hs] at he
    injection he with he
    injection he with _ he _
    cases he
  · exact um.not_cells he
/-- The struct's cells. -/
structure Cells (w : World) (p g m n : Nat) (armed : Int) (dead : Bool) (cap : Nat) (cv : Value) : Prop where
  c0 : w.cell? ⟨p, 0, none⟩ = some (.slice (some ⟨g, 0, none⟩) (128 * n) cap)
  c1 : w.cell? ⟨p, 1, none⟩ = some (.map (some m))
  c2 : w.cell? ⟨p, 2, none⟩ = some (.int .i64 armed)
  c3 : w.cell? ⟨p, 3, none⟩ = some cv
  c4 : w.cell? ⟨p, 4, none⟩ = some (.bool dead)
  fz : ∀ j, w.frozen? ⟨p, j, none⟩ = false
theorem DiskAt.cells {w : World} {p g m : Nat} {d : Dk} (h : DiskAt w p g m d) : ∃ cap cv, Cells w p g m d.n d.armed d.dead cap cv ∧ 128 * d.n ≤ cap ∧ cap ≤ maxLen ∧ Zs w cv d.ch := by
  obtain ⟨ok, ⟨cap, cv, hb, hc, hm, hz'⟩, sb, um⟩ := h
  exact ⟨cap, cv, ⟨by rw [hb.cell]; rfl, by rw [hb.cell]; rfl, by rw [hb.cell]; rfl, by rw [hb.cell]; rfl, by rw [hb.cell]; rfl, hb.frozen⟩, hc, hm, hz'⟩
/-- A string made of bytes in memory. -/
theorem conv_wb {w : World} {g N o n cap : Nat} {l : Nat → UInt8} (h : Wb w g N l) (hn : o + n ≤ N) : (convert 30 9 (.slice (some ⟨g, o, none⟩) n cap)).run Try.prog w = .ok (.string (bs l o n)) w := by
  have hl : ((List.range n).map fun i => l (o + i)).length = n := by simp
  have := run_convert_bytes_back (P := Try.prog) w 30 9 5 ⟨g, o, none⟩ cap ((List.range n).map fun i => l (o + i)) Try.underlying30 Try.underlying5 Try.underlying9 (fun j hj => by
    rw [addr_add]
    have hj' : j < n := by rw [hl] at hj; exact hj
    rw [h.cell (by omega : o + j < N)]
    simp)
  rw [hl] at this
  exact this
theorem bs_len (l : Nat → UInt8) (o n : Nat) (h : n ≤ maxLen) : (bs l o n).size ≤ maxLen := by rw [bs_size]; exact h
theorem elem30 : Try.prog.elem 30 = 5 := by kernel_rfl
theorem sizeOf5 (w : World) : (Go.sizeOf 5).run Try.prog w = .ok 1 w := by kernel_rfl
theorem slice_lh (w : World) (g o len cap a b : Nat) (la lb : Int) (ha : la = a) (hb : lb = b) (h1 : a ≤ b) (h2 : b ≤ cap) (h3 : a < cap) :
    (Instr.slice 30 (.slice (some ⟨g, o, none⟩) len cap) (some (.int .i64 la)) (some (.int .i64 lb)) none).run Try.prog w = .ok (.slice (some ⟨g, o + a, none⟩) (b - a) (cap - a)) w := by
  subst ha; subst hb
  rw [run_slice_lh (P := Try.prog) w 30 (some ⟨g, o, none⟩) len cap (by rw [elem30]; exact Try.underlying30) .i64 .i64 a b (by omega) (by omega) (by omega), elem30, sizeOf5]
  have h4 : ¬ cap = a := by omega
  simp [Result.andThen, sliced, h4, Addr.add]
theorem slice_l (w : World) (g o len cap a : Nat) (la : Int) (ha : la = a) (h1 : a < len) (h2 : len ≤ cap) :
    (Instr.slice 30 (.slice (some ⟨g, o, none⟩) len cap) (some (.int .i64 la)) none none).run Try.prog w = .ok (.slice (some ⟨g, o + a, none⟩) (len - a) (cap - a)) w := by
  subst ha
  rw [run_slice_l (P := Try.prog) w 30 (some ⟨g, o, none⟩) len cap (by rw [elem30]; exact Try.underlying30) .i64 a (by omega) (by omega), elem30, sizeOf5]
  have h4 : ¬ cap = a := by omega
  simp [Result.andThen, sliced, h4, Addr.add]
end Go.Proofs.Ythmnloapjdalpaa
