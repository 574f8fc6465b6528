/- The disk in plain words. -/
import Derived.Test.YthmnloapjdalpaaBytes
namespace Go.Proofs.Ythmnloapjdalpaa
open Go.RowKit
set_option linter.unusedVariables false
/-- So many bytes of a row, from a place on. -/
def bs (l : Nat → UInt8) (o n : Nat) : ByteArray := ⟨((List.range n).map fun i => l (o + i)).toArray⟩
theorem bs_size (l : Nat → UInt8) (o n : Nat) : (bs l o n).size = n := by
  show ((List.range n).map fun i => l (o + i)).toArray.size = n
  simp
theorem bs_get (l : Nat → UInt8) (o n i : Nat) (hi : i < n) : (bs l o n).data[i]? = some (l (o + i)) := by
  show ((List.range n).map fun i => l (o + i)).toArray[i]? = _
  simp [hi]
theorem bs_list (l : Nat → UInt8) (o n : Nat) : (bs l o n).data.toList = (List.range n).map fun i => l (o + i) := rfl
theorem ba_ext {s t : ByteArray} (h : ∀ i : Nat, s.data[i]? = t.data[i]?) : s = t := by
  obtain ⟨s⟩ := s
  obtain ⟨t⟩ := t
  exact congrArg _ (Array.ext_getElem? h)
theorem ba_ext' {s t : ByteArray} (h1 : s.size = t.size) (h : ∀ i : Nat, i < s.size → s.data[i]? = t.data[i]?) : s = t := by
  refine ba_ext fun i => ?_
  by_cases hi : i < s.size
  · exact h i hi
  · have e1 : s.data.size ≤ i := by have : s.data.size = s.size := rfl; omega
    have e2 : t.data.size ≤ i := by have : t.data.size = t.size := rfl; omega
    rw [Array.getElem?_eq_none e1, Array.getElem?_eq_none e2]
theorem bs_congr {l l' : Nat → UInt8} {o o' n : Nat} (h : ∀ i, i < n → l (o + i) = l' (o' + i)) : bs l o n = bs l' o' n := by
  refine ba_ext' (by rw [bs_size, bs_size]) fun i hi => ?_
  rw [bs_size] at hi
  rw [bs_get _ _ _ _ hi, bs_get _ _ _ _ hi, h i hi]
theorem bs_inj {l l' : Nat → UInt8} {o o' n : Nat} (h : bs l o n = bs l' o' n) : ∀ i, i < n → l (o + i) = l' (o' + i) := by
  intro i hi
  have h1 := bs_get l o n i hi
  rw [h, bs_get _ _ _ _ hi] at h1
  injection h1 with h1
  exact h1.symm
/-- A text's byte; 0 behind its end. -/
def at8 (t : ByteArray) (i : Nat) : UInt8 := (t.data[i]?).getD 0
theorem at8_get {t : ByteArray} {i : Nat} (hi : i < t.size) : t.data[i]? = some (at8 t i) := by
  have hi' : i < t.data.size := hi
  unfold at8
  rw [Array.getElem?_eq_getElem hi']
  rfl
theorem at8_elem {t : ByteArray} {i : Nat} (hi : i < t.size) : t[i]'hi = at8 t i := by
  have h := at8_get hi
  have h2 : t[i]'hi = t.data[i]'hi := rfl
  rw [h2]
  have hi' : i < t.data.size := hi
  rw [Array.getElem?_eq_getElem hi'] at h
  injection h
theorem bs_all (t : ByteArray) : bs (at8 t) 0 t.size = t := by
  refine ba_ext' (bs_size _ _ _) fun i hi => ?_
  rw [bs_size] at hi
  rw [bs_get _ _ _ _ hi, at8_get hi, Nat.zero_add]
theorem bs_all' {t : ByteArray} {n : Nat} (h : t.size = n) : bs (at8 t) 0 n = t := by rw [← h]; exact bs_all t
theorem at8_bs {l : Nat → UInt8} {o n i : Nat} (hi : i < n) : at8 (bs l o n) i = l (o + i) := by
  unfold at8
  rw [bs_get _ _ _ _ hi]
  rfl
theorem at8_ext {s t : ByteArray} (h1 : s.size = t.size) (h : ∀ i, i < s.size → at8 s i = at8 t i) : s = t := by
  refine ba_ext' h1 fun i hi => ?_
  rw [at8_get hi, at8_get (by omega), h i hi]

/-- Sectors, what is unsafe, what is armed, whether the power is gone. -/
structure Dk where
  n : Nat
  s : Nat → UInt8
  u : Nat → Option ByteArray
  armed : Int
  ch : List Int
  dead : Bool
structure Dk.Ok (d : Dk) : Prop where
  n1 : 1 ≤ d.n
  n2 : d.n ≤ 4096
  un : ∀ k t, d.u k = some t → k < d.n ∧ t.size = 128
  a0 : 0 ≤ d.armed
  a1 : d.armed ≤ 9223372036854775807
def clamp (c : Int) : Nat := (min (max 0 c) 128).toNat
theorem clamp_le (c : Int) : clamp c ≤ 128 := by unfold clamp; omega
theorem clamp_int (c : Int) : (clamp c : Int) = min (max 0 c) 128 := by unfold clamp; omega
def chAt (l : List Int) (i : Nat) : Int := (l[i]?).getD 0
/-- A sector's byte, of which so many are the written ones. -/
def leftB (d : Dk) (c : Nat → Int) (i : Nat) : UInt8 :=
  match d.u (i / 128) with
  | some t => if i % 128 < clamp (c (i / 128)) then at8 t (i % 128) else d.s i
  | none => d.s i
def rdB (d : Dk) (i : Nat) : UInt8 :=
  match d.u (i / 128) with
  | some t => at8 t (i % 128)
  | none => d.s i
theorem left_rd (d : Dk) : leftB d (fun _ => 128) = rdB d := by
  funext i
  unfold leftB rdB
  cases d.u (i / 128) with
  | none => rfl
  | some t =>
    have h : clamp 128 = 128 := rfl
    simp only [h]
    rw [if_pos (Nat.mod_lt _ (by omega))]
def Dk.die (d : Dk) (l : List Int) : Dk := ⟨d.n, leftB d (chAt l), fun _ => none, 0, d.ch, true⟩
theorem Dk.Ok.die {d : Dk} (h : d.Ok) (l : List Int) : (d.die l).Ok := ⟨h.n1, h.n2, fun k t hk => (by cases hk), (by show (0 : Int) ≤ 0; omega), (by show (0 : Int) ≤ 9223372036854775807; omega)⟩
def Dk.image (d : Dk) : ByteArray := bs (rdB d) 0 (128 * d.n)
def Dk.safe (d : Dk) : ByteArray := bs d.s 0 (128 * d.n)
def Dk.after (d : Dk) (l : List Int) : ByteArray := bs (leftB d (chAt l)) 0 (128 * d.n)
/-- A sector as it is read. -/
def Dk.sec (d : Dk) (i : Nat) : ByteArray :=
  match d.u i with
  | some t => t
  | none => bs d.s (i * 128) 128
def atE (d : Dk) (i : Int) : Int := if i < 0 ∨ (d.n : Int) ≤ i then 71 else 0
def Dk.readE (d : Dk) (i : Int) : Int := if d.dead then 2 else atE d i
def Dk.readV (d : Dk) (i : Int) : ByteArray := if d.readE i = 0 then d.sec i.toNat else ⟨#[]⟩
/-- A change is counted. -/
def Dk.gone (d : Dk) : Bool := d.armed == 1
def Dk.tick (d : Dk) : Dk := if d.armed = 0 then d else { d with armed := d.armed - 1 }
theorem Dk.Ok.tick {d : Dk} (h : d.Ok) : d.tick.Ok := by
  unfold Dk.tick
  split
  · exact h
  · exact ⟨h.n1, h.n2, h.un, by have := h.a0; show 0 ≤ d.armed - 1; omega, by have := h.a1; show d.armed - 1 ≤ _; omega⟩
def Dk.put (d : Dk) (i : Nat) (t : ByteArray) : Dk := { d with u := fun k => if k = i then some t else d.u k }
theorem Dk.Ok.put {d : Dk} (h : d.Ok) {i : Nat} {t : ByteArray} (hi : i < d.n) (ht : t.size = 128) : (d.put i t).Ok := by
  refine ⟨h.n1, h.n2, fun k s hk => ?_, h.a0, h.a1⟩
  unfold Dk.put at hk
  simp only at hk
  split at hk
  · rename_i e
    injection hk with hk
    subst e
    subst hk
    exact ⟨hi, ht⟩
  · exact h.un k s hk
def Dk.writeE0 (d : Dk) (i : Int) (t : ByteArray) : Int := if d.dead then 2 else if i < 0 ∨ (d.n : Int) ≤ i then 71 else if t.size ≠ 128 then 72 else 0
def Dk.writeE (d : Dk) (i : Int) (t : ByteArray) : Int := if d.writeE0 i t = 0 then (if d.gone then 2 else 0) else d.writeE0 i t
def Dk.writeS (d : Dk) (i : Int) (t : ByteArray) : Dk :=
  if d.writeE0 i t = 0 then (if d.gone then (d.put i.toNat t).tick.die d.ch else (d.put i.toNat t).tick) else d
def Dk.flushE0 (d : Dk) (a b : Int) : Int := if d.dead then 2 else if a < 0 ∨ b < 0 ∨ (d.n : Int) < a ∨ (d.n : Int) - a < b then 71 else 0
def Dk.flushE (d : Dk) (a b : Int) : Int := if d.flushE0 a b = 0 then (if d.gone then 2 else 0) else d.flushE0 a b
/-- The sectors from a on, ahead of b, are made safe. -/
def Dk.settle (d : Dk) (a b : Nat) : Dk :=
  { d with s := fun i => if a ≤ i / 128 ∧ i / 128 < b then rdB d i else d.s i, u := fun k => if a ≤ k ∧ k < b then none else d.u k }
theorem Dk.Ok.settle {d : Dk} (h : d.Ok) (a b : Nat) : (d.settle a b).Ok := by
  refine ⟨h.n1, h.n2, fun k s hk => ?_, h.a0, h.a1⟩
  unfold Dk.settle at hk
  simp only at hk
  split at hk
  · cases hk
  · exact h.un k s hk
def Dk.flushS (d : Dk) (a b : Int) : Dk :=
  if d.flushE0 a b = 0 then (if d.gone then d.tick.die d.ch else d.tick.settle a.toNat (a + b).toNat) else d
def Dk.armE (d : Dk) (n : Int) : Int := if d.dead then 2 else if n < 0 then 1 else 0
def Dk.armS (d : Dk) (n : Int) (l : List Int) : Dk := if d.armE n = 0 then { d with armed := n, ch := l } else d
def Dk.crashE (d : Dk) : Int := if d.dead then 2 else 0
def Dk.crashS (d : Dk) (l : List Int) : Dk := if d.dead then d else d.die l
def Dk.revive (d : Dk) : Dk := { d with dead := false, armed := 0 }
def Dk.waiting (d : Dk) : List Int := ((List.range d.n).filter fun k => (d.u k).isSome).map fun (k : Nat) => (k : Int)
def newE (t : ByteArray) : Int := if t.size = 0 ∨ t.size % 128 ≠ 0 ∨ 524288 < t.size then 70 else 0
def newD (t : ByteArray) : Dk := ⟨t.size / 128, at8 t, fun _ => none, 0, [], false⟩
theorem newD_ok {t : ByteArray} (h : newE t = 0) : (newD t).Ok := by
  unfold newE at h
  have h1 : ¬ (t.size = 0 ∨ t.size % 128 ≠ 0 ∨ 524288 < t.size) := by
    intro h2
    rw [if_pos h2] at h
    cases h
  refine ⟨?_, ?_, fun k t hk => (by cases hk), (by show (0 : Int) ≤ 0; omega), (by show (0 : Int) ≤ 9223372036854775807; omega)⟩
  · show 1 ≤ t.size / 128
    omega
  · show t.size / 128 ≤ 4096
    omega
theorem newD_size {t : ByteArray} (h : newE t = 0) : t.size = 128 * (newD t).n := by
  unfold newE at h
  have h1 : ¬ (t.size = 0 ∨ t.size % 128 ≠ 0 ∨ 524288 < t.size) := by
    intro h2
    rw [if_pos h2] at h
    cases h
  show t.size = 128 * (t.size / 128)
  omega
theorem Dk.Ok.writeS {d : Dk} (h : d.Ok) (i : Int) (t : ByteArray) : (d.writeS i t).Ok := by
  unfold Dk.writeS
  split
  · rename_i h0
    unfold Dk.writeE0 at h0
    split at h0
    · cases h0
    · split at h0
      · cases h0
      · split at h0
        · cases h0
        · rename_i h1 h2 h3
          have hp : (d.put i.toNat t).Ok := h.put (by omega) (by omega)
          split
          · exact hp.tick.die _
          · exact hp.tick
  · exact h
theorem Dk.Ok.flushS {d : Dk} (h : d.Ok) (a b : Int) : (d.flushS a b).Ok := by
  unfold Dk.flushS
  split
  · split
    · exact h.tick.die _
    · exact h.tick.settle _ _
  · exact h
theorem Dk.Ok.armS {d : Dk} (h : d.Ok) (n : Int) (l : List Int) (hn : n ≤ 9223372036854775807) : (d.armS n l).Ok := by
  unfold Dk.armS
  split
  · rename_i h0
    unfold Dk.armE at h0
    split at h0
    · cases h0
    · split at h0
      · cases h0
      · exact ⟨h.n1, h.n2, h.un, by show 0 ≤ n; omega, hn⟩
  · exact h
theorem Dk.Ok.crashS {d : Dk} (h : d.Ok) (l : List Int) : (d.crashS l).Ok := by
  unfold Dk.crashS
  split
  · exact h
  · exact h.die l
theorem Dk.Ok.revive {d : Dk} (h : d.Ok) : d.revive.Ok := ⟨h.n1, h.n2, h.un, (by show (0 : Int) ≤ 0; omega), (by show (0 : Int) ≤ 9223372036854775807; omega)⟩
end Go.Proofs.Ythmnloapjdalpaa
