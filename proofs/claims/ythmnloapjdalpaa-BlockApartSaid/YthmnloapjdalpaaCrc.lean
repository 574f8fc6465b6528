/- CRC-32 in plain words: by bytes and by bits alike; one turned bit is told. -/
import Derived.WalkKit
namespace Go.Proofs.Ythmnloapjdalpaa
set_option linter.unusedVariables false
/-- One step. -/
def tst (r : BitVec 32) : BitVec 32 := (r >>> 1) ^^^ (if r.getLsbD 0 then 0xEDB88320#32 else 0#32)
theorem tst_xor (x y : BitVec 32) : tst (x ^^^ y) = tst x ^^^ tst y := by
  unfold tst
  rw [BitVec.getLsbD_xor, BitVec.ushiftRight_xor_distrib]
  cases x.getLsbD 0 <;> cases y.getLsbD 0
  · simp
  · simp [BitVec.xor_assoc]
  · simp only [Bool.xor_false, if_true, Bool.false_eq_true, if_false, BitVec.xor_zero]
    rw [BitVec.xor_assoc, BitVec.xor_comm (y >>> 1), ← BitVec.xor_assoc]
  · simp only [Bool.xor_self, Bool.false_eq_true, if_false, if_true, BitVec.xor_zero]
    rw [BitVec.xor_assoc, BitVec.xor_comm 0xEDB88320#32, BitVec.xor_assoc, BitVec.xor_self, BitVec.xor_zero]
theorem tst_inj {x : BitVec 32} (h : tst x = 0#32) : x = 0#32 := by
  unfold tst at h
  cases h0 : x.getLsbD 0 with
  | true =>
    exfalso
    rw [h0, if_pos rfl] at h
    have h1 : (x >>> 1 ^^^ 0xEDB88320#32).getLsbD 31 = false := by rw [h]; rfl
    rw [BitVec.getLsbD_xor, BitVec.getLsbD_ushiftRight] at h1
    have h2 : x.getLsbD (1 + 31) = false := BitVec.getLsbD_of_ge x _ (by omega)
    rw [h2] at h1
    revert h1
    decide
  | false =>
    rw [h0, if_neg (by simp), BitVec.xor_zero] at h
    apply BitVec.eq_of_getLsbD_eq
    intro i hi
    rw [BitVec.getLsbD_zero]
    cases i with
    | zero => exact h0
    | succ i =>
      have h1 : (x >>> 1).getLsbD i = false := by rw [h]; simp
      rw [BitVec.getLsbD_ushiftRight] at h1
      rwa [Nat.add_comm] at h1
/-- Many steps. -/
def tstN : Nat → BitVec 32 → BitVec 32
  | 0, r => r
  | k + 1, r => tstN k (tst r)
theorem tstN_xor : ∀ (k : Nat) (x y : BitVec 32), tstN k (x ^^^ y) = tstN k x ^^^ tstN k y := by
  intro k
  induction k with
  | zero => intro x y; rfl
  | succ k ih => intro x y; rw [tstN, tstN, tstN, tst_xor, ih]
theorem tstN_inj : ∀ (k : Nat) {x : BitVec 32}, tstN k x = 0#32 → x = 0#32 := by
  intro k
  induction k with
  | zero => intro x h; exact h
  | succ k ih => intro x h; exact tst_inj (ih h)
theorem tstN_add (k m : Nat) : ∀ x : BitVec 32, tstN (k + m) x = tstN m (tstN k x) := by
  induction k with
  | zero => intro x; rw [Nat.zero_add]; rfl
  | succ k ih => intro x; rw [Nat.add_right_comm]; exact ih (tst x)
/-- A byte, wide. -/
def bw (c : UInt8) : BitVec 32 := BitVec.ofNat 32 c.toNat
/-- A byte is taken in. -/
def crcB (r : BitVec 32) (c : UInt8) : BitVec 32 := tstN 8 (r ^^^ bw c)
/-- Bytes are taken in. -/
def crcL (r : BitVec 32) (l : List UInt8) : BitVec 32 := l.foldl crcB r
theorem crcL_append (r : BitVec 32) (l m : List UInt8) : crcL r (l ++ m) = crcL (crcL r l) m := by simp [crcL]
theorem crcL_xor : ∀ (l : List UInt8) (r d : BitVec 32), crcL (r ^^^ d) l = crcL r l ^^^ tstN (8 * l.length) d := by
  intro l
  induction l with
  | nil => intro r d; rfl
  | cons c l ih =>
    intro r d
    show crcL (crcB (r ^^^ d) c) l = crcL (crcB r c) l ^^^ _
    have h1 : crcB (r ^^^ d) c = crcB r c ^^^ tstN 8 d := by
      unfold crcB
      rw [BitVec.xor_assoc, BitVec.xor_comm d, ← BitVec.xor_assoc, tstN_xor]
    rw [h1, ih, List.length_cons, ← tstN_add]
    congr 2
    omega
/-- CRC-32. -/
def crc (l : List UInt8) : BitVec 32 := ~~~ (crcL (BitVec.allOnes 32) l)
theorem bw_xor (c d : UInt8) : bw (c ^^^ d) = bw c ^^^ bw d := by
  unfold bw
  apply BitVec.eq_of_toNat_eq
  rw [BitVec.toNat_xor, BitVec.toNat_ofNat, BitVec.toNat_ofNat, BitVec.toNat_ofNat, UInt8.toNat_xor]
  have h1 := c.toNat_lt
  have h2 := d.toNat_lt
  have h3 : c.toNat ^^^ d.toNat < 2 ^ 8 := Nat.xor_lt_two_pow (by omega) (by omega)
  rw [Nat.mod_eq_of_lt (by omega), Nat.mod_eq_of_lt (by omega), Nat.mod_eq_of_lt (by omega)]
theorem bw_zero {c : UInt8} (h : bw c = 0#32) : c = 0 := by
  unfold bw at h
  have h1 := congrArg BitVec.toNat h
  rw [BitVec.toNat_ofNat] at h1
  have h2 := c.toNat_lt
  rw [Nat.mod_eq_of_lt (by omega)] at h1
  exact UInt8.toNat_inj.1 (by simpa using h1)
/-- One byte that is another one: another sum. -/
theorem crc_turned (l m : List UInt8) (c d : UInt8) (hd : d ≠ 0) : crc (l ++ (c ^^^ d) :: m) ≠ crc (l ++ c :: m) := by
  unfold crc
  intro h
  have h1 : crcL (BitVec.allOnes 32) (l ++ (c ^^^ d) :: m) = crcL (BitVec.allOnes 32) (l ++ c :: m) := by
    have := congrArg (fun x => ~~~ x) h
    simpa using this
  rw [crcL_append, crcL_append] at h1
  have h2 : ∀ r, crcL r ((c ^^^ d) :: m) = crcL r (c :: m) ^^^ tstN (8 * (m.length + 1)) (bw d) := by
    intro r
    show crcL (crcB r (c ^^^ d)) m = crcL (crcB r c) m ^^^ _
    have : crcB r (c ^^^ d) = crcB r c ^^^ tstN 8 (bw d) := by
      unfold crcB
      rw [bw_xor, ← BitVec.xor_assoc, tstN_xor]
    rw [this, crcL_xor, ← tstN_add]
    congr 2
    omega
  rw [h2] at h1
  have h3 : tstN (8 * (m.length + 1)) (bw d) = 0#32 := by
    have h4 := congrArg (fun x => crcL (crcL (BitVec.allOnes 32) l) (c :: m) ^^^ x) h1
    simp only [BitVec.xor_self] at h4
    rw [← BitVec.xor_assoc, BitVec.xor_self, BitVec.zero_xor] at h4
    exact h4
  exact hd (bw_zero (tstN_inj _ h3))
/-- A bit is taken in. -/
def bitS (r : BitVec 32) (b : Bool) : BitVec 32 := if r.getLsbD 0 != b then (r >>> 1) ^^^ 0xEDB88320#32 else r >>> 1
theorem bitS_eq (r : BitVec 32) (b : Bool) : bitS r b = tst (r ^^^ (if b then 1#32 else 0#32)) := by
  unfold bitS tst
  rw [BitVec.getLsbD_xor, BitVec.ushiftRight_xor_distrib]
  cases h : r.getLsbD 0 <;> cases b
  · show r >>> 1 = r >>> 1 ^^^ 0#32 ^^^ 0#32
    rw [BitVec.xor_zero, BitVec.xor_zero]
  · show r >>> 1 ^^^ 0xEDB88320#32 = r >>> 1 ^^^ 0#32 ^^^ 0xEDB88320#32
    rw [BitVec.xor_zero]
  · show r >>> 1 ^^^ 0xEDB88320#32 = r >>> 1 ^^^ 0#32 ^^^ 0xEDB88320#32
    rw [BitVec.xor_zero]
  · show r >>> 1 = r >>> 1 ^^^ 0#32 ^^^ 0#32
    rw [BitVec.xor_zero, BitVec.xor_zero]
/-- The bits of a byte are taken in, the lowest first: n of them. -/
def bitsN (c : UInt8) : Nat → BitVec 32 → BitVec 32
  | 0, r => r
  | n + 1, r => bitS (bitsN c n r) (c.toNat.testBit n)
theorem tstN_pow : ∀ n : Fin 9, tstN n.val (BitVec.ofNat 32 (2 ^ n.val)) = 1#32 := by decide +kernel
theorem low_bits : ∀ c : Fin 256, ∀ n : Fin 8, BitVec.ofNat 32 (c.val % 2 ^ (n.val + 1)) = BitVec.ofNat 32 (c.val % 2 ^ n.val) ^^^ (if c.val.testBit n.val then BitVec.ofNat 32 (2 ^ n.val) else 0#32) := by decide +kernel
theorem tstN_succ (n : Nat) (x : BitVec 32) : tst (tstN n x) = tstN (n + 1) x := by
  rw [tstN_add n 1]
  rfl
theorem bitsN_eq (c : UInt8) (r : BitVec 32) : ∀ n, n ≤ 8 → bitsN c n r = tstN n (r ^^^ BitVec.ofNat 32 (c.toNat % 2 ^ n)) := by
  intro n
  induction n with
  | zero =>
    intro _
    have : c.toNat % 2 ^ 0 = 0 := by omega
    rw [this]
    show r = r ^^^ 0#32
    rw [BitVec.xor_zero]
  | succ n ih =>
    intro hn
    rw [bitsN, ih (by omega), bitS_eq]
    have h1 := low_bits ⟨c.toNat, c.toNat_lt⟩ ⟨n, by omega⟩
    have h2 := tstN_pow ⟨n, by omega⟩
    simp only at h1 h2
    rw [h1, ← BitVec.xor_assoc, ← tstN_succ, tstN_xor n (r ^^^ BitVec.ofNat 32 (c.toNat % 2 ^ n))]
    congr 2
    cases c.toNat.testBit n with
    | true => rw [if_pos rfl, if_pos rfl, h2]
    | false =>
      rw [if_neg (by simp), if_neg (by simp)]
      have h3 := tstN_xor n 0#32 0#32
      rw [BitVec.xor_self, BitVec.xor_self] at h3
      exact h3.symm
/-- By bytes and by bits: alike. -/
theorem crcB_bits (c : UInt8) (r : BitVec 32) : bitsN c 8 r = crcB r c := by
  rw [bitsN_eq c r 8 (by omega)]
  unfold crcB bw
  rw [Nat.mod_eq_of_lt c.toNat_lt]
end Go.Proofs.Ythmnloapjdalpaa
