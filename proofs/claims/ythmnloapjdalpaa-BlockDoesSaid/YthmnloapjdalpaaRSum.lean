/- CRC-32 in plain words: by bytes and by bits alike; one turned bit is told. The two packages' Sum32. The reference's Sum32. -/
import Derived.WalkKit
import Derived.Test.YthmnloapjdalpaaBytes
import Derived.Test.YthmnloapjdalpaaRows
import Derived.Laws.IdiomStrings
import Derived.Lib.Hide
import Derived.Outline
import Derived.WalkSpells
import Derived.WalkLawsBesides
import Derived.Deep.QuietTactic
import Derived.BigQuiet
import Derived.Deep.LoopGhost
import Derived.Deep.DeepMust
import Derived.Deep.RegionHeld3
import Derived.Laws.EntriesVeiled
namespace Go.Proofs.Ythmnloapjdalpaa
set_option linter.unusedVariables false
/-- One step. -/
def tst (r : BitVec 32) : BitVec 32 := (r >>> 1) ^^^ (if r.getLsbD 0 then 0xEDB88320#32 else 0#32)
theorem tst_xor (x y : BitVec 32) : tst (x ^^^ y) = tst x ^^^ tst y := by
  unfold tst
  rw [BitVec.getLsbD_xor, BitVec.ushiftRight_xor_distrib]
  cases x.getLsbD 0 <;> cases y.getLsbD 0
  · simp
  · simp [BitVec.xor_assoc]
  · simp only [Bool.xor_false, if_true, Bool.false_eq_true, if_false, BitVec.xor_zero]
    rw [BitVec.xor_assoc, BitVec.xor_comm (y >>> 1), ← BitVec.xor_assoc]
  · simp only [Bool.xor_self, Bool.false_eq_true, if_false, if_true, BitVec.xor_zero]
    rw [BitVec.xor_assoc, BitVec.xor_comm 0xEDB88320#32, BitVec.xor_assoc, BitVec.xor_self, BitVec.xor_zero]
theorem tst_inj {x : BitVec 32} (h : tst x = 0#32) : x = 0#32 := by
  unfold tst at h
  cases h0 : x.getLsbD 0 with
  | true =>
    exfalso
    rw [h0, if_pos rfl] at h
    have h1 : (x >>> 1 ^^^ 0xEDB88320#32).getLsbD 31 = false := by rw [h]; rfl
    rw [BitVec.getLsbD_xor, BitVec.getLsbD_ushiftRight] at h1
    have h2 : x.getLsbD (1 + 31) = false := BitVec.getLsbD_of_ge x _ (by omega)
    rw [h2] at h1
    revert h1
    decide
  | false =>
    rw [h0, if_neg (by simp), BitVec.xor_zero] at h
    apply BitVec.eq_of_getLsbD_eq
    intro i hi
    rw [BitVec.getLsbD_zero]
    cases i with
    | zero => exact h0
    | succ i =>
      have h1 : (x >>> 1).getLsbD i = false := by rw [h]; simp
      rw [BitVec.getLsbD_ushiftRight] at h1
      rwa [Nat.add_comm] at h1
/-- Many steps. -/
def tstN : Nat → BitVec 32 → BitVec 32
  | 0, r => r
  | k + 1, r => tstN k (tst r)
theorem tstN_xor : ∀ (k : Nat) (x y : BitVec 32), tstN k (x ^^^ y) = tstN k x ^^^ tstN k y := by
  intro k
  induction k with
  | zero => intro x y; rfl
  | succ k ih => intro x y; rw [tstN, tstN, tstN, tst_xor, ih]
theorem tstN_inj : ∀ (k : Nat) {x : BitVec 32}, tstN k x = 0#32 → x = 0#32 := by
  intro k
  induction k with
  | zero => intro x h; exact h
  | succ k ih => intro x h; exact tst_inj (ih h)
theorem tstN_add (k m : Nat) : ∀ x : BitVec 32, tstN (k + m) x = tstN m (tstN k x) := by
  induction k with
  | zero => intro x; rw [Nat.zero_add]; rfl
  | succ k ih => intro x; rw [Nat.add_right_comm]; exact ih (tst x)
/-- A byte, wide. -/
def bw (c : UInt8) : BitVec 32 := BitVec.ofNat 32 c.toNat
/-- A byte is taken in. -/
def crcB (r : BitVec 32) (c : UInt8) : BitVec 32 := tstN 8 (r ^^^ bw c)
/-- Bytes are taken in. -/
def crcL (r : BitVec 32) (l : List UInt8) : BitVec 32 := l.foldl crcB r
theorem crcL_append (r : BitVec 32) (l m : List UInt8) : crcL r (l ++ m) = crcL (crcL r l) m := by simp [crcL]
theorem crcL_xor : ∀ (l : List UInt8) (r d : BitVec 32), crcL (r ^^^ d) l = crcL r l ^^^ tstN (8 * l.length) d := by
  intro l
  induction l with
  | nil => intro r d; rfl
  | cons c l ih =>
    intro r d
    show crcL (crcB (r ^^^ d) c) l = crcL (crcB r c) l ^^^ _
    have h1 : crcB (r ^^^ d) c = crcB r c ^^^ tstN 8 d := by
      unfold crcB
      rw [BitVec.xor_assoc, BitVec.xor_comm d, ← BitVec.xor_assoc, tstN_xor]
    rw [h1, ih, List.length_cons, ← tstN_add]
    congr 2
    omega
/-- CRC-32. -/
def crc (l : List UInt8) : BitVec 32 := ~~~ (crcL (BitVec.allOnes 32) l)
theorem bw_xor (c d : UInt8) : bw (c ^^^ d) = bw c ^^^ bw d := by
  unfold bw
  apply BitVec.eq_of_toNat_eq
  rw [BitVec.toNat_xor, BitVec.toNat_ofNat, BitVec.toNat_ofNat, BitVec.toNat_ofNat, UInt8.toNat_xor]
  have h1 := c.toNat_lt
  have h2 := d.toNat_lt
  have h3 : c.toNat ^^^ d.toNat < 2 ^ 8 := Nat.xor_lt_two_pow (by omega) (by omega)
  rw [Nat.mod_eq_of_lt (by omega), Nat.mod_eq_of_lt (by omega), Nat.mod_eq_of_lt (by omega)]
theorem bw_zero {c : UInt8} (h : bw c = 0#32) : c = 0 := by
  unfold bw at h
  have h1 := congrArg BitVec.toNat h
  rw [BitVec.toNat_ofNat] at h1
  have h2 := c.toNat_lt
  rw [Nat.mod_eq_of_lt (by omega)] at h1
  exact UInt8.toNat_inj.1 (by simpa using h1)
/-- One byte that is another one: another sum. -/
theorem crc_turned (l m : List UInt8) (c d : UInt8) (hd : d ≠ 0) : crc (l ++ (c ^^^ d) :: m) ≠ crc (l ++ c :: m) := by
  unfold crc
  intro h
  have h1 : crcL (BitVec.allOnes 32) (l ++ (c ^^^ d) :: m) = crcL (BitVec.allOnes 32) (l ++ c :: m) := by
    have := congrArg (fun x => ~~~ x) h
    simpa using this
  rw [crcL_append, crcL_append] at h1
  have h2 : ∀ r, crcL r ((c ^^^ d) :: m) = crcL r (c :: m) ^^^ tstN (8 * (m.length + 1)) (bw d) := by
    intro r
    show crcL (crcB r (c ^^^ d)) m = crcL (crcB r c) m ^^^ _
    have : crcB r (c ^^^ d) = crcB r c ^^^ tstN 8 (bw d) := by
      unfold crcB
      rw [bw_xor, ← BitVec.xor_assoc, tstN_xor]
    rw [this, crcL_xor, ← tstN_add]
    congr 2
    omega
  rw [h2] at h1
  have h3 : tstN (8 * (m.length + 1)) (bw d) = 0#32 := by
    have h4 := congrArg (fun x => crcL (crcL (BitVec.allOnes 32) l) (c :: m) ^^^ x) h1
    simp only [BitVec.xor_self] at h4
    rw [← BitVec.xor_assoc, BitVec.xor_self, BitVec.zero_xor] at h4
    exact h4
  exact hd (bw_zero (tstN_inj _ h3))
/-- A bit is taken in. -/
def bitS (r : BitVec 32) (b : Bool) : BitVec 32 := if r.getLsbD 0 != b then (r >>> 1) ^^^ 0xEDB88320#32 else r >>> 1
theorem bitS_eq (r : BitVec 32) (b : Bool) : bitS r b = tst (r ^^^ (if b then 1#32 else 0#32)) := by
  unfold bitS tst
  rw [BitVec.getLsbD_xor, BitVec.ushiftRight_xor_distrib]
  cases h : r.getLsbD 0 <;> cases b
  · show r >>> 1 = r >>> 1 ^^^ 0#32 ^^^ 0#32
    rw [BitVec.xor_zero, BitVec.xor_zero]
  · show r >>> 1 ^^^ 0xEDB88320#32 = r >>> 1 ^^^ 0#32 ^^^ 0xEDB88320#32
    rw [BitVec.xor_zero]
  · show r >>> 1 ^^^ 0xEDB88320#32 = r >>> 1 ^^^ 0#32 ^^^ 0xEDB88320#32
    rw [BitVec.xor_zero]
  · show r >>> 1 = r >>> 1 ^^^ 0#32 ^^^ 0#32
    rw [BitVec.xor_zero, BitVec.xor_zero]
/-- The bits of a byte are taken in, the lowest first: n of them. -/
def bitsN (c : UInt8) : Nat → BitVec 32 → BitVec 32
  | 0, r => r
  | n + 1, r => bitS (bitsN c n r) (c.toNat.testBit n)
theorem tstN_pow : ∀ n : Fin 9, tstN n.val (BitVec.ofNat 32 (2 ^ n.val)) = 1#32 := by decide +kernel
theorem low_bits : ∀ c : Fin 256, ∀ n : Fin 8, BitVec.ofNat 32 (c.val % 2 ^ (n.val + 1)) = BitVec.ofNat 32 (c.val % 2 ^ n.val) ^^^ (if c.val.testBit n.val then BitVec.ofNat 32 (2 ^ n.val) else 0#32) := by decide +kernel
theorem tstN_succ (n : Nat) (x : BitVec 32) : tst (tstN n x) = tstN (n + 1) x := by
  rw [tstN_add n 1]
  rfl
theorem bitsN_eq (c : UInt8) (r : BitVec 32) : ∀ n, n ≤ 8 → bitsN c n r = tstN n (r ^^^ BitVec.ofNat 32 (c.toNat % 2 ^ n)) := by
  intro n
  induction n with
  | zero =>
    intro _
    have : c.toNat % 2 ^ 0 = 0 := by omega
    rw [this]
    show r = r ^^^ 0#32
    rw [BitVec.xor_zero]
  | succ n ih =>
    intro hn
    rw [bitsN, ih (by omega), bitS_eq]
    have h1 := low_bits ⟨c.toNat, c.toNat_lt⟩ ⟨n, by omega⟩
    have h2 := tstN_pow ⟨n, by omega⟩
    simp only at h1 h2
    rw [h1, ← BitVec.xor_assoc, ← tstN_succ, tstN_xor n (r ^^^ BitVec.ofNat 32 (c.toNat % 2 ^ n))]
    congr 2
    cases c.toNat.testBit n with
    | true => rw [if_pos rfl, if_pos rfl, h2]
    | false =>
      rw [if_neg (by simp), if_neg (by simp)]
      have h3 := tstN_xor n 0#32 0#32
      rw [BitVec.xor_self, BitVec.xor_self] at h3
      exact h3.symm
/-- By bytes and by bits: alike. -/
theorem crcB_bits (c : UInt8) (r : BitVec 32) : bitsN c 8 r = crcB r c := by
  rw [bitsN_eq c r 8 (by omega)]
  unfold crcB bw
  rw [Nat.mod_eq_of_lt c.toNat_lt]
end Go.Proofs.Ythmnloapjdalpaa
namespace Go.Proofs.Ythmnloapjdalpaa
open Go.RowKit
set_option linter.unusedVariables false
set_option linter.unusedSimpArgs false
theorem u32_in (n : Nat) (h : n < 2 ^ 32) : IntKind.u32.wrap (n : Int) = (n : Int) := by
  show ((n : Int) % 4294967296) = n
  omega
theorem bits_xor_u32 (x y : BitVec 32) : bits .xor .u32 (x.toNat : Int) (y.toNat : Int) = ((x ^^^ y).toNat : Int) := by
  show IntKind.u32.wrap (((BitVec.ofInt 32 (x.toNat : Int) ^^^ BitVec.ofInt 32 (y.toNat : Int)).toNat : Nat) : Int) = _
  rw [BitVec.ofInt_natCast, BitVec.ofInt_natCast, BitVec.ofNat_toNat, BitVec.ofNat_toNat, BitVec.setWidth_eq, BitVec.setWidth_eq]
  exact u32_in _ (BitVec.isLt _)
theorem bits_and1_u32 (x : BitVec 32) : bits .and .u32 (x.toNat : Int) 1 = if x.getLsbD 0 then 1 else 0 := by
  show IntKind.u32.wrap (((BitVec.ofInt 32 (x.toNat : Int) &&& BitVec.ofInt 32 1).toNat : Nat) : Int) = _
  rw [BitVec.ofInt_natCast, BitVec.ofNat_toNat, BitVec.setWidth_eq]
  have h : (x &&& BitVec.ofInt 32 1).toNat = x.toNat % 2 := by
    rw [BitVec.toNat_and]
    show x.toNat &&& 1 = _
    exact Nat.and_one_is_mod _
  rw [h, u32_in _ (by omega)]
  have h2 : x.getLsbD 0 = decide (x.toNat % 2 = 1) := by
    rw [BitVec.getLsbD, Nat.testBit_zero]
  rw [h2]
  rcases Nat.mod_two_eq_zero_or_one x.toNat with h3 | h3 <;> rw [h3] <;> rfl
theorem shr_u32 (x : BitVec 32) : ((x.toNat : Int)) / (2 : Int) = (((x >>> 1).toNat : Nat) : Int) := by
  rw [BitVec.toNat_ushiftRight, Nat.shiftRight_eq_div_pow]
  omega
theorem tst_t {x : BitVec 32} (h : x.getLsbD 0 = true) : bits .xor .u32 ((x.toNat : Int) / 2) 3988292384 = ((tst x).toNat : Int) := by
  rw [shr_u32]
  have := bits_xor_u32 (x >>> 1) 0xEDB88320#32
  unfold tst
  rw [if_pos h]
  exact this
theorem tst_f {x : BitVec 32} (h : x.getLsbD 0 = false) : bits .xor .u32 ((x.toNat : Int) / 2) 0 = ((tst x).toNat : Int) := by
  rw [shr_u32]
  have := bits_xor_u32 (x >>> 1) 0#32
  unfold tst
  rw [if_neg (by rw [h]; simp)]
  exact this
theorem not_u32 (x : BitVec 32) : bits .xor .u32 IntKind.u32.max (x.toNat : Int) = ((~~~x).toNat : Int) := by
  have h := bits_xor_u32 (BitVec.allOnes 32) x
  rw [BitVec.not_def]
  exact h
theorem crcL_snoc (r : BitVec 32) (l : List UInt8) (c : UInt8) : crcL r (l ++ [c]) = crcB (crcL r l) c := by simp [crcL]
theorem take_next {l : List UInt8} {k : Nat} {c : UInt8} (h : l[k]? = some c) : l.take (k + 1) = l.take k ++ [c] := by rw [List.take_add_one, h]; rfl
theorem tstN_last (k : Nat) (x : BitVec 32) : tstN (k + 1) x = tst (tstN k x) := (tstN_succ k x).symm
set_option maxRecDepth 100000 in
set_option maxHeartbeats 1000000 in
theorem sum_any (s : ByteArray) (w : World) (hs : s.size ≤ maxLen) : Calls Try.prog 54 #[.string s] w fun e w' => e = .returned (.int .u32 ((crc s.data.toList).toNat : Int)) ∧ Fr [] w w' := by
  have hcv := run_bytes_of_string (P := Try.prog) w 9 30 5 s Try.underlying9 Try.underlying30 Try.underlying5
  obtain ⟨C, hC⟩ : ∃ C, grownCap w s.size 0 5 = C := ⟨_, rfl⟩
  rw [hC] at hcv
  have hwb := Wb.made w s C (fun i => (s.data[i]?).getD 0) (fun i hi => by
    have hi' : i < s.data.size := hi
    rw [Array.getElem?_eq_getElem hi']
    rfl)
  generalize bytesRow s C = R at *
  obtain ⟨N, hN⟩ : ∃ N, s.size = N := ⟨_, rfl⟩
  have hlen : s.data.toList.length = N := hN
  rw [hN] at hcv hwb hs
  simp only [maxLen] at hs
  have HWb := Lib.hid (hwb.fr ((Fr.refl [] _).drew) (by simp))
  have Hlen := Lib.hid hlen
  have Hf0 : Hid (Fr [] w ((w.alloc (.cells R 5 (R.size, R.size + 1))).drew)) := Lib.hid (((Fr.refl [] w).alloc _).drew)
  obtain ⟨L, hL⟩ : ∃ L, s.data.toList = L := ⟨_, rfl⟩
  have HL := Lib.hid hL
  have hat : ∀ i, i < N → L[i]? = some ((s.data[i]?).getD 0) := by
    intro i hi
    have hi' : i < s.data.size := by rw [show s.data.size = N from hN]; exact hi
    rw [← hL, Array.getElem?_toList, Array.getElem?_eq_getElem hi']
    rfl
  have Hat := Lib.hid hat
  clear hwb hlen hC hN hL hat
  go_enter Try.func54, Try.ntmps54
  go_wp2_with fail
  have HW := HWb.out
  generalize (w.alloc (.cells R 5 (R.size, R.size + 1))).drew = W0 at *
  clear HWb
  have HWb := Lib.hid HW
  clear HW
  go_loopg [3, 9] N (fun gg x i wr => ∃ (k : Nat) (z : Int), k + gg = N ∧ i = .int .i64 k ∧ x = .int .u32 z ∧ z = ((crcL (BitVec.allOnes 32) (L.take k)).toNat : Int) ∧ W0 = wr)
  case atStart => exact ⟨0, _, by omega, rfl, rfl, rfl, rfl⟩
  case round =>
    obtain ⟨k, z, hk, rfl, rfl, hz, rfl⟩ := hrel
    have Hk := Lib.hid hk
    by_cases hlt : k < N
    · have hki : (k : Int) < (N : Int) := by omega
      have hk0 : (0 : Int) ≤ (k : Int) := by omega
      have hc := HWb.out.cell hlt
      have hL1 := Hat.out k hlt
      generalize (s.data[k]?).getD 0 = c at *
      obtain ⟨X, hX⟩ : ∃ X, crcL (BitVec.allOnes 32) (L.take k) = X := ⟨_, rfl⟩
      have hnx : crcL (BitVec.allOnes 32) (L.take (k + 1)) = tstN 8 (X ^^^ bw c) := by rw [take_next hL1, crcL_snoc, hX]; rfl
      have hcl := c.toNat_lt
      have hbw : (bw c).toNat = c.toNat := by
        unfold bw
        rw [BitVec.toNat_ofNat]
        omega
      have hxor := bits_xor_u32 X (bw c)
      rw [hbw] at hxor
      rw [hX] at hz
      have hXl := X.isLt
      have Hnx := Lib.hid hnx
      generalize X ^^^ bw c = Y at *
      subst hz
      clear hk hL1 hX hnx hbw
      generalize X.toNat = xn at *
      generalize c.toNat = cn at *
      have hYl := Y.isLt
      go_wp2_with fail
      go_loopg [3, 17] 8 (fun gg x i wr => ∃ (j : Nat) (z : Int), j + gg = 8 ∧ i = .int .i64 j ∧ x = .int .u32 z ∧ z = ((tstN j Y).toNat : Int) ∧ W0 = wr)
      case atStart => exact ⟨0, _, by omega, rfl, rfl, rfl, rfl⟩
      case round =>
        obtain ⟨j, z, hj, rfl, rfl, hz, rfl⟩ := hrel
        have Hj := Lib.hid hj
        by_cases hlj : j < 8
        · have hji : (j : Int) < 8 := by omega
          have hj0 : (0 : Int) ≤ (j : Int) := by omega
          have hl := tstN_last j Y
          generalize tstN j Y = V at *
          have e1 := bits_and1_u32 V
          have hVl := V.isLt
          have Hl := Lib.hid hl
          subst hz
          cases hb : V.getLsbD 0 with
          | true =>
            have e2 := tst_t hb
            rw [hb, if_pos rfl] at e1
            generalize V.toNat = vn at *
            clear hb hl hj
            go_wp2_with fail
            go_roundg (8 - (j + 1))
            case measure => have := Hj.out; omega
            case rel => exact ⟨j + 1, _, by have := Hj.out; omega, by go_num, rfl, by rw [Hl.out], rfl⟩
          | false =>
            have e2 := tst_f hb
            rw [hb, if_neg (by simp)] at e1
            generalize V.toNat = vn at *
            clear hb hl hj
            go_wp2_with fail
            go_roundg (8 - (j + 1))
            case measure => have := Hj.out; omega
            case rel => exact ⟨j + 1, _, by have := Hj.out; omega, by go_num, rfl, by rw [Hl.out], rfl⟩
        · have hji : ¬ (j : Int) < 8 := by omega
          obtain rfl : j = 8 := by omega
          clear hj
          go_wp2_with fail
          go_roundg (N - (k + 1))
          case measure => have := Hk.out; omega
          case rel => exact ⟨k + 1, _, by have := Hk.out; omega, by go_num, rfl, by rw [Hnx.out], rfl⟩
    · have hki : ¬ (k : Int) < (N : Int) := by omega
      have hkN : L.take k = L := List.take_of_length_le (by have := Hlen.out; rw [HL.out] at this; omega)
      rw [hkN] at hz
      have Hz := Lib.hid hz
      clear hk hkN hz
      go_wp2_with fail
      go_ret
      refine ⟨?_, Hf0.out⟩
      have h1 := not_u32 (crcL (BitVec.allOnes 32) L)
      rw [← Hz.out] at h1
      unfold crc
      rw [HL.out, ← h1]
      rfl
theorem xor_max (x : BitVec 32) : bits .xor .u32 4294967295 (x.toNat : Int) = ((~~~x).toNat : Int) := not_u32 x
theorem bit_at (c : UInt8) (j : Nat) (hj : j < 8) : bits .and .u32 (((c.toNat / 2 ^ j : Nat)) : Int) 1 = if c.toNat.testBit j then 1 else 0 := by
  have hc := c.toNat_lt
  have h1 : c.toNat / 2 ^ j < 2 ^ 32 := Nat.lt_of_le_of_lt (Nat.div_le_self _ _) (by omega)
  have h := bits_and1_u32 (BitVec.ofNat 32 (c.toNat / 2 ^ j))
  rw [BitVec.toNat_ofNat, Nat.mod_eq_of_lt h1] at h
  rw [h]
  have h2 : (BitVec.ofNat 32 (c.toNat / 2 ^ j)).getLsbD 0 = c.toNat.testBit j := by
    rw [BitVec.getLsbD, BitVec.toNat_ofNat, Nat.mod_eq_of_lt h1, Nat.testBit_zero, Nat.testBit_eq_decide_div_mod_eq]
  rw [h2]
end Go.Proofs.Ythmnloapjdalpaa
namespace Go.Proofs.Ythmnloapjdalpaa
open Go.RowKit
set_option linter.unusedVariables false
set_option linter.unusedSimpArgs false
set_option maxRecDepth 100000 in
set_option maxHeartbeats 1000000 in
theorem rSum_any (s : ByteArray) (w : World) (hs : s.size ≤ maxLen) : Calls Try.prog 57 #[.string s] w fun e w' => e = .returned (.int .u32 ((crc s.data.toList).toNat : Int)) ∧ w = w' := by
  obtain ⟨N, hN⟩ : ∃ N, s.size = N := ⟨_, rfl⟩
  have hlen : s.data.toList.length = N := hN
  have Hlen := Lib.hid hlen
  obtain ⟨L, hL⟩ : ∃ L, s.data.toList = L := ⟨_, rfl⟩
  have HL := Lib.hid hL
  rw [hN] at hs
  simp only [maxLen] at hs
  clear hlen hL
  go_enter Try.func57, Try.ntmps57
  go_wp2_with fail
  go_loopg [3, 4] N (fun gg x i wr => ∃ (k : Nat) (z : Int), k + gg = N ∧ i = .int .i64 k ∧ x = .int .u32 z ∧ z = ((crcL (BitVec.allOnes 32) (L.take k)).toNat : Int) ∧ w = wr)
  case atStart => exact ⟨0, _, by omega, rfl, rfl, rfl, rfl⟩
  case round =>
    obtain ⟨k, z, hk, rfl, rfl, hz, rfl⟩ := hrel
    have Hk := Lib.hid hk
    by_cases hlt : k < N
    · have hki : (k : Int) < (N : Int) := by omega
      have hk0 : (0 : Int) ≤ (k : Int) := by omega
      obtain ⟨c, hL1⟩ : ∃ c, L[k]? = some c := ⟨_, List.getElem?_eq_getElem (by have := Hlen.out; rw [HL.out] at this; omega)⟩
      have hks : k < s.size := by omega
      have c0 : s[k] = c := by
        have h2 := (List.getElem?_eq_some_iff.1 (show s.data.toList[k]? = some c by rw [HL.out]; exact hL1)).2
        have h3 : s[k] = s.data[k] := rfl
        rw [h3]
        simpa using h2
      have hnx : crcL (BitVec.allOnes 32) (L.take (k + 1)) = bitsN c 8 (crcL (BitVec.allOnes 32) (L.take k)) := by rw [take_next hL1, crcL_snoc, crcB_bits]
      have Hnx := Lib.hid hnx
      have hcl := c.toNat_lt
      generalize crcL (BitVec.allOnes 32) (L.take k) = X at *
      have hXl := X.isLt
      subst hz
      have Hbit := Lib.hid fun j (hj : j < 8) => bit_at c j hj
      clear hk hL1 hnx
      go_wp2_with fail
      go_loopg [3, 5] 8 (fun gg x i wr => ∃ (j : Nat) (z : Int), j + gg = 8 ∧ i = .int .i64 j ∧ x = .int .u32 z ∧ z = ((bitsN c j X).toNat : Int) ∧ w = wr)
      case atStart => exact ⟨0, _, by omega, rfl, rfl, rfl, rfl⟩
      case round =>
        obtain ⟨j, z, hj, rfl, rfl, hz, rfl⟩ := hrel
        have Hj := Lib.hid hj
        by_cases hlj : j < 8
        · have hji : (j : Int) < 8 := by omega
          have hj0 : (0 : Int) ≤ (j : Int) := by omega
          have hjt : ((j : Int)).toNat = j := by omega
          have hb := Hbit.out j hlj
          have h4 : ∀ D : Nat, D = 2 ^ j → bits .and .u32 ((c.toNat : Int) / (D : Int)) 1 = if c.toNat.testBit j then 1 else 0 := by
            intro D hD
            subst hD
            rw [← Int.natCast_ediv]
            exact hb
          have hl : bitsN c (j + 1) X = bitS (bitsN c j X) (c.toNat.testBit j) := rfl
          generalize bitsN c j X = V at *
          have e1 := bits_and1_u32 V
          have e2 := bits_xor_u32 (V >>> 1) 0xEDB88320#32
          rw [← shr_u32] at e2
          have e3 := shr_u32 V
          unfold bitS at hl
          have Hl := Lib.hid hl
          have He3 := Lib.hid e3
          have hVl := V.isLt
          subst hz
          generalize c.toNat.testBit j = tb at *
          clear hl e3 hj hb hjt
          have hcs : j = 0 ∨ j = 1 ∨ j = 2 ∨ j = 3 ∨ j = 4 ∨ j = 5 ∨ j = 6 ∨ j = 7 := by omega
          cases hv : V.getLsbD 0 <;> cases tb
          all_goals
            rw [hv] at e1
            simp only [Bool.false_eq_true, if_true, if_false, hv, bne_self_eq_false] at e1 h4 Hl
            clear hv
            rcases hcs with rfl | rfl | rfl | rfl | rfl | rfl | rfl | rfl
          all_goals
            have e4 := h4 _ rfl
            simp at e4
            clear h4
            go_wp2_with fail
            first
              | (go_roundg 7
                 case measure => have := Hj.out; omega
                 case rel => exact ⟨1, _, by omega, by go_num, rfl, by have h := Hl.out; simp only [Nat.zero_add, Nat.reduceAdd] at h; rw [h]; first | exact e2 | exact He3.out, rfl⟩)
              | (go_roundg 6
                 case measure => have := Hj.out; omega
                 case rel => exact ⟨2, _, by omega, by go_num, rfl, by have h := Hl.out; simp only [Nat.zero_add, Nat.reduceAdd] at h; rw [h]; first | exact e2 | exact He3.out, rfl⟩)
              | (go_roundg 5
                 case measure => have := Hj.out; omega
                 case rel => exact ⟨3, _, by omega, by go_num, rfl, by have h := Hl.out; simp only [Nat.zero_add, Nat.reduceAdd] at h; rw [h]; first | exact e2 | exact He3.out, rfl⟩)
              | (go_roundg 4
                 case measure => have := Hj.out; omega
                 case rel => exact ⟨4, _, by omega, by go_num, rfl, by have h := Hl.out; simp only [Nat.zero_add, Nat.reduceAdd] at h; rw [h]; first | exact e2 | exact He3.out, rfl⟩)
              | (go_roundg 3
                 case measure => have := Hj.out; omega
                 case rel => exact ⟨5, _, by omega, by go_num, rfl, by have h := Hl.out; simp only [Nat.zero_add, Nat.reduceAdd] at h; rw [h]; first | exact e2 | exact He3.out, rfl⟩)
              | (go_roundg 2
                 case measure => have := Hj.out; omega
                 case rel => exact ⟨6, _, by omega, by go_num, rfl, by have h := Hl.out; simp only [Nat.zero_add, Nat.reduceAdd] at h; rw [h]; first | exact e2 | exact He3.out, rfl⟩)
              | (go_roundg 1
                 case measure => have := Hj.out; omega
                 case rel => exact ⟨7, _, by omega, by go_num, rfl, by have h := Hl.out; simp only [Nat.zero_add, Nat.reduceAdd] at h; rw [h]; first | exact e2 | exact He3.out, rfl⟩)
              | (go_roundg 0
                 case measure => have := Hj.out; omega
                 case rel => exact ⟨8, _, by omega, by go_num, rfl, by have h := Hl.out; simp only [Nat.zero_add, Nat.reduceAdd] at h; rw [h]; first | exact e2 | exact He3.out, rfl⟩)
        · have hji : ¬ (j : Int) < 8 := by omega
          obtain rfl : j = 8 := by omega
          clear hj
          go_wp2_with fail
          go_roundg (N - (k + 1))
          case measure => have := Hk.out; omega
          case rel => exact ⟨k + 1, _, by have := Hk.out; omega, by go_num, rfl, by rw [Hnx.out], rfl⟩
    · have hki : ¬ (k : Int) < (N : Int) := by omega
      have hkN : L.take k = L := List.take_of_length_le (by have := Hlen.out; rw [HL.out] at this; omega)
      rw [hkN] at hz
      have Hz := Lib.hid hz
      clear hk hkN hz
      go_wp2_with fail
      go_ret
      refine ⟨?_, rfl⟩
      have h1 := xor_max (crcL (BitVec.allOnes 32) L)
      rw [← Hz.out] at h1
      unfold crc
      rw [HL.out, ← h1]
      rfl
end Go.Proofs.Ythmnloapjdalpaa
