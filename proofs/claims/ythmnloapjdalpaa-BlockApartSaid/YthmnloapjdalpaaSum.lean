/- The two packages' Sum32. -/
import Derived.Test.YthmnloapjdalpaaCrc
import Derived.Test.YthmnloapjdalpaaBytes
import Derived.Test.YthmnloapjdalpaaRows
import Derived.Laws.IdiomStrings
import Derived.Lib.Hide
import Derived.Outline
import Derived.WalkKit
import Derived.WalkSpells
import Derived.WalkLawsBesides
import Derived.Deep.QuietTactic
import Derived.BigQuiet
import Derived.Deep.LoopGhost
import Derived.Deep.DeepMust
import Derived.Deep.RegionHeld3
import Derived.Laws.EntriesVeiled
namespace Go.Proofs.Ythmnloapjdalpaa
open Go.RowKit
set_option linter.unusedVariables false
set_option linter.unusedSimpArgs false
theorem u32_in (n : Nat) (h : n < 2 ^ 32) : IntKind.u32.wrap (n : Int) = (n : Int) := by
  show ((n : Int) % 4294967296) = n
  omega
theorem bits_xor_u32 (x y : BitVec 32) : bits .xor .u32 (x.toNat : Int) (y.toNat : Int) = ((x ^^^ y).toNat : Int) := by
  show IntKind.u32.wrap (((BitVec.ofInt 32 (x.toNat : Int) ^^^ BitVec.ofInt 32 (y.toNat : Int)).toNat : Nat) : Int) = _
  rw [BitVec.ofInt_natCast, BitVec.ofInt_natCast, BitVec.ofNat_toNat, BitVec.ofNat_toNat, BitVec.setWidth_eq, BitVec.setWidth_eq]
  exact u32_in _ (BitVec.isLt _)
theorem bits_and1_u32 (x : BitVec 32) : bits .and .u32 (x.toNat : Int) 1 = if x.getLsbD 0 then 1 else 0 := by
  show IntKind.u32.wrap (((BitVec.ofInt 32 (x.toNat : Int) &&& BitVec.ofInt 32 1).toNat : Nat) : Int) = _
  rw [BitVec.ofInt_natCast, BitVec.ofNat_toNat, BitVec.setWidth_eq]
  have h : (x &&& BitVec.ofInt 32 1).toNat = x.toNat % 2 := by
    rw [BitVec.toNat_and]
    show x.toNat &&& 1 = _
    exact Nat.and_one_is_mod _
  rw [h, u32_in _ (by omega)]
  have h2 : x.getLsbD 0 = decide (x.toNat % 2 = 1) := by
    rw [BitVec.getLsbD, Nat.testBit_zero]
  rw [h2]
  rcases Nat.mod_two_eq_zero_or_one x.toNat with h3 | h3 <;> rw [h3] <;> rfl
theorem shr_u32 (x : BitVec 32) : ((x.toNat : Int)) / (2 : Int) = (((x >>> 1).toNat : Nat) : Int) := by
  rw [BitVec.toNat_ushiftRight, Nat.shiftRight_eq_div_pow]
  omega
theorem tst_t {x : BitVec 32} (h : x.getLsbD 0 = true) : bits .xor .u32 ((x.toNat : Int) / 2) 3988292384 = ((tst x).toNat : Int) := by
  rw [shr_u32]
  have := bits_xor_u32 (x >>> 1) 0xEDB88320#32
  unfold tst
  rw [if_pos h]
  exact this
theorem tst_f {x : BitVec 32} (h : x.getLsbD 0 = false) : bits .xor .u32 ((x.toNat : Int) / 2) 0 = ((tst x).toNat : Int) := by
  rw [shr_u32]
  have := bits_xor_u32 (x >>> 1) 0#32
  unfold tst
  rw [if_neg (by rw [h]; simp)]
  exact this
theorem not_u32 (x : BitVec 32) : bits .xor .u32 IntKind.u32.max (x.toNat : Int) = ((~~~x).toNat : Int) := by
  have h := bits_xor_u32 (BitVec.allOnes 32) x
  rw [BitVec.not_def]
  exact h
theorem crcL_snoc (r : BitVec 32) (l : List UInt8) (c : UInt8) : crcL r (l ++ [c]) = crcB (crcL r l) c := by simp [crcL]
theorem take_next {l : List UInt8} {k : Nat} {c : UInt8} (h : l[k]? = some c) : l.take (k + 1) = l.take k ++ [c] := by rw [List.take_add_one, h]; rfl
theorem tstN_last (k : Nat) (x : BitVec 32) : tstN (k + 1) x = tst (tstN k x) := (tstN_succ k x).symm
set_option maxRecDepth 100000 in
set_option maxHeartbeats 1000000 in
theorem sum_any (s : ByteArray) (w : World) (hs : s.size ≤ maxLen) : Calls Try.prog 54 #[.string s] w fun e w' => e = .returned (.int .u32 ((crc s.data.toList).toNat : Int)) ∧ Fr [] w w' := by
  have hcv := run_bytes_of_string (P := Try.prog) w 9 30 5 s Try.underlying9 Try.underlying30 Try.underlying5
  obtain ⟨C, hC⟩ : ∃ C, grownCap w s.size 0 5 = C := ⟨_, rfl⟩
  rw [hC] at hcv
  have hwb := Wb.made w s C (fun i => (s.data[i]?).getD 0) (fun i hi => by
    have hi' : i < s.data.size := hi
    rw [Array.getElem?_eq_getElem hi']
    rfl)
  generalize bytesRow s C = R at *
  obtain ⟨N, hN⟩ : ∃ N, s.size = N := ⟨_, rfl⟩
  have hlen : s.data.toList.length = N := hN
  rw [hN] at hcv hwb hs
  simp only [maxLen] at hs
  have HWb := Lib.hid (hwb.fr ((Fr.refl [] _).drew) (by simp))
  have Hlen := Lib.hid hlen
  have Hf0 : Hid (Fr [] w ((w.alloc (.cells R 5 (R.size, R.size + 1))).drew)) := Lib.hid (((Fr.refl [] w).alloc _).drew)
  obtain ⟨L, hL⟩ : ∃ L, s.data.toList = L := ⟨_, rfl⟩
  have HL := Lib.hid hL
  have hat : ∀ i, i < N → L[i]? = some ((s.data[i]?).getD 0) := by
    intro i hi
    have hi' : i < s.data.size := by rw [show s.data.size = N from hN]; exact hi
    rw [← hL, Array.getElem?_toList, Array.getElem?_eq_getElem hi']
    rfl
  have Hat := Lib.hid hat
  clear hwb hlen hC hN hL hat
  go_enter Try.func54, Try.ntmps54
  go_wp2_with fail
  have HW := HWb.out
  generalize (w.alloc (.cells R 5 (R.size, R.size + 1))).drew = W0 at *
  clear HWb
  have HWb := Lib.hid HW
  clear HW
  go_loopg [3, 9] N (fun gg x i wr => ∃ (k : Nat) (z : Int), k + gg = N ∧ i = .int .i64 k ∧ x = .int .u32 z ∧ z = ((crcL (BitVec.allOnes 32) (L.take k)).toNat : Int) ∧ W0 = wr)
  case atStart => exact ⟨0, _, by omega, rfl, rfl, rfl, rfl⟩
  case round =>
    obtain ⟨k, z, hk, rfl, rfl, hz, rfl⟩ := hrel
    have Hk := Lib.hid hk
    by_cases hlt : k < N
    · have hki : (k : Int) < (N : Int) := by omega
      have hk0 : (0 : Int) ≤ (k : Int) := by omega
      have hc := HWb.out.cell hlt
      have hL1 := Hat.out k hlt
      generalize (s.data[k]?).getD 0 = c at *
      obtain ⟨X, hX⟩ : ∃ X, crcL (BitVec.allOnes 32) (L.take k) = X := ⟨_, rfl⟩
      have hnx : crcL (BitVec.allOnes 32) (L.take (k + 1)) = tstN 8 (X ^^^ bw c) := by rw [take_next hL1, crcL_snoc, hX]; rfl
      have hcl := c.toNat_lt
      have hbw : (bw c).toNat = c.toNat := by
        unfold bw
        rw [BitVec.toNat_ofNat]
        omega
      have hxor := bits_xor_u32 X (bw c)
      rw [hbw] at hxor
      rw [hX] at hz
      have hXl := X.isLt
      have Hnx := Lib.hid hnx
      generalize X ^^^ bw c = Y at *
      subst hz
      clear hk hL1 hX hnx hbw
      generalize X.toNat = xn at *
      generalize c.toNat = cn at *
      have hYl := Y.isLt
      go_wp2_with fail
      go_loopg [3, 17] 8 (fun gg x i wr => ∃ (j : Nat) (z : Int), j + gg = 8 ∧ i = .int .i64 j ∧ x = .int .u32 z ∧ z = ((tstN j Y).toNat : Int) ∧ W0 = wr)
      case atStart => exact ⟨0, _, by omega, rfl, rfl, rfl, rfl⟩
      case round =>
        obtain ⟨j, z, hj, rfl, rfl, hz, rfl⟩ := hrel
        have Hj := Lib.hid hj
        by_cases hlj : j < 8
        · have hji : (j : Int) < 8 := by omega
          have hj0 : (0 : Int) ≤ (j : Int) := by omega
          have hl := tstN_last j Y
          generalize tstN j Y = V at *
          have e1 := bits_and1_u32 V
          have hVl := V.isLt
          have Hl := Lib.hid hl
          subst hz
          cases hb : V.getLsbD 0 with
          | true =>
            have e2 := tst_t hb
            rw [hb, if_pos rfl] at e1
            generalize V.toNat = vn at *
            clear hb hl hj
            go_wp2_with fail
            go_roundg (8 - (j + 1))
            case measure => have := Hj.out; omega
            case rel => exact ⟨j + 1, _, by have := Hj.out; omega, by go_num, rfl, by rw [Hl.out], rfl⟩
          | false =>
            have e2 := tst_f hb
            rw [hb, if_neg (by simp)] at e1
            generalize V.toNat = vn at *
            clear hb hl hj
            go_wp2_with fail
            go_roundg (8 - (j + 1))
            case measure => have := Hj.out; omega
            case rel => exact ⟨j + 1, _, by have := Hj.out; omega, by go_num, rfl, by rw [Hl.out], rfl⟩
        · have hji : ¬ (j : Int) < 8 := by omega
          obtain rfl : j = 8 := by omega
          clear hj
          go_wp2_with fail
          go_roundg (N - (k + 1))
          case measure => have := Hk.out; omega
          case rel => exact ⟨k + 1, _, by have := Hk.out; omega, by go_num, rfl, by rw [Hnx.out], rfl⟩
    · have hki : ¬ (k : Int) < (N : Int) := by omega
      have hkN : L.take k = L := List.take_of_length_le (by have := Hlen.out; rw [HL.out] at this; omega)
      rw [hkN] at hz
      have Hz := Lib.hid hz
      clear hk hkN hz
      go_wp2_with fail
      go_ret
      refine ⟨?_, Hf0.out⟩
      have h1 := not_u32 (crcL (BitVec.allOnes 32) L)
      rw [← Hz.out] at h1
      unfold crc
      rw [HL.out, ← h1]
      rfl
theorem xor_max (x : BitVec 32) : bits .xor .u32 4294967295 (x.toNat : Int) = ((~~~x).toNat : Int) := not_u32 x
theorem bit_at (c : UInt8) (j : Nat) (hj : j < 8) : bits .and .u32 (((c.toNat / 2 ^ j : Nat)) : Int) 1 = if c.toNat.testBit j then 1 else 0 := by
  have hc := c.toNat_lt
  have h1 : c.toNat / 2 ^ j < 2 ^ 32 := Nat.lt_of_le_of_lt (Nat.div_le_self _ _) (by omega)
  have h := bits_and1_u32 (BitVec.ofNat 32 (c.toNat / 2 ^ j))
  rw [BitVec.toNat_ofNat, Nat.mod_eq_of_lt h1] at h
  rw [h]
  have h2 : (BitVec.ofNat 32 (c.toNat / 2 ^ j)).getLsbD 0 = c.toNat.testBit j := by
    rw [BitVec.getLsbD, BitVec.toNat_ofNat, Nat.mod_eq_of_lt h1, Nat.testBit_zero, Nat.testBit_eq_decide_div_mod_eq]
  rw [h2]
end Go.Proofs.Ythmnloapjdalpaa
