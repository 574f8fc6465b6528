/- The reference's Sum32. -/
import Derived.Test.YthmnloapjdalpaaSum
namespace Go.Proofs.Ythmnloapjdalpaa
open Go.RowKit
set_option linter.unusedVariables false
set_option linter.unusedSimpArgs false
set_option maxRecDepth 100000 in
set_option maxHeartbeats 1000000 in
theorem rSum_any (s : ByteArray) (w : World) (hs : s.size ≤ maxLen) : Calls Try.prog 57 #[.string s] w fun e w' => e = .returned (.int .u32 ((crc s.data.toList).toNat : Int)) ∧ w = w' := by
  obtain ⟨N, hN⟩ : ∃ N, s.size = N := ⟨_, rfl⟩
  have hlen : s.data.toList.length = N := hN
  have Hlen := Lib.hid hlen
  obtain ⟨L, hL⟩ : ∃ L, s.data.toList = L := ⟨_, rfl⟩
  have HL := Lib.hid hL
  rw [hN] at hs
  simp only [maxLen] at hs
  clear hlen hL
  go_enter Try.func57, Try.ntmps57
  go_wp2_with fail
  go_loopg [3, 4] N (fun gg x i wr => ∃ (k : Nat) (z : Int), k + gg = N ∧ i = .int .i64 k ∧ x = .int .u32 z ∧ z = ((crcL (BitVec.allOnes 32) (L.take k)).toNat : Int) ∧ w = wr)
  case atStart => exact ⟨0, _, by omega, rfl, rfl, rfl, rfl⟩
  case round =>
    obtain ⟨k, z, hk, rfl, rfl, hz, rfl⟩ := hrel
    have Hk := Lib.hid hk
    by_cases hlt : k < N
    · have hki : (k : Int) < (N : Int) := by omega
      have hk0 : (0 : Int) ≤ (k : Int) := by omega
      obtain ⟨c, hL1⟩ : ∃ c, L[k]? = some c := ⟨_, List.getElem?_eq_getElem (by have := Hlen.out; rw [HL.out] at this; omega)⟩
      have hks : k < s.size := by omega
      have c0 : s[k] = c := by
        have h2 := (List.getElem?_eq_some_iff.1 (show s.data.toList[k]? = some c by rw [HL.out]; exact hL1)).2
        have h3 : s[k] = s.data[k] := rfl
        rw [h3]
        simpa using h2
      have hnx : crcL (BitVec.allOnes 32) (L.take (k + 1)) = bitsN c 8 (crcL (BitVec.allOnes 32) (L.take k)) := by rw [take_next hL1, crcL_snoc, crcB_bits]
      have Hnx := Lib.hid hnx
      have hcl := c.toNat_lt
      generalize crcL (BitVec.allOnes 32) (L.take k) = X at *
      have hXl := X.isLt
      subst hz
      have Hbit := Lib.hid fun j (hj : j < 8) => bit_at c j hj
      clear hk hL1 hnx
      go_wp2_with fail
      go_loopg [3, 5] 8 (fun gg x i wr => ∃ (j : Nat) (z : Int), j + gg = 8 ∧ i = .int .i64 j ∧ x = .int .u32 z ∧ z = ((bitsN c j X).toNat : Int) ∧ w = wr)
      case atStart => exact ⟨0, _, by omega, rfl, rfl, rfl, rfl⟩
      case round =>
        obtain ⟨j, z, hj, rfl, rfl, hz, rfl⟩ := hrel
        have Hj := Lib.hid hj
        by_cases hlj : j < 8
        · have hji : (j : Int) < 8 := by omega
          have hj0 : (0 : Int) ≤ (j : Int) := by omega
          have hjt : ((j : Int)).toNat = j := by omega
          have hb := Hbit.out j hlj
          have h4 : ∀ D : Nat, D = 2 ^ j → bits .and .u32 ((c.toNat : Int) / (D : Int)) 1 = if c.toNat.testBit j then 1 else 0 := by
            intro D hD
            subst hD
            rw [← Int.natCast_ediv]
            exact hb
          have hl : bitsN c (j + 1) X = bitS (bitsN c j X) (c.toNat.testBit j) := rfl
          generalize bitsN c j X = V at *
          have e1 := bits_and1_u32 V
          have e2 := bits_xor_u32 (V >>> 1) 0xEDB88320#32
          rw [← shr_u32] at e2
          have e3 := shr_u32 V
          unfold bitS at hl
          have Hl := Lib.hid hl
          have He3 := Lib.hid e3
          have hVl := V.isLt
          subst hz
          generalize c.toNat.testBit j = tb at *
          clear hl e3 hj hb hjt
          have hcs : j = 0 ∨ j = 1 ∨ j = 2 ∨ j = 3 ∨ j = 4 ∨ j = 5 ∨ j = 6 ∨ j = 7 := by omega
          cases hv : V.getLsbD 0 <;> cases tb
          all_goals
            rw [hv] at e1
            simp only [Bool.false_eq_true, if_true, if_false, hv, bne_self_eq_false] at e1 h4 Hl
            clear hv
            rcases hcs with rfl | rfl | rfl | rfl | rfl | rfl | rfl | rfl
          all_goals
            have e4 := h4 _ rfl
            simp at e4
            clear h4
            go_wp2_with fail
            first
              | (go_roundg 7
                 case measure => have := Hj.out; omega
                 case rel => exact ⟨1, _, by omega, by go_num, rfl, by have h := Hl.out; simp only [Nat.zero_add, Nat.reduceAdd] at h; rw [h]; first | exact e2 | exact He3.out, rfl⟩)
              | (go_roundg 6
                 case measure => have := Hj.out; omega
                 case rel => exact ⟨2, _, by omega, by go_num, rfl, by have h := Hl.out; simp only [Nat.zero_add, Nat.reduceAdd] at h; rw [h]; first | exact e2 | exact He3.out, rfl⟩)
              | (go_roundg 5
                 case measure => have := Hj.out; omega
                 case rel => exact ⟨3, _, by omega, by go_num, rfl, by have h := Hl.out; simp only [Nat.zero_add, Nat.reduceAdd] at h; rw [h]; first | exact e2 | exact He3.out, rfl⟩)
              | (go_roundg 4
                 case measure => have := Hj.out; omega
                 case rel => exact ⟨4, _, by omega, by go_num, rfl, by have h := Hl.out; simp only [Nat.zero_add, Nat.reduceAdd] at h; rw [h]; first | exact e2 | exact He3.out, rfl⟩)
              | (go_roundg 3
                 case measure => have := Hj.out; omega
                 case rel => exact ⟨5, _, by omega, by go_num, rfl, by have h := Hl.out; simp only [Nat.zero_add, Nat.reduceAdd] at h; rw [h]; first | exact e2 | exact He3.out, rfl⟩)
              | (go_roundg 2
                 case measure => have := Hj.out; omega
                 case rel => exact ⟨6, _, by omega, by go_num, rfl, by have h := Hl.out; simp only [Nat.zero_add, Nat.reduceAdd] at h; rw [h]; first | exact e2 | exact He3.out, rfl⟩)
              | (go_roundg 1
                 case measure => have := Hj.out; omega
                 case rel => exact ⟨7, _, by omega, by go_num, rfl, by have h := Hl.out; simp only [Nat.zero_add, Nat.reduceAdd] at h; rw [h]; first | exact e2 | exact He3.out, rfl⟩)
              | (go_roundg 0
                 case measure => have := Hj.out; omega
                 case rel => exact ⟨8, _, by omega, by go_num, rfl, by have h := Hl.out; simp only [Nat.zero_add, Nat.reduceAdd] at h; rw [h]; first | exact e2 | exact He3.out, rfl⟩)
        · have hji : ¬ (j : Int) < 8 := by omega
          obtain rfl : j = 8 := by omega
          clear hj
          go_wp2_with fail
          go_roundg (N - (k + 1))
          case measure => have := Hk.out; omega
          case rel => exact ⟨k + 1, _, by have := Hk.out; omega, by go_num, rfl, by rw [Hnx.out], rfl⟩
    · have hki : ¬ (k : Int) < (N : Int) := by omega
      have hkN : L.take k = L := List.take_of_length_le (by have := Hlen.out; rw [HL.out] at this; omega)
      rw [hkN] at hz
      have Hz := Lib.hid hz
      clear hk hkN hz
      go_wp2_with fail
      go_ret
      refine ⟨?_, rfl⟩
      have h1 := xor_max (crcL (BitVec.allOnes 32) L)
      rw [← Hz.out] at h1
      unfold crc
      rw [HL.out, ← h1]
      rfl
end Go.Proofs.Ythmnloapjdalpaa
