/- block.of, castellanref15.value: what bytes are as a number. -/
import Derived.Test.YthmnloapjdalpaaB1
import Derived.Test.YthmnloapjdalpaaSum
import Derived.Test.YthmnloapjdalpaaRSum
import Derived.Test.YthmnloapjdalpaaL7
import Derived.Laws.Bits64b
namespace Go.Proofs.Ythmnloapjdalpaa
open Go.RowKit
set_option linter.unusedVariables false
set_option linter.unusedSimpArgs false
theorem big_lt : ∀ l : List UInt8, big l < 256 ^ l.length := by
  intro l
  suffices h : ∀ (m : List UInt8), big m.reverse < 256 ^ m.length by
    have := h l.reverse
    rwa [List.reverse_reverse, List.length_reverse] at this
  intro m
  induction m with
  | nil => decide
  | cons a m ih =>
    rw [List.reverse_cons, big_snoc, List.length_cons, Nat.pow_succ]
    have := a.toNat_lt
    omega
theorem or_low (n b : Nat) (hb : b < 256) : n * 256 ||| b = n * 256 + b := by
  have := Nat.shiftLeft_add_eq_or_of_lt (i := 8) (b := b) (by omega) n
  rw [Nat.shiftLeft_eq] at this
  exact this.symm
theorem bits_next (n b : Nat) (hn : n < 72057594037927936) (hb : b < 256) : bits .or .u64 ((n : Int) * 256) (b : Int) = ((256 * n + b : Nat) : Int) := by
  have h := bits_or_u64_nat (n * 256) b (by omega) (by omega)
  rw [or_low n b hb] at h
  rw [show ((n * 256 : Nat) : Int) = (n : Int) * 256 by omega] at h
  rw [h]
  omega
theorem big_take (l : List UInt8) (k : Nat) (hk : k < 8) (hl : k ≤ l.length) : big (l.take k) < 72057594037927936 := by
  have := big_lt (l.take k)
  rw [List.length_take] at this
  have h2 : 256 ^ (min k l.length) ≤ 256 ^ 7 := Nat.pow_le_pow_right (by omega) (by omega)
  have h3 : (256 : Nat) ^ 7 = 72057594037927936 := by decide
  omega
theorem big_take_next {l : List UInt8} {k : Nat} {c : UInt8} (h : l[k]? = some c) : big (l.take (k + 1)) = 256 * big (l.take k) + c.toNat := by rw [take_next h, big_snoc]
set_option maxRecDepth 100000 in
theorem of_any (s : ByteArray) (hs : s.size ≤ 8) (w : World) : Calls Try.prog 59 #[.string s] w fun e w' => e = .returned (.int .u64 (big s.data.toList : Int)) ∧ w = w' := by
  obtain ⟨L, hL⟩ : ∃ L, s.data.toList = L := ⟨_, rfl⟩
  have hlen : L.length = s.size := by rw [← hL]; rfl
  have Hlen := Lib.hid hlen
  have HL := Lib.hid hL
  have Hat := Lib.hid (fun k (hk : k < s.size) => (show L[k]? = some (at8 s k) by have := at8_get hk; rw [← hL]; simpa using this))
  obtain ⟨N, hN⟩ : ∃ N, s.size = N := ⟨_, rfl⟩
  have HN := Lib.hid hN
  clear hL hlen
  go_enter Try.func59, Try.ntmps59
  go_wp2_with fail
  go_loopg [3, 7] N (fun gg v i wr => ∃ k : Nat, k + gg = N ∧ i = .int .i64 (k : Int) ∧ v = .int .u64 (big (L.take k) : Int) ∧ w = wr)
  case atStart => exact ⟨0, by omega, rfl, rfl, rfl⟩
  case round =>
    obtain ⟨k, hk, rfl, rfl, rfl⟩ := hrel
    have Hk := Lib.hid hk
    by_cases hlt : k < N
    · have hlt' : (k : Int) < (N : Int) := by omega
      have hk0 : (0 : Int) ≤ (k : Int) := by omega
      have hk8 : k < 8 := by omega
      have hwi : IntKind.i64.wrap ((k : Int) + 1) = (k : Int) + 1 := IntWalk.i64_in _ (by omega)
      have hel : ∀ h, s[k]'h = at8 s k := fun h => at8_elem h
      have hnx := Lib.hid (big_take_next (Hat.out k (by rw [HN.out]; exact hlt)))
      have hbt := big_take L k hk8 (by rw [Hlen.out, HN.out]; omega)
      generalize big (L.take k) = X at *
      generalize at8 s k = c at *
      have hcl := c.toNat_lt
      have hbn := bits_next X c.toNat hbt (by omega)
      have Hnx := Lib.hid (congrArg (fun (x : Nat) => (x : Int)) hnx.out)
      clear hnx hk
      go_wp2_with fail
      go_roundg (N - (k + 1))
      case measure => have := Hk.out; omega
      case rel => exact ⟨k + 1, by have := Hk.out; omega, by go_num, by rw [Hnx.out]; go_num, rfl⟩
    · have hlt' : ¬ (k : Int) < (N : Int) := by omega
      have hkN : L.take k = L := List.take_of_length_le (by have := Hlen.out; rw [HN.out] at this; omega)
      rw [hkN]
      have HE := Lib.hid (show (big L : Int) = (big s.data.toList : Int) by rw [HL.out])
      generalize big L = X at *
      clear hkN hk
      go_wp2_with fail
      go_ret
      exact ⟨ret_int HE.out, rfl⟩
theorem u64_in (n : Int) (h0 : 0 ≤ n) (h : n < 18446744073709551616) : IntKind.u64.wrap n = n := by
  show n % 18446744073709551616 = n
  omega
set_option maxRecDepth 100000 in
theorem value_any (s : ByteArray) (hs : s.size ≤ 8) (w : World) : Calls Try.prog 60 #[.string s] w fun e w' => e = .returned (.int .u64 (big s.data.toList : Int)) ∧ w = w' := by
  obtain ⟨L, hL⟩ : ∃ L, s.data.toList = L := ⟨_, rfl⟩
  have hlen : L.length = s.size := by rw [← hL]; rfl
  have Hlen := Lib.hid hlen
  have HL := Lib.hid hL
  have Hat := Lib.hid (fun k (hk : k < s.size) => (show L[k]? = some (at8 s k) by have := at8_get hk; rw [← hL]; simpa using this))
  obtain ⟨N, hN⟩ : ∃ N, s.size = N := ⟨_, rfl⟩
  have HN := Lib.hid hN
  clear hL hlen
  go_enter Try.func60, Try.ntmps60
  go_wp2_with fail
  go_loopg [3, 4] N (fun gg v i wr => ∃ k : Nat, k + gg = N ∧ i = .int .i64 (k : Int) ∧ v = .int .u64 (big (L.take k) : Int) ∧ w = wr)
  case atStart => exact ⟨0, by omega, rfl, rfl, rfl⟩
  case round =>
    obtain ⟨k, hk, rfl, rfl, rfl⟩ := hrel
    have Hk := Lib.hid hk
    by_cases hlt : k < N
    · have hlt' : (k : Int) < (N : Int) := by omega
      have hk0 : (0 : Int) ≤ (k : Int) := by omega
      have hk8 : k < 8 := by omega
      have hwi : IntKind.i64.wrap ((k : Int) + 1) = (k : Int) + 1 := IntWalk.i64_in _ (by omega)
      have hel : ∀ h, s[k]'h = at8 s k := fun h => at8_elem h
      have hnx := Lib.hid (big_take_next (Hat.out k (by rw [HN.out]; exact hlt)))
      have hbt := big_take L k hk8 (by rw [Hlen.out, HN.out]; omega)
      generalize big (L.take k) = X at *
      generalize at8 s k = c at *
      have hcl := c.toNat_lt
      have hv1 : IntKind.u64.wrap (256 * (X : Int)) = 256 * (X : Int) := u64_in _ (by omega) (by omega)
      have hv2 : IntKind.u64.wrap (256 * (X : Int) + (c.toNat : Int)) = 256 * (X : Int) + (c.toNat : Int) := u64_in _ (by omega) (by omega)
      have Hnx := Lib.hid (congrArg (fun (x : Nat) => (x : Int)) hnx.out)
      clear hnx hk
      go_wp2_with fail
      go_roundg (N - (k + 1))
      case measure => have := Hk.out; omega
      case rel => exact ⟨k + 1, by have := Hk.out; omega, by go_num, by rw [Hnx.out]; go_num, rfl⟩
    · have hlt' : ¬ (k : Int) < (N : Int) := by omega
      have hkN : L.take k = L := List.take_of_length_le (by have := Hlen.out; rw [HN.out] at this; omega)
      rw [hkN]
      have HE := Lib.hid (show (big L : Int) = (big s.data.toList : Int) by rw [HL.out])
      generalize big L = X at *
      clear hkN hk
      go_wp2_with fail
      go_ret
      exact ⟨ret_int HE.out, rfl⟩
def stampOf (s : ByteArray) : Nat := big (s.extract 120 s.size).data.toList
def sumOf (s : ByteArray) : Nat := big (s.extract 116 120).data.toList
def parseE (s : ByteArray) : Int := if s.size ≠ 128 then 152 else if 4611686018427387904 < stampOf s ∨ sumOf s ≠ (crc (s.extract 0 116).data.toList).toNat then 153 else 0
def parseD (s : ByteArray) : ByteArray := if parseE s = 0 then s.extract 0 116 else ⟨#[]⟩
def parseN (s : ByteArray) : Nat := if parseE s = 0 then stampOf s else 0
def stampedE (s : ByteArray) : Bool := decide (stampOf s ≤ 4611686018427387904)
def stampedN (s : ByteArray) : Nat := if stampedE s then stampOf s else 0
set_option maxRecDepth 100000 in
theorem stamped_any (s : ByteArray) (hs : s.size = 128) (w : World) : Calls Try.prog 58 #[.string s] w fun e w' => e = .returned (.tuple #[.int .i64 (stampedN s : Int), .bool (stampedE s)]) ∧ w = w' := by
  have hsz : (s.extract 120 s.size).size = 8 := by rw [ByteArray.size_extract]; omega
  have hO := Lib.hid (fun W => of_any (s.extract 120 s.size) (by omega) W)
  have hsl := fun wx => sl_l s 120 (120 : Int) rfl wx (by omega)
  obtain ⟨X, hX⟩ : ∃ X, s.extract 120 s.size = X := ⟨_, rfl⟩
  have E : Hid (stampOf s = big X.data.toList) := Lib.hid (by unfold stampOf; rw [hX])
  rw [hX] at hO hsl
  generalize big X.data.toList = B at *
  by_cases h : B ≤ 4611686018427387904
  · have h1 : ¬ (4611686018427387904 : Int) < (B : Int) := by omega
    have E1 := Lib.hid (show stampedE s = true by unfold stampedE; rw [E.out]; simpa using h)
    have E2 := Lib.hid (show ((B : Nat) : Int) = (stampedN s : Int) by unfold stampedN; rw [E1.out, if_pos rfl, E.out])
    have hw : IntKind.i64.wrap (B : Int) = (B : Int) := IntWalk.i64_in _ (by omega)
    clear hsz hs h
    generalize stampedE s = q at *
    generalize stampedN s = r at *
    go_enter Try.func58, Try.ntmps58
    go_wp2_with (go_at_call 59; refine (hO.out _).mono ?_; rintro e w1 ⟨rfl, rfl⟩)
    go_ret2
    rw [E1.out, ← E2.out]
    exact ⟨rfl, rfl⟩
  · have h1 : (4611686018427387904 : Int) < (B : Int) := by omega
    have E1 := Lib.hid (show stampedE s = false by unfold stampedE; rw [E.out]; simpa using h)
    have E2 := Lib.hid (show stampedN s = 0 by unfold stampedN; rw [E1.out]; rfl)
    clear hsz hs h
    generalize stampedE s = q at *
    generalize stampedN s = r at *
    go_enter Try.func58, Try.ntmps58
    go_wp2_with (go_at_call 59; refine (hO.out _).mono ?_; rintro e w1 ⟨rfl, rfl⟩)
    go_ret2
    rw [E1.out, E2.out]
    exact ⟨rfl, rfl⟩
end Go.Proofs.Ythmnloapjdalpaa
