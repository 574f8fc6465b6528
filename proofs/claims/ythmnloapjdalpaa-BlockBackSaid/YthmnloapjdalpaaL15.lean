/- BlockBack: the walk. -/
import Derived.Test.YthmnloapjdalpaaL14
import Derived.Test.YthmnloapjdalpaaL8
import Derived.RegionTactic
import Derived.ChangeAlike
namespace Go.Proofs.Ythmnloapjdalpaa
open Go.RowKit
set_option linter.unusedVariables false
set_option linter.unusedSimpArgs false
theorem pad_front (t : ByteArray) (h : t.size ≤ 116) : (padB t).extract 0 t.size = t := by
  unfold padB
  rw [bs_extract _ _ _ _ _ (by omega) (by omega)]
  show bs (at8 t) 0 (t.size - 0) = t
  rw [Nat.sub_zero]
  exact bs_all t
theorem pad_back (t : ByteArray) (h : t.size ≤ 116) : (padB t).extract t.size (padB t).size = zeros (116 - t.size) := by
  rw [padB_size]
  unfold padB zeros
  rw [bs_extract _ _ _ _ _ (by omega) (by omega)]
  refine bs_congr fun i hi => ?_
  rw [at8_far (by omega)]
theorem xor_bit (c : UInt8) (j : Nat) (hj : j < 8) : bits .xor .u8 (c.toNat : Int) ((2 ^ j : Nat) : Int) = ((c ^^^ UInt8.ofNat (2 ^ j)).toNat : Int) := by
  have h1 : 2 ^ j < 256 := Nat.lt_of_lt_of_le (Nat.pow_lt_pow_right (by omega) hj) (by decide)
  rw [Go.u8_xor_nat c.toNat (2 ^ j) c.toNat_lt h1, UInt8.toNat_xor, UInt8.toNat_ofNat', Nat.mod_eq_of_lt h1]
theorem bit_ne (j : Nat) (hj : j < 8) : UInt8.ofNat (2 ^ j) ≠ 0 := by
  have h : ∀ i : Fin 8, UInt8.ofNat (2 ^ i.val) ≠ 0 := by decide
  exact h ⟨j, hj⟩
theorem shl_bit (j : Nat) (hj : j < 8) : IntKind.u8.wrap (1 * 2 ^ j) = ((2 ^ j : Nat) : Int) := by
  have h : ∀ i : Fin 8, IntKind.u8.wrap (1 * 2 ^ i.val) = ((2 ^ i.val : Nat) : Int) := by decide +kernel
  exact h ⟨j, hj⟩
set_option maxRecDepth 100000 in
set_option maxHeartbeats 4000000 in
theorem back_bad (t : ByteArray) (n x : Int) (w : World) (ht : t.size ≤ maxLen) (he : bytesE t n ≠ 0) : Calls Try.prog 4 #[.string t, .int .i64 n, .int .i64 x] w fun e w' => e = .returned (.bool true) ∧ Fr [] w w' := by
  have H1 := Lib.hid (fun W => Bytes_any t n W ht)
  have H5 := Lib.hid fixed15_any
  have hbs : bytesV t n = ⟨#[]⟩ := if_neg he
  rw [hbs] at H1
  by_cases h1 : 116 < t.size
  · have h1' : (116 : Int) < (t.size : Int) := by omega
    have E1 : bytesE t n = 152 := if_pos h1
    rw [E1] at H1
    clear E1 he hbs
    go_enter Try.func4, Try.ntmps4
    go_wp2_with (first
      | (go_at_call 15; refine (H1.out _).mono ?_; rintro e w1 ⟨rfl, hf1⟩)
      | (go_at_call 19; refine (H5.out _).mono ?_; rintro e w5 ⟨rfl, hf5⟩))
    go_ret
    exact ⟨rfl, hf1.trans hf5⟩
  · have E1 : bytesE t n = 1 := by
      unfold bytesE at he ⊢
      rw [if_neg h1] at he ⊢
      split at he
      · rename_i h; rw [if_pos h]
      · exact absurd rfl he
    have h2 : n < 0 ∨ 4611686018427387904 < n := by
      unfold bytesE at he
      rw [if_neg h1] at he
      split at he
      · assumption
      · exact absurd rfl he
    rw [E1] at H1
    by_cases h3 : n < 0
    · clear E1 he hbs h2
      go_enter Try.func4, Try.ntmps4
      go_wp2_with (first
        | (go_at_call 15; refine (H1.out _).mono ?_; rintro e w1 ⟨rfl, hf1⟩)
        | (go_at_call 19; refine (H5.out _).mono ?_; rintro e w5 ⟨rfl, hf5⟩))
      go_ret
      exact ⟨rfl, hf1.trans hf5⟩
    · have h4 : 4611686018427387904 < n := by omega
      clear E1 he hbs h2
      go_enter Try.func4, Try.ntmps4
      go_wp2_with (first
        | (go_at_call 15; refine (H1.out _).mono ?_; rintro e w1 ⟨rfl, hf1⟩)
        | (go_at_call 19; refine (H5.out _).mono ?_; rintro e w5 ⟨rfl, hf5⟩))
      go_ret
      exact ⟨rfl, hf1.trans hf5⟩
set_option maxRecDepth 100000 in
set_option maxHeartbeats 4000000 in
theorem back_walk (t : ByteArray) (n x : Int) (w : World) (ht : t.size ≤ maxLen) (hx : (Lit.int .i64 x).wf = true) : Calls Try.prog 4 #[.string t, .int .i64 n, .int .i64 x] w fun e w' => e = .returned (.bool true) ∧ Fr [] w w' := by
  by_cases he : bytesE t n = 0
  · obtain ⟨h116, hn0, hn1⟩ := bytesE_ok he
    have H1 := Lib.hid (fun W => (show Calls Try.prog 15 #[.string t, .int .i64 n] W fun e w' => e = .returned (.tuple #[.string (bytesV t n), .int .i64 0]) ∧ Fr [] W w' by have := Bytes_any t n W ht; rw [he] at this; exact this))
    have hsz := bytesV_ok he
    have HP := Lib.hid (fun W => (show Calls Try.prog 17 #[.string (bytesV t n)] W fun e w' => e = .returned (.tuple #[.string (padB t), .int .i64 n, .int .i64 0]) ∧ Fr [] W w' by have := Parse_any (bytesV t n) W (by rw [hsz]; simp [maxLen]); rw [parseR_bytes he] at this; exact this))
    have H5 := Lib.hid fixed15_any
    have HN := Lib.hid (fun W => (show Calls Try.prog 20 #[.int .i64 (116 - (t.size : Int))] W fun e w' => e = .returned (.string (zeros (116 - t.size))) ∧ Fr [] W w' by
      have := noughts15_any (116 - t.size) (by omega) W
      rw [show ((116 - t.size : Nat) : Int) = 116 - (t.size : Int) by omega] at this
      exact this))
    have hps := padB_size t
    have m1 := fun wx => (sl_h (padB t) t.size (t.size : Int) rfl wx (by omega)).trans (by rw [pad_front t h116])
    have m2 := fun wx => (sl_l (padB t) t.size (t.size : Int) rfl wx (by omega)).trans (by rw [pad_back t h116])
    obtain ⟨K, eK, hK⟩ := place_nat x 960 (by omega)
    have HK := Lib.hid (fun W => (show Calls Try.prog 21 #[.int .i64 x, .int .i64 960] W fun e w' => e = .returned (.int .i64 (K : Int)) ∧ W = w' by
      have := place15_any x 960 (by omega) (by omega) (wf_le hx).1 (wf_le hx).2 W
      rw [eK] at this
      exact this))
    have HT := Lib.hid (turned_told hsz (parse_bytes he).1 (K / 8) (by omega) (UInt8.ofNat (2 ^ (K % 8))) (bit_ne _ (by omega)))
    have hw1 : IntKind.i64.wrap (116 - (t.size : Int)) = 116 - (t.size : Int) := IntWalk.i64_in _ (by omega)
    have h116' : ¬ (116 : Int) < (t.size : Int) := by omega
    have hdec : decide ((116 : Int) < (t.size : Int)) = false := by simpa using h116'
    have HKl := Lib.hid hK
    have Hsz := Lib.hid hsz
    have hsz' : (bytesV t n).size = 128 := hsz
    generalize bytesV t n = s at *
    generalize padB t = P at *
    generalize zeros (116 - t.size) = Z at *
    clear he hx eK hn0 hn1 hK hsz ht
    go_enter Try.func4, Try.ntmps4
    go_wp2_with (first
      | (go_at_call 15; refine (H1.out _).mono ?_; rintro e w1 ⟨rfl, hf1⟩)
      | (go_at_call 17; refine (HP.out _).mono ?_; rintro e w2 ⟨rfl, hf2⟩))
    go_region_held3 (fun W => True) (exact trivial) (first
      | (go_at_call 20; refine (HN.out _).mono ?_; rintro e w3 ⟨rfl, hf3⟩))
    have Hf := Lib.hid (hf1.trans (hf2.drew.trans hf3))
    have hcvt := run_bytes_of_string (P := Try.prog) w3 9 30 5 s Try.underlying9 Try.underlying30 Try.underlying5
    obtain ⟨C, hC⟩ : ∃ C, grownCap w3 s.size 0 5 = C := ⟨_, rfl⟩
    rw [hC] at hcvt
    have hwb := Wb.made w3 s C (at8 s) (fun i hi => at8_get hi)
    rw [Hsz.out] at hwb
    have Hwb := Lib.hid hwb
    have Hf4 := Lib.hid (Hf.out.alloc (.cells (bytesRow s C) 5 ((bytesRow s C).size, (bytesRow s C).size + 1)))
    clear hwb hC hf1 hf2 hf3
    go_wp2_with (first
      | (go_at_call 21; refine (HK.out _).mono ?_; rintro e w5 ⟨rfl, rfl⟩))
    have Hg3 := Lib.hid (show w.heap.size ≤ w3.heap.size from Hf.out.size)
    generalize w3.alloc (.cells (bytesRow s C) 5 ((bytesRow s C).size, (bytesRow s C).size + 1)) = w4 at *
    generalize w3.heap.size = g at *
    obtain ⟨m, hm⟩ : ∃ m, K / 8 = m := ⟨_, rfl⟩
    obtain ⟨j, hj⟩ : ∃ j, K % 8 = j := ⟨_, rfl⟩
    have hKb := HKl.out
    have hm1 : m < 120 := by omega
    have hj1 : j < 8 := by omega
    have q1 : (K : Int).tdiv 8 = (m : Int) := by rw [Int.tdiv_eq_ediv_of_nonneg (by omega)]; omega
    have q2 : (K : Int).tmod 8 = (j : Int) := by rw [Int.tmod_eq_emod_of_nonneg (by omega)]; omega
    rw [hm, hj] at HT
    have cm := Hwb.out.cell (show m < 128 by omega)
    have fm := Hwb.out.frozen (show m < 128 by omega)
    have hm0 : (0 : Int) ≤ (m : Int) := by omega
    have hwm : IntKind.i64.wrap (m : Int) = (m : Int) := IntWalk.i64_in _ (by omega)
    have hwj : IntKind.i64.wrap (j : Int) = (j : Int) := IntWalk.i64_in _ (by omega)
    have hm8 : (m : Int) < 128 := by omega
    have hj0 : (0 : Int) ≤ (j : Int) := by omega
    have hj8 : (j : Int) ≤ 8 := by omega
    have hshl := shl_bit j hj1
    have hxor := xor_bit (at8 s m) j hj1
    have Hd := Lib.hid (show at8 s m ^^^ UInt8.ofNat (2 ^ j) = at8 s m ^^^ UInt8.ofNat (2 ^ j) from rfl)
    clear hm hj hKb
    go_region
    have hp2 : (2 : Int) ^ j % 256 = ((2 ^ j : Nat) : Int) := by
      have h : ∀ i : Fin 8, (2 : Int) ^ i.val % 256 = ((2 ^ i.val : Nat) : Int) := by decide
      exact h ⟨j, hj1⟩
    rw [hp2, hxor]
    have hwb5 := (Hwb.out.set_ (o := m) (at8 s m ^^^ UInt8.ofNat (2 ^ j)))
    have hwb6 := (hwb5.fr (((Fr.refl [] _).drew).drew) (by simp))
    have hf6 := (((Hf4.out.setCell (p := ⟨g, m, none⟩) (.inr Hg3.out) (.int .u8 ((at8 s m ^^^ UInt8.ofNat (2 ^ j)).toNat : Int))).drew).drew)
    have hcv := conv_wb (o := 0) (n := 128) (cap := C) hwb6 (by omega)
    have HP2 := Lib.hid (fun W => (show Calls Try.prog 17 #[.string (bs (upd (at8 s) m (at8 s m ^^^ UInt8.ofNat (2 ^ j))) 0 128)] W fun e w' => e = .returned (.tuple #[.string ⟨#[]⟩, .int .i64 0, .int .i64 153]) ∧ Fr [] W w' by
      have := Parse_any (bs (upd (at8 s) m (at8 s m ^^^ UInt8.ofNat (2 ^ j))) 0 128) W (by rw [bs_size]; simp [maxLen])
      rw [parseR_bad HT.out (by decide)] at this
      exact this))
    have Hf6 := Lib.hid hf6
    clear hwb5 hwb6 hf6 cm fm hshl hxor hp2 HT
    generalize ((w4.setCell ⟨g, m, none⟩ (.int .u8 ((at8 s m ^^^ UInt8.ofNat (2 ^ j)).toNat : Int))).drew).drew = w6 at *
    generalize bs (upd (at8 s) m (at8 s m ^^^ UInt8.ofNat (2 ^ j))) 0 128 = S' at *
    go_wp2_with (first
      | (go_at_call 17; refine (HP2.out _).mono ?_; rintro e w7 ⟨rfl, hf7⟩)
      | (go_at_call 19; refine (H5.out _).mono ?_; rintro e w8 ⟨rfl, hf8⟩))
    go_ret
    exact ⟨rfl, Hf6.out.trans (hf7.trans hf8)⟩
  · exact back_bad t n x w ht he
end Go.Proofs.Ythmnloapjdalpaa
