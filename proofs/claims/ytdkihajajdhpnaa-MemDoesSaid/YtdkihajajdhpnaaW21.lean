/- The reference's word, Load, Store. -/
import Derived.Test.YtdkihajajdhpnaaW20
namespace Go.Proofs.Ytdkihajajdhpnaa
open Go.RowKit
set_option linter.unusedVariables false
set_option linter.unusedSimpArgs false
theorem bits_255 (x : Int) : bits .and .i64 x 255 = x % 256 := by
  show IntKind.i64.wrap (((BitVec.ofInt 64 x &&& BitVec.ofInt 64 255).toNat : Nat) : Int) = _
  have h1 : (BitVec.ofInt 64 x &&& BitVec.ofInt 64 255).toNat = (x % 256).toNat := by
    rw [BitVec.toNat_and, BitVec.toNat_ofInt, show (BitVec.ofInt 64 255).toNat = 2 ^ 8 - 1 from rfl, Nat.and_two_pow_sub_one_eq_mod]
    omega
  rw [h1]
  have h2 : 0 ≤ x % 256 := Int.emod_nonneg _ (by omega)
  have h3 : x % 256 < 256 := Int.emod_lt_of_pos _ (by omega)
  rw [Int.toNat_of_nonneg h2]
  exact IntWalk.i64_in _ (by omega)
theorem word_any (k : Int) (w : World) : Calls Try.prog 45 #[.int .i64 k] w fun e w' => e = .returned (.bool (decide (k = 1 ∨ k = 2 ∨ k = 4))) ∧ w = w' := by
  by_cases h1 : k = 1
  · subst h1
    go_enter Try.func45, Try.ntmps45
    go_wp2
    go_ret
    exact ⟨rfl, rfl⟩
  · have b1 : (k == 1) = false := by rw [beq_eq_false_iff_ne]; exact h1
    by_cases h2 : k = 2
    · subst h2
      go_enter Try.func45, Try.ntmps45
      go_wp2
      go_ret
      exact ⟨rfl, rfl⟩
    · have b2 : (k == 2) = false := by rw [beq_eq_false_iff_ne]; exact h2
      by_cases h4 : k = 4
      · subst h4
        go_enter Try.func45, Try.ntmps45
        go_wp2
        go_ret
        exact ⟨rfl, rfl⟩
      · have b4 : (k == 4) = false := by rw [beq_eq_false_iff_ne]; exact h4
        have e : decide (k = 1 ∨ k = 2 ∨ k = 4) = false := by rw [decide_eq_false_iff_not]; omega
        rw [e]
        clear e h1 h2 h4
        go_enter Try.func45, Try.ntmps45
        go_wp2
        go_ret
        exact ⟨rfl, rfl⟩
theorem word_yes {k : Int} (h : k = 1 ∨ k = 2 ∨ k = 4) (w : World) : Calls Try.prog 45 #[.int .i64 k] w fun e w' => e = .returned (.bool true) ∧ w = w' :=
  (word_any k w).mono fun e w' ⟨he, hw⟩ => ⟨by rw [he, decide_eq_true h], hw⟩
theorem word_no {k : Int} (h : ¬ (k = 1 ∨ k = 2 ∨ k = 4)) (w : World) : Calls Try.prog 45 #[.int .i64 k] w fun e w' => e = .returned (.bool false) ∧ w = w' :=
  (word_any k w).mono fun e w' ⟨he, hw⟩ => ⟨by rw [he, decide_eq_false h], hw⟩
set_option maxRecDepth 100000 in
set_option maxHeartbeats 400000 in
theorem rLoad_no (b q G m cap : Nat) (st : St) (A : Option Addr) (t : List Pg) (a k r : Int) (w : World) (ht : Tb w b (.slice A m cap) t) (h : RMem w q G st) (hT : okT st.n t = false) :
    Calls Try.prog 38 #[ptr q, .slice A m cap, .int .i64 a, .int .i64 k, .int .i64 r] w fun e w' => e = .returned (.tuple #[.int .i64 0, .int .i64 84]) ∧ Fr [] w w' := by
  have Hc := Lib.hid (rCheck_no b q G st.n m cap A t w ht h.hd hT)
  clear h ht hT
  go_enter Try.func38, Try.ntmps38
  go_wp2_with (go_at_call 24; go_must ((with_reducible refine Hc.out.mono ?_); rintro e w1 ⟨rfl, hf1⟩))
  go_ret2
  exact ⟨rfl, hf1⟩
set_option maxRecDepth 100000 in
set_option maxHeartbeats 400000 in
theorem rLoad_size (b q G m cap : Nat) (st : St) (A : Option Addr) (t : List Pg) (a k r : Int) (w : World) (ht : Tb w b (.slice A m cap) t) (h : RMem w q G st) (hT : okT st.n t = true) (hk : ¬ (k = 1 ∨ k = 2 ∨ k = 4)) :
    Calls Try.prog 38 #[ptr q, .slice A m cap, .int .i64 a, .int .i64 k, .int .i64 r] w fun e w' => e = .returned (.tuple #[.int .i64 0, .int .i64 80]) ∧ Fr [] w w' := by
  have Hc := Lib.hid (rCheck_ok b q G st.n m cap A t w ht h.hd hT)
  have Hw := Lib.hid fun W => word_no hk W
  clear h ht hT hk
  go_enter Try.func38, Try.ntmps38
  go_wp2_with (first
    | (go_at_call 24; go_must ((with_reducible refine Hc.out.mono ?_); rintro e w1 ⟨rfl, hf1⟩))
    | (go_at_call 45; go_must ((with_reducible refine (Hw.out _).mono ?_); rintro e w2 ⟨rfl, rfl⟩))
    | fail)
  go_ret2
  exact ⟨rfl, hf1⟩
set_option maxRecDepth 100000 in
set_option maxHeartbeats 1000000 in
theorem rLoad_main (b q G m cap : Nat) (st : St) (A : Option Addr) (t : List Pg) (a k r : Int) (w : World) (ht : Tb w b (.slice A m cap) t) (h : RMem w q G st) (hT : okT st.n t = true) (hk : k = 1 ∨ k = 2 ∨ k = 4) (ha : a ≤ 9223372036854775807) (l : List UInt8) (er : Int) (hrd : rdR st t a k r = (l, er)) (hl : l.length ≤ 4) :
    Calls Try.prog 38 #[ptr q, .slice A m cap, .int .i64 a, .int .i64 k, .int .i64 r] w fun e w' => e = .returned (.tuple #[.int .i64 (word l : Nat), .int .i64 er]) ∧ Fr [] w w' := by
  have Hc := Lib.hid (rCheck_ok b q G st.n m cap A t w ht h.hd hT)
  have Hw := Lib.hid fun W => word_yes hk W
  have Hr : Hid (∀ W, Fr [] w W → Calls Try.prog 36 #[ptr q, .slice A m cap, .int .i64 a, .int .i64 k, .int .i64 r] W fun e w' => e = .returned (.tuple #[.string ⟨l.toArray⟩, .int .i64 er]) ∧ Fr [] W w') :=
    Lib.hid fun W hf => (rRead_any b q G m cap st A t a k r W (ht.fr hf (by simp)) (h.to hf (by simp) (by simp)) ha).mono fun e w' ⟨he, hf⟩ => ⟨by rw [he, hrd], hf⟩
  obtain ⟨SR, hSR⟩ : ∃ SR : ByteArray, SR = ⟨l.toArray⟩ := ⟨_, rfl⟩
  rw [← hSR] at Hr
  have hSl : SR.data.toList = l := by rw [hSR]
  obtain ⟨N, hN⟩ : ∃ N, SR.size = N := ⟨_, rfl⟩
  have hlN : l.length = N := by rw [← hN, ← hSl]; rfl
  rw [hlN] at hl
  have HSl := Lib.hid hSl
  have HlN := Lib.hid hlN
  clear h ht hT hk hrd hSR hSl hlN
  go_enter Try.func38, Try.ntmps38
  go_wp2_with (first
    | (go_at_call 24; go_must ((with_reducible refine Hc.out.mono ?_); rintro e w1 ⟨rfl, hf1⟩))
    | (go_at_call 45; go_must ((with_reducible refine (Hw.out _).mono ?_); rintro e w2 ⟨rfl, rfl⟩))
    | (go_at_call 36; go_must ((with_reducible refine (Hr.out _ hf1).mono ?_); rintro e w3 ⟨rfl, hf3⟩))
    | fail)
  have HF3 := Lib.hid (hf1.trans hf3)
  clear hf1 hf3
  go_loopg [14, 15] N (fun gg x i wq => ∃ j : Nat, j + gg = N ∧ i = .int .i64 j ∧ x = .int .i64 (word (l.take j) : Nat) ∧ wq = w3)
  case atStart => exact ⟨0, by omega, rfl, rfl, rfl⟩
  case round =>
    obtain ⟨j, hj, rfl, rfl, rfl⟩ := hrel
    have Hj := Lib.hid hj
    by_cases hlt : j < N
    · obtain ⟨c, hc⟩ : ∃ c, l[j]? = some c := ⟨_, List.getElem?_eq_getElem (by have := HlN.out; omega)⟩
      have hjs : j < SR.size := by omega
      have c0 : SR[j] = c := by
        have h2 := (List.getElem?_eq_some_iff.1 (show SR.data.toList[j]? = some c by rw [HSl.out]; exact hc)).2
        have h3 : SR[j] = SR.data[j] := rfl
        rw [h3]
        simpa using h2
      have hcl := c.toNat_lt
      have hw := word_lt (l.take j)
      have hlen : (l.take j).length ≤ 3 := by rw [List.length_take]; omega
      have hw2 : word (l.take j) < 16777216 := Nat.lt_of_lt_of_le hw (Nat.pow_le_pow_right (by omega) hlen)
      have hsn : word (l.take (j + 1)) = 256 * word (l.take j) + c.toNat := by rw [List.take_add_one, hc]; exact word_snoc _ _
      have Hsn := Lib.hid hsn
      have hki : (j : Int) < (N : Int) := by omega
      have hj0 : (0 : Int) ≤ (j : Int) := by omega
      clear hw hlen hsn hc hj
      generalize word (l.take j) = X at *
      generalize hY : c.toNat = Y at *
      have HY := Lib.hid hY
      go_wp2
      go_roundg (N - (j + 1))
      case measure => have := Hj.out; omega
      case rel => refine ⟨j + 1, by have := Hj.out; omega, by go_num, by rw [Hsn.out]; go_num, rfl⟩
    · have hjN : j = N := by omega
      have hki : ¬ (j : Int) < (N : Int) := by omega
      have hw : word (l.take j) = word l := by rw [hjN, ← HlN.out, List.take_length]
      have Hw2 := Lib.hid hw
      clear hw hj hjN
      go_wp2
      go_ret2
      exact ⟨ret_tup (by rw [Hw2.out]), HF3.out⟩
theorem rLoad_any (b q G m cap : Nat) (st : St) (A : Option Addr) (t : List Pg) (a k r : Int) (w : World) (ht : Tb w b (.slice A m cap) t) (h : RMem w q G st) (ha : a ≤ 9223372036854775807) :
    Calls Try.prog 38 #[ptr q, .slice A m cap, .int .i64 a, .int .i64 k, .int .i64 r] w fun e w' => e = .returned (.tuple #[.int .i64 (ldR st t a k r).1, .int .i64 (ldR st t a k r).2]) ∧ Fr [] w w' := by
  cases hT : okT st.n t with
  | false =>
    have e0 : ldR st t a k r = (0, 84) := by unfold ldR; rw [if_pos hT]
    rw [e0]
    exact rLoad_no b q G m cap st A t a k r w ht h hT
  | true =>
    by_cases hk : k = 1 ∨ k = 2 ∨ k = 4
    · have e0 : ldR st t a k r = (((word (rdR st t a k r).1 : Nat) : Int), (rdR st t a k r).2) := by unfold ldR; rw [if_neg (by rw [hT]; simp), if_neg (by omega)]
      rw [e0]
      exact rLoad_main b q G m cap st A t a k r w ht h hT hk ha _ _ rfl (rdR_len hk)
    · have e0 : ldR st t a k r = (0, 80) := by unfold ldR; rw [if_neg (by rw [hT]; simp), if_pos (by omega)]
      rw [e0]
      exact rLoad_size b q G m cap st A t a k r w ht h hT hk
def RStoreP (w : World) (q G : Nat) (st : St) (t : List Pg) (a k n : Int) (e : Ending) (w' : World) : Prop :=
  e = .returned (.int .i64 (stE st t a k n)) ∧ RMem w' q G (stS st t a k n) ∧ Fr [G] w w'
set_option maxRecDepth 100000 in
set_option maxHeartbeats 400000 in
theorem rStore_no (b q G m cap : Nat) (st : St) (A : Option Addr) (t : List Pg) (a k n : Int) (w : World) (ht : Tb w b (.slice A m cap) t) (h : RMem w q G st) (hT : okT st.n t = false) :
    Calls Try.prog 39 #[ptr q, .slice A m cap, .int .i64 a, .int .i64 k, .int .i64 n] w fun e w' => e = .returned (.int .i64 84) ∧ Fr [] w w' := by
  have Hc := Lib.hid (rCheck_no b q G st.n m cap A t w ht h.hd hT)
  clear h ht hT
  go_enter Try.func39, Try.ntmps39
  go_wp2_with (go_at_call 24; go_must ((with_reducible refine Hc.out.mono ?_); rintro e w1 ⟨rfl, hf1⟩))
  go_ret
  exact ⟨rfl, hf1⟩
set_option maxRecDepth 100000 in
set_option maxHeartbeats 400000 in
theorem rStore_size (b q G m cap : Nat) (st : St) (A : Option Addr) (t : List Pg) (a k n : Int) (w : World) (ht : Tb w b (.slice A m cap) t) (h : RMem w q G st) (hT : okT st.n t = true) (hk : ¬ (k = 1 ∨ k = 2 ∨ k = 4)) :
    Calls Try.prog 39 #[ptr q, .slice A m cap, .int .i64 a, .int .i64 k, .int .i64 n] w fun e w' => e = .returned (.int .i64 80) ∧ Fr [] w w' := by
  have Hc := Lib.hid (rCheck_ok b q G st.n m cap A t w ht h.hd hT)
  have Hw := Lib.hid fun W => word_no hk W
  clear h ht hT hk
  go_enter Try.func39, Try.ntmps39
  go_wp2_with (first
    | (go_at_call 24; go_must ((with_reducible refine Hc.out.mono ?_); rintro e w1 ⟨rfl, hf1⟩))
    | (go_at_call 45; go_must ((with_reducible refine (Hw.out _).mono ?_); rintro e w2 ⟨rfl, rfl⟩))
    | fail)
  go_ret
  exact ⟨rfl, hf1⟩
set_option maxRecDepth 100000 in
set_option maxHeartbeats 2000000 in
theorem rStore_1 (b q G m cap : Nat) (st : St) (A : Option Addr) (t : List Pg) (a nn : Int) (w : World) (ht : Tb w b (.slice A m cap) t) (h : RMem w q G st) (hT : okT st.n t = true) (ha : a ≤ 9223372036854775807) (hbG : b ≠ G) :
    Calls Try.prog 39 #[ptr q, .slice A m cap, .int .i64 a, .int .i64 1, .int .i64 nn] w (RWriteP w q G st t a (wordS nn 1)) := by
  obtain ⟨i0, hi0, hz0, hz1, hz2⟩ := info3 Try.info5
  have Hc := Lib.hid (rCheck_ok b q G st.n m cap A t w ht h.hd hT)
  have Hw := Lib.hid fun W => word_yes (k := 1) (by omega) W
  have HW := Lib.hid fun W (hf : Fr [] w W) => rWrite_any b q G m cap st A t a (wordS nn 1) W (ht.fr hf (by simp)) (h.to hf (by simp) (by simp)) ha hbG
  have hb16777216 : bits .and .i64 (nn / 16777216) 255 % 256 = ((byt nn 16777216).toNat : Int) := by rw [bits_255, byt_val, Int.emod_emod_of_dvd _ (by omega)]
  have hb65536 : bits .and .i64 (nn / 65536) 255 % 256 = ((byt nn 65536).toNat : Int) := by rw [bits_255, byt_val, Int.emod_emod_of_dvd _ (by omega)]
  have hb256 : bits .and .i64 (nn / 256) 255 % 256 = ((byt nn 256).toNat : Int) := by rw [bits_255, byt_val, Int.emod_emod_of_dvd _ (by omega)]
  have hb1 : bits .and .i64 (nn) 255 % 256 = ((byt nn 1).toNat : Int) := by rw [bits_255, byt_val, Int.ediv_one, Int.emod_emod_of_dvd _ (by omega)]
  clear h ht hT
  go_enter Try.func39, Try.ntmps39
  go_wp2_with (first
    | (go_at_call 24; go_must ((with_reducible refine Hc.out.mono ?_); rintro e w1 ⟨rfl, hf1⟩))
    | (go_at_call 45; go_must ((with_reducible refine (Hw.out _).mono ?_); rintro e w2 ⟨rfl, rfl⟩))
    | fail)
  have HF1 := Lib.hid hf1
  have Hm0 := Lib.hid (World.ownsRow_made (base := w1.heap.size) (e := 5) (size := 1) w1 #[] 0 (Nat.le_refl _) (by simp [maxLen]) (by simp))
  have Hf0 := Lib.hid ((Fr.refl [] w1).alloc (.cells #[] 5))
  clear hf1
  go_loopg [12, 13] 1 (fun gg x i wr => ∃ (m1 : Nat) (z : Int) (B : Option Addr) (c : Nat), m1 + gg = 1 ∧ z = (gg : Int) - 1 ∧ i = .int .i64 z ∧ x = .slice B m1 c ∧ wr.ownsRow w1.heap.size 5 1 (.slice B m1 c) m1 (((wordB nn 1).take m1).map bv) ∧ Fr [] w1 wr)
  case atStart => exact ⟨0, _, _, _, by omega, by omega, rfl, rfl, Hm0.out, Hf0.out⟩
  case round =>
    obtain ⟨m1, z, B, c, hm1, hz, rfl, rfl, ho, hf⟩ := hrel
    have HF := Lib.hid hf
    have hcs : (m1 = 1 ∧ z = -1) ∨ (m1 = 0 ∧ z = 0) := by omega
    clear hz
    rcases hcs with ⟨rfl, rfl⟩ | ⟨rfl, rfl⟩
    · have hcv := own_bytes (xs := (wordB nn 1).take 1) ho
      have hwl : (⟨((wordB nn 1).take 1).toArray⟩ : ByteArray) = wordS nn 1 := by
        rw [List.take_of_length_le (by simp [wordB])]
        rfl
      rw [hwl] at hcv
      have HW2 := Lib.hid (HW.out wr (HF1.out.trans hf))
      clear hwl ho hf
      generalize wordS nn 1 = WS at *
      go_wp2_with fail
      refine HW2.out.mono ?_
      rintro e w3 ⟨rfl, hm3, hf3⟩
      go_wp2_with fail
      go_ret
      exact ⟨rfl, hm3, ((HF1.out.trans HF.out).mono (by simp)).trans hf3⟩
    · have HX := Lib.hid (ho.alloc (.cells #[.int .u8 ((byt nn 1).toNat : Int)] 5))
      have hbk : (wr.alloc (.cells #[.int .u8 ((byt nn 1).toNat : Int)] 5)).cell? ⟨wr.heap.size, 0, none⟩ = some (.int .u8 ((byt nn 1).toNat : Int)) := (Blk.new wr 5 _).cell 0
      have hfa := hf.alloc (.cells #[.int .u8 ((byt nn 1).toNat : Int)] 5)
      have hzz := hf.size
      clear ho hf
      go_wp2_with (at_builtin; go_must (refine wpList_append_own _ rfl (.tmp 30) (.tmp 37) 42 rfl w1.heap.size 5 i0 (.int .u8 0) 1 1 Try.underlying42 hi0 hz0 hz1 hz2 rfl (by decide) _ 0 _ rfl HX.out ⟨wr.heap.size, 0, none⟩ 1 1 [.int .u8 ((byt nn 1).toNat : Int)] rfl rfl (news1 hbk) (by simp [Value.oneCell']) (by simp [maxLen]) (by omega) (by simp; omega) ?_; intro x1 W1 ho1 hg1 _; obtain ⟨A1, c1, rfl⟩ := own_shape ho1; have hff1 := hfa.own HX.out hg1))
      go_roundg 0
      case measure => omega
      case rel => exact ⟨1, _, A1, c1, by omega, by omega, rfl, by simp, by simpa [wordB, bv] using ho1, hff1⟩
set_option maxRecDepth 100000 in
set_option maxHeartbeats 2000000 in
theorem rStore_2 (b q G m cap : Nat) (st : St) (A : Option Addr) (t : List Pg) (a nn : Int) (w : World) (ht : Tb w b (.slice A m cap) t) (h : RMem w q G st) (hT : okT st.n t = true) (ha : a ≤ 9223372036854775807) (hbG : b ≠ G) :
    Calls Try.prog 39 #[ptr q, .slice A m cap, .int .i64 a, .int .i64 2, .int .i64 nn] w (RWriteP w q G st t a (wordS nn 2)) := by
  obtain ⟨i0, hi0, hz0, hz1, hz2⟩ := info3 Try.info5
  have Hc := Lib.hid (rCheck_ok b q G st.n m cap A t w ht h.hd hT)
  have Hw := Lib.hid fun W => word_yes (k := 2) (by omega) W
  have HW := Lib.hid fun W (hf : Fr [] w W) => rWrite_any b q G m cap st A t a (wordS nn 2) W (ht.fr hf (by simp)) (h.to hf (by simp) (by simp)) ha hbG
  have hb16777216 : bits .and .i64 (nn / 16777216) 255 % 256 = ((byt nn 16777216).toNat : Int) := by rw [bits_255, byt_val, Int.emod_emod_of_dvd _ (by omega)]
  have hb65536 : bits .and .i64 (nn / 65536) 255 % 256 = ((byt nn 65536).toNat : Int) := by rw [bits_255, byt_val, Int.emod_emod_of_dvd _ (by omega)]
  have hb256 : bits .and .i64 (nn / 256) 255 % 256 = ((byt nn 256).toNat : Int) := by rw [bits_255, byt_val, Int.emod_emod_of_dvd _ (by omega)]
  have hb1 : bits .and .i64 (nn) 255 % 256 = ((byt nn 1).toNat : Int) := by rw [bits_255, byt_val, Int.ediv_one, Int.emod_emod_of_dvd _ (by omega)]
  clear h ht hT
  go_enter Try.func39, Try.ntmps39
  go_wp2_with (first
    | (go_at_call 24; go_must ((with_reducible refine Hc.out.mono ?_); rintro e w1 ⟨rfl, hf1⟩))
    | (go_at_call 45; go_must ((with_reducible refine (Hw.out _).mono ?_); rintro e w2 ⟨rfl, rfl⟩))
    | fail)
  have HF1 := Lib.hid hf1
  have Hm0 := Lib.hid (World.ownsRow_made (base := w1.heap.size) (e := 5) (size := 1) w1 #[] 0 (Nat.le_refl _) (by simp [maxLen]) (by simp))
  have Hf0 := Lib.hid ((Fr.refl [] w1).alloc (.cells #[] 5))
  clear hf1
  go_loopg [12, 13] 2 (fun gg x i wr => ∃ (m1 : Nat) (z : Int) (B : Option Addr) (c : Nat), m1 + gg = 2 ∧ z = (gg : Int) - 1 ∧ i = .int .i64 z ∧ x = .slice B m1 c ∧ wr.ownsRow w1.heap.size 5 1 (.slice B m1 c) m1 (((wordB nn 2).take m1).map bv) ∧ Fr [] w1 wr)
  case atStart => exact ⟨0, _, _, _, by omega, by omega, rfl, rfl, Hm0.out, Hf0.out⟩
  case round =>
    obtain ⟨m1, z, B, c, hm1, hz, rfl, rfl, ho, hf⟩ := hrel
    have HF := Lib.hid hf
    have hcs : (m1 = 2 ∧ z = -1) ∨ (m1 = 1 ∧ z = 0) ∨ (m1 = 0 ∧ z = 1) := by omega
    clear hz
    rcases hcs with ⟨rfl, rfl⟩ | ⟨rfl, rfl⟩ | ⟨rfl, rfl⟩
    · have hcv := own_bytes (xs := (wordB nn 2).take 2) ho
      have hwl : (⟨((wordB nn 2).take 2).toArray⟩ : ByteArray) = wordS nn 2 := by
        rw [List.take_of_length_le (by simp [wordB])]
        rfl
      rw [hwl] at hcv
      have HW2 := Lib.hid (HW.out wr (HF1.out.trans hf))
      clear hwl ho hf
      generalize wordS nn 2 = WS at *
      go_wp2_with fail
      refine HW2.out.mono ?_
      rintro e w3 ⟨rfl, hm3, hf3⟩
      go_wp2_with fail
      go_ret
      exact ⟨rfl, hm3, ((HF1.out.trans HF.out).mono (by simp)).trans hf3⟩
    · have HX := Lib.hid (ho.alloc (.cells #[.int .u8 ((byt nn 1).toNat : Int)] 5))
      have hbk : (wr.alloc (.cells #[.int .u8 ((byt nn 1).toNat : Int)] 5)).cell? ⟨wr.heap.size, 0, none⟩ = some (.int .u8 ((byt nn 1).toNat : Int)) := (Blk.new wr 5 _).cell 0
      have hfa := hf.alloc (.cells #[.int .u8 ((byt nn 1).toNat : Int)] 5)
      have hzz := hf.size
      clear ho hf
      go_wp2_with (at_builtin; go_must (refine wpList_append_own _ rfl (.tmp 30) (.tmp 37) 42 rfl w1.heap.size 5 i0 (.int .u8 0) 1 1 Try.underlying42 hi0 hz0 hz1 hz2 rfl (by decide) _ 1 _ rfl HX.out ⟨wr.heap.size, 0, none⟩ 1 1 [.int .u8 ((byt nn 1).toNat : Int)] rfl rfl (news1 hbk) (by simp [Value.oneCell']) (by simp [maxLen]) (by omega) (by simp; omega) ?_; intro x1 W1 ho1 hg1 _; obtain ⟨A1, c1, rfl⟩ := own_shape ho1; have hff1 := hfa.own HX.out hg1))
      go_roundg 0
      case measure => omega
      case rel => exact ⟨2, _, A1, c1, by omega, by omega, rfl, by simp, by simpa [wordB, bv] using ho1, hff1⟩
    · have HX := Lib.hid (ho.alloc (.cells #[.int .u8 ((byt nn 256).toNat : Int)] 5))
      have hbk : (wr.alloc (.cells #[.int .u8 ((byt nn 256).toNat : Int)] 5)).cell? ⟨wr.heap.size, 0, none⟩ = some (.int .u8 ((byt nn 256).toNat : Int)) := (Blk.new wr 5 _).cell 0
      have hfa := hf.alloc (.cells #[.int .u8 ((byt nn 256).toNat : Int)] 5)
      have hzz := hf.size
      clear ho hf
      go_wp2_with (at_builtin; go_must (refine wpList_append_own _ rfl (.tmp 30) (.tmp 37) 42 rfl w1.heap.size 5 i0 (.int .u8 0) 1 1 Try.underlying42 hi0 hz0 hz1 hz2 rfl (by decide) _ 0 _ rfl HX.out ⟨wr.heap.size, 0, none⟩ 1 1 [.int .u8 ((byt nn 256).toNat : Int)] rfl rfl (news1 hbk) (by simp [Value.oneCell']) (by simp [maxLen]) (by omega) (by simp; omega) ?_; intro x1 W1 ho1 hg1 _; obtain ⟨A1, c1, rfl⟩ := own_shape ho1; have hff1 := hfa.own HX.out hg1))
      go_roundg 1
      case measure => omega
      case rel => exact ⟨1, _, A1, c1, by omega, by omega, rfl, by simp, by simpa [wordB, bv] using ho1, hff1⟩
set_option maxRecDepth 100000 in
set_option maxHeartbeats 2000000 in
theorem rStore_4 (b q G m cap : Nat) (st : St) (A : Option Addr) (t : List Pg) (a nn : Int) (w : World) (ht : Tb w b (.slice A m cap) t) (h : RMem w q G st) (hT : okT st.n t = true) (ha : a ≤ 9223372036854775807) (hbG : b ≠ G) :
    Calls Try.prog 39 #[ptr q, .slice A m cap, .int .i64 a, .int .i64 4, .int .i64 nn] w (RWriteP w q G st t a (wordS nn 4)) := by
  obtain ⟨i0, hi0, hz0, hz1, hz2⟩ := info3 Try.info5
  have Hc := Lib.hid (rCheck_ok b q G st.n m cap A t w ht h.hd hT)
  have Hw := Lib.hid fun W => word_yes (k := 4) (by omega) W
  have HW := Lib.hid fun W (hf : Fr [] w W) => rWrite_any b q G m cap st A t a (wordS nn 4) W (ht.fr hf (by simp)) (h.to hf (by simp) (by simp)) ha hbG
  have hb16777216 : bits .and .i64 (nn / 16777216) 255 % 256 = ((byt nn 16777216).toNat : Int) := by rw [bits_255, byt_val, Int.emod_emod_of_dvd _ (by omega)]
  have hb65536 : bits .and .i64 (nn / 65536) 255 % 256 = ((byt nn 65536).toNat : Int) := by rw [bits_255, byt_val, Int.emod_emod_of_dvd _ (by omega)]
  have hb256 : bits .and .i64 (nn / 256) 255 % 256 = ((byt nn 256).toNat : Int) := by rw [bits_255, byt_val, Int.emod_emod_of_dvd _ (by omega)]
  have hb1 : bits .and .i64 (nn) 255 % 256 = ((byt nn 1).toNat : Int) := by rw [bits_255, byt_val, Int.ediv_one, Int.emod_emod_of_dvd _ (by omega)]
  clear h ht hT
  go_enter Try.func39, Try.ntmps39
  go_wp2_with (first
    | (go_at_call 24; go_must ((with_reducible refine Hc.out.mono ?_); rintro e w1 ⟨rfl, hf1⟩))
    | (go_at_call 45; go_must ((with_reducible refine (Hw.out _).mono ?_); rintro e w2 ⟨rfl, rfl⟩))
    | fail)
  have HF1 := Lib.hid hf1
  have Hm0 := Lib.hid (World.ownsRow_made (base := w1.heap.size) (e := 5) (size := 1) w1 #[] 0 (Nat.le_refl _) (by simp [maxLen]) (by simp))
  have Hf0 := Lib.hid ((Fr.refl [] w1).alloc (.cells #[] 5))
  clear hf1
  go_loopg [12, 13] 4 (fun gg x i wr => ∃ (m1 : Nat) (z : Int) (B : Option Addr) (c : Nat), m1 + gg = 4 ∧ z = (gg : Int) - 1 ∧ i = .int .i64 z ∧ x = .slice B m1 c ∧ wr.ownsRow w1.heap.size 5 1 (.slice B m1 c) m1 (((wordB nn 4).take m1).map bv) ∧ Fr [] w1 wr)
  case atStart => exact ⟨0, _, _, _, by omega, by omega, rfl, rfl, Hm0.out, Hf0.out⟩
  case round =>
    obtain ⟨m1, z, B, c, hm1, hz, rfl, rfl, ho, hf⟩ := hrel
    have HF := Lib.hid hf
    have hcs : (m1 = 4 ∧ z = -1) ∨ (m1 = 3 ∧ z = 0) ∨ (m1 = 2 ∧ z = 1) ∨ (m1 = 1 ∧ z = 2) ∨ (m1 = 0 ∧ z = 3) := by omega
    clear hz
    rcases hcs with ⟨rfl, rfl⟩ | ⟨rfl, rfl⟩ | ⟨rfl, rfl⟩ | ⟨rfl, rfl⟩ | ⟨rfl, rfl⟩
    · have hcv := own_bytes (xs := (wordB nn 4).take 4) ho
      have hwl : (⟨((wordB nn 4).take 4).toArray⟩ : ByteArray) = wordS nn 4 := by
        rw [List.take_of_length_le (by simp [wordB])]
        rfl
      rw [hwl] at hcv
      have HW2 := Lib.hid (HW.out wr (HF1.out.trans hf))
      clear hwl ho hf
      generalize wordS nn 4 = WS at *
      go_wp2_with fail
      refine HW2.out.mono ?_
      rintro e w3 ⟨rfl, hm3, hf3⟩
      go_wp2_with fail
      go_ret
      exact ⟨rfl, hm3, ((HF1.out.trans HF.out).mono (by simp)).trans hf3⟩
    · have HX := Lib.hid (ho.alloc (.cells #[.int .u8 ((byt nn 1).toNat : Int)] 5))
      have hbk : (wr.alloc (.cells #[.int .u8 ((byt nn 1).toNat : Int)] 5)).cell? ⟨wr.heap.size, 0, none⟩ = some (.int .u8 ((byt nn 1).toNat : Int)) := (Blk.new wr 5 _).cell 0
      have hfa := hf.alloc (.cells #[.int .u8 ((byt nn 1).toNat : Int)] 5)
      have hzz := hf.size
      clear ho hf
      go_wp2_with (at_builtin; go_must (refine wpList_append_own _ rfl (.tmp 30) (.tmp 37) 42 rfl w1.heap.size 5 i0 (.int .u8 0) 1 1 Try.underlying42 hi0 hz0 hz1 hz2 rfl (by decide) _ 3 _ rfl HX.out ⟨wr.heap.size, 0, none⟩ 1 1 [.int .u8 ((byt nn 1).toNat : Int)] rfl rfl (news1 hbk) (by simp [Value.oneCell']) (by simp [maxLen]) (by omega) (by simp; omega) ?_; intro x1 W1 ho1 hg1 _; obtain ⟨A1, c1, rfl⟩ := own_shape ho1; have hff1 := hfa.own HX.out hg1))
      go_roundg 0
      case measure => omega
      case rel => exact ⟨4, _, A1, c1, by omega, by omega, rfl, by simp, by simpa [wordB, bv] using ho1, hff1⟩
    · have HX := Lib.hid (ho.alloc (.cells #[.int .u8 ((byt nn 256).toNat : Int)] 5))
      have hbk : (wr.alloc (.cells #[.int .u8 ((byt nn 256).toNat : Int)] 5)).cell? ⟨wr.heap.size, 0, none⟩ = some (.int .u8 ((byt nn 256).toNat : Int)) := (Blk.new wr 5 _).cell 0
      have hfa := hf.alloc (.cells #[.int .u8 ((byt nn 256).toNat : Int)] 5)
      have hzz := hf.size
      clear ho hf
      go_wp2_with (at_builtin; go_must (refine wpList_append_own _ rfl (.tmp 30) (.tmp 37) 42 rfl w1.heap.size 5 i0 (.int .u8 0) 1 1 Try.underlying42 hi0 hz0 hz1 hz2 rfl (by decide) _ 2 _ rfl HX.out ⟨wr.heap.size, 0, none⟩ 1 1 [.int .u8 ((byt nn 256).toNat : Int)] rfl rfl (news1 hbk) (by simp [Value.oneCell']) (by simp [maxLen]) (by omega) (by simp; omega) ?_; intro x1 W1 ho1 hg1 _; obtain ⟨A1, c1, rfl⟩ := own_shape ho1; have hff1 := hfa.own HX.out hg1))
      go_roundg 1
      case measure => omega
      case rel => exact ⟨3, _, A1, c1, by omega, by omega, rfl, by simp, by simpa [wordB, bv] using ho1, hff1⟩
    · have HX := Lib.hid (ho.alloc (.cells #[.int .u8 ((byt nn 65536).toNat : Int)] 5))
      have hbk : (wr.alloc (.cells #[.int .u8 ((byt nn 65536).toNat : Int)] 5)).cell? ⟨wr.heap.size, 0, none⟩ = some (.int .u8 ((byt nn 65536).toNat : Int)) := (Blk.new wr 5 _).cell 0
      have hfa := hf.alloc (.cells #[.int .u8 ((byt nn 65536).toNat : Int)] 5)
      have hzz := hf.size
      clear ho hf
      go_wp2_with (at_builtin; go_must (refine wpList_append_own _ rfl (.tmp 30) (.tmp 37) 42 rfl w1.heap.size 5 i0 (.int .u8 0) 1 1 Try.underlying42 hi0 hz0 hz1 hz2 rfl (by decide) _ 1 _ rfl HX.out ⟨wr.heap.size, 0, none⟩ 1 1 [.int .u8 ((byt nn 65536).toNat : Int)] rfl rfl (news1 hbk) (by simp [Value.oneCell']) (by simp [maxLen]) (by omega) (by simp; omega) ?_; intro x1 W1 ho1 hg1 _; obtain ⟨A1, c1, rfl⟩ := own_shape ho1; have hff1 := hfa.own HX.out hg1))
      go_roundg 2
      case measure => omega
      case rel => exact ⟨2, _, A1, c1, by omega, by omega, rfl, by simp, by simpa [wordB, bv] using ho1, hff1⟩
    · have HX := Lib.hid (ho.alloc (.cells #[.int .u8 ((byt nn 16777216).toNat : Int)] 5))
      have hbk : (wr.alloc (.cells #[.int .u8 ((byt nn 16777216).toNat : Int)] 5)).cell? ⟨wr.heap.size, 0, none⟩ = some (.int .u8 ((byt nn 16777216).toNat : Int)) := (Blk.new wr 5 _).cell 0
      have hfa := hf.alloc (.cells #[.int .u8 ((byt nn 16777216).toNat : Int)] 5)
      have hzz := hf.size
      clear ho hf
      go_wp2_with (at_builtin; go_must (refine wpList_append_own _ rfl (.tmp 30) (.tmp 37) 42 rfl w1.heap.size 5 i0 (.int .u8 0) 1 1 Try.underlying42 hi0 hz0 hz1 hz2 rfl (by decide) _ 0 _ rfl HX.out ⟨wr.heap.size, 0, none⟩ 1 1 [.int .u8 ((byt nn 16777216).toNat : Int)] rfl rfl (news1 hbk) (by simp [Value.oneCell']) (by simp [maxLen]) (by omega) (by simp; omega) ?_; intro x1 W1 ho1 hg1 _; obtain ⟨A1, c1, rfl⟩ := own_shape ho1; have hff1 := hfa.own HX.out hg1))
      go_roundg 3
      case measure => omega
      case rel => exact ⟨1, _, A1, c1, by omega, by omega, rfl, by simp, by simpa [wordB, bv] using ho1, hff1⟩
theorem rStore_any (b q G m cap : Nat) (st : St) (A : Option Addr) (t : List Pg) (a k n : Int) (w : World) (ht : Tb w b (.slice A m cap) t) (h : RMem w q G st) (ha : a ≤ 9223372036854775807) (hbG : b ≠ G) :
    Calls Try.prog 39 #[ptr q, .slice A m cap, .int .i64 a, .int .i64 k, .int .i64 n] w (RStoreP w q G st t a k n) := by
  cases hT : okT st.n t with
  | false =>
    refine (rStore_no b q G m cap st A t a k n w ht h hT).mono fun e w' ⟨he, hf⟩ => ?_
    refine ⟨by rw [he]; unfold stE; rw [if_pos hT], ?_, hf.mono (by simp)⟩
    unfold stS
    rw [if_pos hT]
    exact h.to hf (by simp) (by simp)
  | true =>
    have hT' : ¬ okT st.n t = false := by rw [hT]; simp
    by_cases hk : k = 1 ∨ k = 2 ∨ k = 4
    · have hk' : ¬ (k ≠ 1 ∧ k ≠ 2 ∧ k ≠ 4) := by omega
      have key : Calls Try.prog 39 #[ptr q, .slice A m cap, .int .i64 a, .int .i64 k, .int .i64 n] w (RWriteP w q G st t a (wordS n k)) := by
        rcases hk with rfl | rfl | rfl
        · exact rStore_1 b q G m cap st A t a n w ht h hT ha hbG
        · exact rStore_2 b q G m cap st A t a n w ht h hT ha hbG
        · exact rStore_4 b q G m cap st A t a n w ht h hT ha hbG
      refine key.mono fun e w' ⟨he, hm, hf⟩ => ⟨?_, ?_, hf⟩
      · rw [he]; unfold stE; rw [if_neg hT', if_neg hk']
      · unfold stS
        rw [if_neg hT', if_neg hk']
        exact hm
    · refine (rStore_size b q G m cap st A t a k n w ht h hT hk).mono fun e w' ⟨he, hf⟩ => ?_
      have hk' : k ≠ 1 ∧ k ≠ 2 ∧ k ≠ 4 := by omega
      refine ⟨by rw [he]; unfold stE; rw [if_neg hT', if_pos hk'], ?_, hf.mono (by simp)⟩
      unfold stS
      rw [if_neg hT', if_pos hk']
      exact h.to hf (by simp) (by simp)
end Go.Proofs.Ytdkihajajdhpnaa
