/- ConsoleBanner: the walk. Printed by gen25.py. -/
import Derived.Test.YtkjahokffpihmaaDoorC23
import Derived.Deep.QuietTactic
import Derived.BigQuiet
import Derived.BigRegion
namespace Go.Proofs.YtkjahokffpihmaaDoor
open Go.RowKit
set_option linter.unusedVariables false
set_option linter.unusedSimpArgs false
set_option maxRecDepth 100000
/-- Who gets the focus by a key finds the screen cleared; a secure key trusts. -/
theorem key_fo (x : Con) (b : UInt8) : ((key x b).fo ≠ x.fo → 0 ≤ (key x b).fo → (key x b).sc = sclear) ∧ (b.toNat = 1 → (key x b).fo = -1) := by
  unfold key
  split
  · next h1 => exact ⟨fun _ h => absurd h (show ¬ (0 : Int) ≤ -1 by decide), fun _ => rfl⟩
  · next h1 =>
    refine ⟨?_, fun h => absurd h h1⟩
    split
    · intro h; exact absurd rfl h
    · split
      · unfold toChoice
        split
        · intro _ _; rfl
        · intro h; exact absurd rfl h
      · unfold toPass
        split
        · intro h; exact absurd rfl h
        · split
          · intro h; exact absurd rfl h
          · intro h; exact absurd rfl h
theorem write_fo (x : Con) (l : Int) (t : List UInt8) : (write x l t).fo = x.fo := by
  unfold write
  split
  · split <;> rfl
  · rfl
theorem rowB_size (s : Sc) (i : Nat) : (rowB s i).size = 24 := by
  show (rowL s i).toArray.size = 24
  rw [List.size_toArray, rowL_len]
/-- A call of a script, whole. -/
theorem range_op {W : World} {b o : Nat} {x : OpC} (h : OpC.at W b o x) : W.rangeAt b o [.int .i64 x.on, .int .i64 x.kind, .int .i64 x.a, .string x.s] := fun j v hv => by
  match j, hv with
  | 0, hv => simp at hv; subst hv; exact h.c0
  | 1, hv => simp at hv; subst hv; exact h.c1
  | 2, hv => simp at hv; subst hv; exact h.c2
  | 3, hv => simp at hv; subst hv; exact h.c3
  | j + 4, hv => simp at hv
theorem size46 : (Tryd.prog.info? 46).map (·.size) = some 4 := by kernel_rfl
theorem banner_no (w : World) (lv : Int) (lg : ByteArray) (hs : lg.size ≤ maxLen) (A : Option Addr) (n cap : Nat) (h : okNew lv lg = false) : Calls Tryd.prog 6 #[.int .i64 lv, .string lg, .slice A n cap] w (FixP w) := by
  have HM := Lib.hid (made_no w lv lg none 0 0 h)
  have HN := nil_end (w := w) lv lg hs h
  have HX := Lib.hid fixed_any
  clear h hs
  go_enter Tryd.func6, Tryd.ntmps6
  go_wp2_with (first
    | (go_at_call 9; refine HM.out.mono ?_; rintro e w1 ⟨rfl, hf⟩; have HF1 := Lib.hid hf; clear hf)
    | (go_at_call 10; refine (HN.out _).mono ?_; rintro e w2 ⟨rfl, rfl⟩)
    | (go_at_call 11; refine (HX.out _).mono ?_; rintro e w3 ⟨rfl, hf3⟩; have HP := Lib.hid (HF1.out.trans hf3); clear hf3))
  go_ret
  exact ⟨rfl, HP.out⟩
set_option maxHeartbeats 8000000 in
theorem banner_yes (w : World) (L : Nat) (lg : ByteArray) (A : Option Addr) (n cap : Nat) (ops : Nat → OpC) (ho : OpsC w A n ops) (h : okNew (L : Int) lg = true) : Calls Tryd.prog 6 #[.int .i64 (L : Int), .string lg, .slice A n cap] w (FixP w) := by
  obtain ⟨n', hn', l1, l8, hlg⟩ := okNew_spec h
  obtain rfl : n' = L := by omega
  have HM := Lib.hid (made_yes w (n' : Int) lg none 0 0 (fun _ => opC0) ⟨Nat.zero_le _, fun i hi => absurd hi (Nat.not_lt_zero i)⟩ h)
  have HO := Lib.hid ho
  have hn : n ≤ 9223372036854775807 := by simpa [maxLen] using ho.1
  obtain ⟨y, hy⟩ : ∃ y, runC (newCon (n' : Int).toNat lg) (fun _ => opC0) 0 = y := ⟨_, rfl⟩
  have hylv : y.lv = n' := by rw [← hy]; exact (runC_lv (newCon (n' : Int).toNat lg) _ 0).1
  rw [hy] at HM
  have HX := Lib.hid fixed_any
  have HRW := Lib.hid row_any
  have HL8 := Lib.hid l8
  clear h hn' l1 l8 hlg ho hy
  go_enter Tryd.func6, Tryd.ntmps6
  go_wp2_with (go_at_call 9; refine HM.out.mono ?_; rintro e w1 ⟨c, q, rfl, h1⟩)
  clear HM
  go_loopg [10] n (fun gg i wr => ∃ (k : Nat) (y : Con), k + gg = n ∧ i = .int .i64 k ∧ y.lv = n' ∧ Cn w wr c q y)
  case atStart => exact ⟨0, y, by omega, rfl, hylv, h1⟩
  case round =>
    clear h1 hylv y
    obtain ⟨k, y, hk, rfl, hylv, hv⟩ := hrel
    have Hk := Lib.hid hk
    have HYL := Lib.hid hylv
    by_cases hlt : k < n
    · have hlt' : (k : Int) < (n : Int) := by omega
      have hk0 : (0 : Int) ≤ (k : Int) := by omega
      obtain ⟨b, off, rfl, ha⟩ := HO.out.2 k hlt
      have hr := range_op (ha.fr hv.f)
      have hso := (ops k).hs
      have hcl := hv.lt
      have hso' : (ops k).s.size ≤ 9223372036854775807 := by simpa [maxLen] using hso
      have HWR := Lib.hid (fun W (hc : Cn w W c q y) => hc.write (ops k).a (ops k).s hso)
      have HV1 := Lib.hid (hv.to ((Fr.refl [] wr).alloc (.cells #[.int .i64 (ops k).on, .int .i64 (ops k).kind, .int .i64 (ops k).a, .string (ops k).s] 46)))
      have HBX := Lib.hid (Blk.new wr 46 #[.int .i64 (ops k).on, .int .i64 (ops k).kind, .int .i64 (ops k).a, .string (ops k).s])
      clear ha hk hylv
      generalize (ops k).kind = K at *
      generalize (ops k).a = a at *
      generalize (ops k).s = s at *
      generalize (ops k).on = on at *
      by_cases h1 : K = 1
      · subst h1
        have hv0 := hv
        have HF2 := Lib.hid (write_fo y a s.data.toList)
        have HLV : Hid ((write y a s.data.toList).lv = n') := Lib.hid ((write_lv y a s.data.toList).1.trans HYL.out)
        have HFO := Lib.hid (fun f (hf : y.fo = f) W (hc : Cn w W c q y) => by
          have hh := hc.focus
          rw [hf] at hh
          exact hh)
        have hok2 : (write y a s.data.toList).Ok := write_ok hv.ok _ _
        obtain ⟨y2, hy2⟩ : ∃ y2, write y a s.data.toList = y2 := ⟨_, rfl⟩
        rw [hy2] at HF2 HLV HWR hok2
        have hv0 : y2.Ok := hok2
        clear hy2 hv hok2
        have hok := hv0
        by_cases hf : y2.fo = -1
        · have TF : Hid (∀ W, Cn w W c q y2 → Calls Tryd.prog 17 #[ptr c] W fun e w' => e = .returned (.int .i64 (-1)) ∧ W = w') := Lib.hid fun W hc => by
            have hh := hc.focus
            rw [hf] at hh
            exact hh
          have TB : Hid (∀ W, Cn w W c q y2 → Calls Tryd.prog 20 #[ptr c] W fun e w' => e = .returned (.string ⟨#[91, 84, 82, 85, 83, 84, 69, 68, 93, 32, 32, 32, 32, 32, 32, 32, 32, 32, 32, 32, 32, 32, 32, 32]⟩) ∧ W = w') := Lib.hid fun W hc => by
            have hh := hc.banner
            unfold banner at hh
            rw [if_pos hf] at hh
            exact hh
          have TS : Hid (∀ W, Cn w W c q y2 → Calls Tryd.prog 15 #[ptr c] W fun e w' => ∃ g cap, e = .returned (.slice (some ⟨g, 0, none⟩) 6 cap) ∧ StrsAt w' g 0 (screenL y2.sc) ∧ Fr [] W w') := Lib.hid fun W hc => hc.screen.mono (by
            rintro e w' ⟨g, cap, he, -, -, hk, hf, -⟩
            rw [screen_len] at he
            exact ⟨g, cap, he, hk.strs, hf⟩)
          have HR24 : Hid (∀ j, j < 6 → ∃ t : ByteArray, (screenL y2.sc)[j]? = some t ∧ t.size = 24) := Lib.hid fun j hj => ⟨rowB y2.sc j, by simp [screenL, hj], rowB_size _ _⟩
          generalize screenL y2.sc = rows at *
          have hL1 : decide ((n' : Int) ≤ -1) = false := decide_eq_false (by omega)
          have hx9 : (((⟨#[91, 84, 82, 85, 83, 84, 69, 68, 93, 32, 32, 32, 32, 32, 32, 32, 32, 32, 32, 32, 32, 32, 32, 32]⟩ : ByteArray).extract 0 9).toList == [91, 84, 82, 85, 83, 84, 69, 68, 93]) = true := by decide +kernel
          have HFO := Lib.hid (HFO.out _ (HF2.out.symm.trans hf))
          clear hf
          go_wp2_with (first
            | (refine wpList_load_mid rfl 46 (.tmp 44) rfl b (off + k * 4) rfl [.int .i64 on, .int .i64 1, .int .i64 a, .string s] _ hr Tryd.underlying46 rfl size46 ?_)
            | (go_at_call 17; have hq := HFO.out _ HV1.out; (with_reducible refine hq.mono ?_); clear hq; rintro e wz ⟨rfl, rfl⟩)
            | (go_at_call 19; refine (HWR.out _ HV1.out).mono ?_; rintro e w3 ⟨rfl, hv, -⟩)
            | (go_at_call 17; have hq := TF.out _ hv; (with_reducible refine hq.mono ?_); clear hq; rintro e wz ⟨rfl, rfl⟩)
            | (go_at_call 20; have hq := TB.out _ hv; (with_reducible refine hq.mono ?_); clear hq; rintro e wz ⟨rfl, rfl⟩)
            | (go_at_call 15; have hq := TS.out _ hv; (with_reducible refine hq.mono ?_); clear hq; rintro e w7 ⟨g1, o1, rfl, hs1, hf7⟩; have HQ := Lib.hid (hv.to hf7); have HS1 := Lib.hid hs1; clear hf7 hs1 hv))
          clear TF TB TS hok
          go_quiet (fail)
          obtain ⟨w8, hw8⟩ : ∃ w8, w7.drewN nq = w8 := ⟨_, rfl⟩
          have HF8 : Hid (Fr [] w7 w8) := Lib.hid (by rw [← hw8]; exact (Fr.refl [] w7).drewN nq)
          rw [hw8]
          clear hw8
          go_wp2_with fail
          go_loopg [19] 6 (fun gg i wr => ∃ j : Nat, j + gg = 6 ∧ i = .int .i64 j ∧ Fr [] w7 wr)
          case atStart => exact ⟨0, by omega, rfl, HF8.out⟩
          case round =>
            obtain ⟨j, hj, rfl, hf9⟩ := hrel
            have Hj := Lib.hid hj
            have HF9 := Lib.hid hf9
            by_cases hj6 : j < 6
            · have hj6' : (j : Int) < 6 := by omega
              have hj0 : (0 : Int) ≤ (j : Int) := by omega
              obtain ⟨t, ht, ht24⟩ := HR24.out j hj6
              have q9 := (HS1.out.to hf9) j t ht
              rw [Nat.zero_add] at q9
              have e24 : ((t.size : Int) != 24) = false := by rw [ht24]; rfl
              clear hj hf9 ht ht24
              go_wp2_with fail
              go_roundg (6 - (j + 1))
              case measure => have := Hj.out; omega
              case rel => exact ⟨j + 1, by have := Hj.out; omega, by go_num, HF9.out⟩
            · obtain rfl : j = 6 := by omega
              clear hj hf9
              go_wp2_with fail
              go_roundg (n - (k + 1))
              case measure => have := Hk.out; omega
              case rel => exact ⟨k + 1, y2, by have := Hk.out; omega, by go_num, HLV.out, HQ.out.to HF9.out⟩
        · obtain ⟨f, hf'⟩ : ∃ f : Nat, y2.fo = (f : Int) := Int.eq_ofNat_of_zero_le (by have := hok.f0; omega)
          have hnf := hf
          clear hf
          rename y2.fo = (f : Int) => hf
          have hfn' : (f : Int) < (n' : Int) := by have h1 := hok.f1; have h2 := HLV.out; omega
          have hf0 : (0 : Int) ≤ (f : Int) := by omega
          have hf8 : (f : Int) < 8 := by have h1 := HL8.out; omega
          have hfn1 : decide ((f : Int) < -1) = false := decide_eq_false (by omega)
          have hfn0 : decide ((f : Int) < 0) = false := decide_eq_false (by omega)
          have hfn2 : decide (n' ≤ f) = false := decide_eq_false (by omega)
          have TF : Hid (∀ W, Cn w W c q y2 → Calls Tryd.prog 17 #[ptr c] W fun e w' => e = .returned (.int .i64 (f : Int)) ∧ W = w') := Lib.hid fun W hc => by
            have hh := hc.focus
            rw [hf] at hh
            exact hh
          have TB : Hid (∀ W, Cn w W c q y2 → Calls Tryd.prog 20 #[ptr c] W fun e w' => e = .returned (.string ⟨#[91, 76, 69, 86, 69, 76, 32, dig f, 93, 32, 32, 32, 32, 32, 32, 32, 32, 32, 32, 32, 32, 32, 32, 32]⟩) ∧ W = w') := Lib.hid fun W hc => by
            have hh := hc.banner
            unfold banner at hh
            rw [if_neg hnf, hf, Int.toNat_natCast] at hh
            exact hh
          have TS : Hid (∀ W, Cn w W c q y2 → Calls Tryd.prog 15 #[ptr c] W fun e w' => ∃ g cap, e = .returned (.slice (some ⟨g, 0, none⟩) 6 cap) ∧ StrsAt w' g 0 (screenL y2.sc) ∧ Fr [] W w') := Lib.hid fun W hc => hc.screen.mono (by
            rintro e w' ⟨g, cap, he, -, -, hk, hf, -⟩
            rw [screen_len] at he
            exact ⟨g, cap, he, hk.strs, hf⟩)
          have HR24 : Hid (∀ j, j < 6 → ∃ t : ByteArray, (screenL y2.sc)[j]? = some t ∧ t.size = 24) := Lib.hid fun j hj => ⟨rowB y2.sc j, by simp [screenL, hj], rowB_size _ _⟩
          generalize screenL y2.sc = rows at *
          clear hnf
          have HFO := Lib.hid (HFO.out _ (HF2.out.symm.trans hf))
          clear hf
          go_wp2_with (first
            | (refine wpList_load_mid rfl 46 (.tmp 44) rfl b (off + k * 4) rfl [.int .i64 on, .int .i64 1, .int .i64 a, .string s] _ hr Tryd.underlying46 rfl size46 ?_)
            | (go_at_call 17; have hq := HFO.out _ HV1.out; (with_reducible refine hq.mono ?_); clear hq; rintro e wz ⟨rfl, rfl⟩)
            | (go_at_call 19; refine (HWR.out _ HV1.out).mono ?_; rintro e w3 ⟨rfl, hv, -⟩)
            | (go_at_call 17; have hq := TF.out _ hv; (with_reducible refine hq.mono ?_); clear hq; rintro e wz ⟨rfl, rfl⟩)
            | (go_at_call 20; have hq := TB.out _ hv; (with_reducible refine hq.mono ?_); clear hq; rintro e wz ⟨rfl, rfl⟩)
            | (go_at_call 15; have hq := TS.out _ hv; (with_reducible refine hq.mono ?_); clear hq; rintro e w7 ⟨g1, o1, rfl, hs1, hf7⟩; have HQ := Lib.hid (hv.to hf7); have HS1 := Lib.hid hs1; clear hf7 hs1 hv))
          clear TF TB TS hok
          have hx9 : (⟨#[91, 76, 69, 86, 69, 76, 32, dig f, 93, 32, 32, 32, 32, 32, 32, 32, 32, 32, 32, 32, 32, 32, 32, 32]⟩ : ByteArray).extract 0 9 = (⟨#[91, 76, 69, 86, 69, 76, 32]⟩ ++ ⟨#[dig f]⟩ ++ ⟨#[93]⟩ : ByteArray) := by
            generalize dig f = D
            rfl
          have hw : ((dig f).toNat : Int) = IntKind.u8.wrap (IntKind.i64.wrap (48 + (f : Int))) := by
            have e1 : IntKind.i64.wrap (48 + (f : Int)) = 48 + (f : Int) := IntWalk.i64_in _ (by omega)
            have e2 : IntKind.u8.wrap (48 + (f : Int)) = 48 + (f : Int) := by
              simp [IntKind.wrap, IntKind.bits, IntKind.signed]
              omega
            rw [e1, e2, dig_toNat (by omega)]
            omega
          have hcv := conv_one (w7.alloc (.cells #[.int .u8 ((dig f).toNat : Int)] 5)).drew w7.heap.size (dig f) (by simp)
          rw [hw] at hcv
          clear hw
          refine wp_region_held_drew (S := fun _ => True) (by kernel_rfl) trivial (fun hHeld => ?_)
          refine wpAnyH_take (i := 0) (v := ?vb0) rfl (by kernel_rfl) (by kernel_rfl) (by kernel_rfl) (fun _ _ _ h => h) (Or.inl ⟨by rfl, ?hyb0⟩) trivial ?restb0
          case hyb0 =>
            intro w hSw
            (try simp only [List.getElem_toArray, List.getElem_cons_zero, List.getElem_cons_succ])
            go_simp
            try with_reducible rfl
          (try simp only [List.getElem_toArray, List.getElem_cons_zero, List.getElem_cons_succ, Act.put, List.setIfInBounds_toArray, List.set_cons_zero, List.set_cons_succ])
          refine wpAnyH_take (i := 1) (v := ?vb1) rfl (by kernel_rfl) (by kernel_rfl) (by kernel_rfl) (fun _ _ _ h => h) (Or.inl ⟨by rfl, ?hyb1⟩) trivial ?restb1
          case hyb1 =>
            intro w hSw
            (try simp only [List.getElem_toArray, List.getElem_cons_zero, List.getElem_cons_succ])
            go_simp
            try with_reducible rfl
          (try simp only [List.getElem_toArray, List.getElem_cons_zero, List.getElem_cons_succ, Act.put, List.setIfInBounds_toArray, List.set_cons_zero, List.set_cons_succ])
          refine wpAnyH_take (i := 2) (v := ?vb2) rfl (by kernel_rfl) (by kernel_rfl) (by kernel_rfl) (fun _ _ _ h => h) (Or.inl ⟨by rfl, ?hyb2⟩) trivial ?restb2
          case hyb2 =>
            intro w hSw
            (try simp only [List.getElem_toArray, List.getElem_cons_zero, List.getElem_cons_succ])
            go_simp
            try with_reducible rfl
          (try simp only [List.getElem_toArray, List.getElem_cons_zero, List.getElem_cons_succ, Act.put, List.setIfInBounds_toArray, List.set_cons_zero, List.set_cons_succ])
          refine wpAnyH_take (i := 3) (v := ?vb3) rfl (by kernel_rfl) (by kernel_rfl) (by kernel_rfl) (fun _ _ _ h => h) (Or.inl ⟨by rfl, ?hyb3⟩) trivial ?restb3
          case hyb3 =>
            intro w hSw
            (try simp only [List.getElem_toArray, List.getElem_cons_zero, List.getElem_cons_succ])
            go_simp
            try with_reducible rfl
          (try simp only [List.getElem_toArray, List.getElem_cons_zero, List.getElem_cons_succ, Act.put, List.setIfInBounds_toArray, List.set_cons_zero, List.set_cons_succ])
          refine wpAnyH_take (i := 4) (v := ?vb4) rfl (by kernel_rfl) (by kernel_rfl) (by kernel_rfl) (fun _ _ _ h => h) (Or.inl ⟨by rfl, ?hyb4⟩) trivial ?restb4
          case hyb4 =>
            intro w hSw
            (try simp only [List.getElem_toArray, List.getElem_cons_zero, List.getElem_cons_succ])
            go_simp
            try with_reducible rfl
          (try simp only [List.getElem_toArray, List.getElem_cons_zero, List.getElem_cons_succ, Act.put, List.setIfInBounds_toArray, List.set_cons_zero, List.set_cons_succ])
          refine wpAnyH_take (i := 5) (v := ?vb5) rfl (by kernel_rfl) (by kernel_rfl) (by kernel_rfl) (fun _ _ _ h => h) (Or.inl ⟨by rfl, ?hyb5⟩) trivial ?restb5
          case hyb5 =>
            intro w hSw
            (try simp only [List.getElem_toArray, List.getElem_cons_zero, List.getElem_cons_succ])
            go_simp
            try with_reducible rfl
          (try simp only [List.getElem_toArray, List.getElem_cons_zero, List.getElem_cons_succ, Act.put, List.setIfInBounds_toArray, List.set_cons_zero, List.set_cons_succ])
          refine wpAnyH_take (i := 6) (v := ?vb6) rfl (by kernel_rfl) (by kernel_rfl) (by kernel_rfl) (fun _ _ _ h => h) (Or.inl ⟨by rfl, ?hyb6⟩) trivial ?restb6
          case hyb6 =>
            intro w hSw
            (try simp only [List.getElem_toArray, List.getElem_cons_zero, List.getElem_cons_succ])
            go_simp
            try with_reducible rfl
          (try simp only [List.getElem_toArray, List.getElem_cons_zero, List.getElem_cons_succ, Act.put, List.setIfInBounds_toArray, List.set_cons_zero, List.set_cons_succ])
          refine wpAnyH_take (i := 7) (v := ?vb7) rfl (by kernel_rfl) (by kernel_rfl) (by kernel_rfl) (fun _ _ _ h => h) (Or.inl ⟨by rfl, ?hyb7⟩) trivial ?restb7
          case hyb7 =>
            intro w hSw
            (try simp only [List.getElem_toArray, List.getElem_cons_zero, List.getElem_cons_succ])
            go_simp
            try with_reducible rfl
          (try simp only [List.getElem_toArray, List.getElem_cons_zero, List.getElem_cons_succ, Act.put, List.setIfInBounds_toArray, List.set_cons_zero, List.set_cons_succ])
          refine wpAnyH_take (i := 8) (v := ?vb8) rfl (by kernel_rfl) (by kernel_rfl) (by kernel_rfl) (fun _ _ _ h => h) (Or.inl ⟨by rfl, ?hyb8⟩) trivial ?restb8
          case hyb8 =>
            intro w hSw
            (try simp only [List.getElem_toArray, List.getElem_cons_zero, List.getElem_cons_succ])
            go_simp
            try with_reducible rfl
          (try simp only [List.getElem_toArray, List.getElem_cons_zero, List.getElem_cons_succ, Act.put, List.setIfInBounds_toArray, List.set_cons_zero, List.set_cons_succ])
          refine wpAnyH_take (i := 9) (v := ?vb9) rfl (by kernel_rfl) (by kernel_rfl) (by kernel_rfl) (fun _ _ _ h => h) (Or.inl ⟨by rfl, ?hyb9⟩) trivial ?restb9
          case hyb9 =>
            intro w hSw
            (try simp only [List.getElem_toArray, List.getElem_cons_zero, List.getElem_cons_succ])
            go_simp
            try with_reducible rfl
          (try simp only [List.getElem_toArray, List.getElem_cons_zero, List.getElem_cons_succ, Act.put, List.setIfInBounds_toArray, List.set_cons_zero, List.set_cons_succ])
          refine wpAnyH_take (i := 10) (v := ?vb10) rfl (by kernel_rfl) (by kernel_rfl) (by kernel_rfl) (fun _ _ _ h => h) (Or.inl ⟨by rfl, ?hyb10⟩) trivial ?restb10
          case hyb10 =>
            intro w hSw
            (try simp only [List.getElem_toArray, List.getElem_cons_zero, List.getElem_cons_succ])
            go_simp
            try with_reducible rfl
          (try simp only [List.getElem_toArray, List.getElem_cons_zero, List.getElem_cons_succ, Act.put, List.setIfInBounds_toArray, List.set_cons_zero, List.set_cons_succ])
          refine wpAnyH_take (i := 11) (v := ?vb11) rfl (by kernel_rfl) (by kernel_rfl) (by kernel_rfl) (fun _ _ _ h => h) (Or.inl ⟨by rfl, ?hyb11⟩) trivial ?restb11
          case hyb11 =>
            intro w hSw
            (try simp only [List.getElem_toArray, List.getElem_cons_zero, List.getElem_cons_succ])
            go_simp
            try with_reducible rfl
          (try simp only [List.getElem_toArray, List.getElem_cons_zero, List.getElem_cons_succ, Act.put, List.setIfInBounds_toArray, List.set_cons_zero, List.set_cons_succ])
          refine wpAnyH_take (i := 12) (v := ?vb12) rfl (by kernel_rfl) (by kernel_rfl) (by kernel_rfl) (fun _ _ _ h => h) (Or.inl ⟨by rfl, ?hyb12⟩) trivial ?restb12
          case hyb12 =>
            intro w hSw
            (try simp only [List.getElem_toArray, List.getElem_cons_zero, List.getElem_cons_succ])
            go_simp
            try with_reducible rfl
          (try simp only [List.getElem_toArray, List.getElem_cons_zero, List.getElem_cons_succ, Act.put, List.setIfInBounds_toArray, List.set_cons_zero, List.set_cons_succ])
          refine wpAnyH_take (i := 13) (v := ?vb13) rfl (by kernel_rfl) (by kernel_rfl) (by kernel_rfl) (fun _ _ _ h => h) (Or.inl ⟨by rfl, ?hyb13⟩) trivial ?restb13
          case hyb13 =>
            intro w hSw
            (try simp only [List.getElem_toArray, List.getElem_cons_zero, List.getElem_cons_succ])
            go_simp
            try with_reducible rfl
          (try simp only [List.getElem_toArray, List.getElem_cons_zero, List.getElem_cons_succ, Act.put, List.setIfInBounds_toArray, List.set_cons_zero, List.set_cons_succ])
          refine wpAnyH_take (i := 14) (v := ?vb14) rfl (by kernel_rfl) (by kernel_rfl) (by kernel_rfl) (fun _ _ _ h => h) (Or.inl ⟨by rfl, ?hyb14⟩) trivial ?restb14
          case hyb14 =>
            intro w hSw
            (try simp only [List.getElem_toArray, List.getElem_cons_zero, List.getElem_cons_succ])
            go_simp
            try with_reducible rfl
          (try simp only [List.getElem_toArray, List.getElem_cons_zero, List.getElem_cons_succ, Act.put, List.setIfInBounds_toArray, List.set_cons_zero, List.set_cons_succ])
          refine wpAnyH_take (i := 15) (v := ?vb15) rfl (by kernel_rfl) (by kernel_rfl) (by kernel_rfl) (fun _ _ _ h => h) (Or.inl ⟨by rfl, ?hyb15⟩) trivial ?restb15
          case hyb15 =>
            intro w hSw
            (try simp only [List.getElem_toArray, List.getElem_cons_zero, List.getElem_cons_succ])
            go_simp
            try with_reducible rfl
          (try simp only [List.getElem_toArray, List.getElem_cons_zero, List.getElem_cons_succ, Act.put, List.setIfInBounds_toArray, List.set_cons_zero, List.set_cons_succ])
          refine wpAnyH_take (i := 16) (v := ?vb16) rfl (by kernel_rfl) (by kernel_rfl) (by kernel_rfl) (fun _ _ _ h => h) (Or.inl ⟨by rfl, ?hyb16⟩) trivial ?restb16
          case hyb16 =>
            intro w hSw
            (try simp only [List.getElem_toArray, List.getElem_cons_zero, List.getElem_cons_succ])
            go_simp
            try with_reducible rfl
          (try simp only [List.getElem_toArray, List.getElem_cons_zero, List.getElem_cons_succ, Act.put, List.setIfInBounds_toArray, List.set_cons_zero, List.set_cons_succ])
          refine wpAnyH_take (i := 17) (v := ?vb17) rfl (by kernel_rfl) (by kernel_rfl) (by kernel_rfl) (fun _ _ _ h => h) (Or.inl ⟨by rfl, ?hyb17⟩) trivial ?restb17
          case hyb17 =>
            intro w hSw
            (try simp only [List.getElem_toArray, List.getElem_cons_zero, List.getElem_cons_succ])
            go_simp
            try with_reducible rfl
          (try simp only [List.getElem_toArray, List.getElem_cons_zero, List.getElem_cons_succ, Act.put, List.setIfInBounds_toArray, List.set_cons_zero, List.set_cons_succ])
          refine wpAnyH_take (i := 18) (v := ?vb18) rfl (by kernel_rfl) (by kernel_rfl) (by kernel_rfl) (fun _ _ _ h => h) (Or.inl ⟨by rfl, ?hyb18⟩) trivial ?restb18
          case hyb18 =>
            intro w hSw
            (try simp only [List.getElem_toArray, List.getElem_cons_zero, List.getElem_cons_succ])
            go_simp
            try with_reducible rfl
          (try simp only [List.getElem_toArray, List.getElem_cons_zero, List.getElem_cons_succ, Act.put, List.setIfInBounds_toArray, List.set_cons_zero, List.set_cons_succ])
          refine wpAnyH_take (i := 19) (v := ?vb19) rfl (by kernel_rfl) (by kernel_rfl) (by kernel_rfl) (fun _ _ _ h => h) (Or.inl ⟨by rfl, ?hyb19⟩) trivial ?restb19
          case hyb19 =>
            intro w hSw
            (try simp only [List.getElem_toArray, List.getElem_cons_zero, List.getElem_cons_succ])
            go_simp
            try with_reducible rfl
          (try simp only [List.getElem_toArray, List.getElem_cons_zero, List.getElem_cons_succ, Act.put, List.setIfInBounds_toArray, List.set_cons_zero, List.set_cons_succ])
          refine wpAnyH_take (i := 20) (v := ?vb20) rfl (by kernel_rfl) (by kernel_rfl) (by kernel_rfl) (fun _ _ _ h => h) (Or.inl ⟨by rfl, ?hyb20⟩) trivial ?restb20
          case hyb20 =>
            intro w hSw
            (try simp only [List.getElem_toArray, List.getElem_cons_zero, List.getElem_cons_succ])
            go_simp
            try with_reducible rfl
          (try simp only [List.getElem_toArray, List.getElem_cons_zero, List.getElem_cons_succ, Act.put, List.setIfInBounds_toArray, List.set_cons_zero, List.set_cons_succ])
          refine wpAnyH_take (i := 21) rfl (by kernel_rfl) (by kernel_rfl) (by kernel_rfl) (fun _ _ _ h => h) (Or.inr ⟨by rfl, rfl⟩) trivial ?_
          (try simp only [List.getElem_toArray, List.getElem_cons_zero, List.getElem_cons_succ, Act.put, List.setIfInBounds_toArray, List.set_cons_zero, List.set_cons_succ])
          refine wpAnyH_take (i := 22) rfl (by kernel_rfl) (by kernel_rfl) (by kernel_rfl) (fun _ _ _ h => h) (Or.inr ⟨by rfl, rfl⟩) trivial ?_
          (try simp only [List.getElem_toArray, List.getElem_cons_zero, List.getElem_cons_succ, Act.put, List.setIfInBounds_toArray, List.set_cons_zero, List.set_cons_succ])
          refine wpAnyH_take (i := 23) rfl (by kernel_rfl) (by kernel_rfl) (by kernel_rfl) (fun _ _ _ h => h) (Or.inr ⟨by rfl, rfl⟩) trivial ?_
          (try simp only [List.getElem_toArray, List.getElem_cons_zero, List.getElem_cons_succ, Act.put, List.setIfInBounds_toArray, List.set_cons_zero, List.set_cons_succ])
          refine wpAnyH_take (i := 24) (v := ?vb24) rfl (by kernel_rfl) (by kernel_rfl) (by kernel_rfl) (fun _ _ _ h => h) (Or.inl ⟨by rfl, ?hyb24⟩) trivial ?restb24
          case hyb24 =>
            intro w hSw
            (try simp only [List.getElem_toArray, List.getElem_cons_zero, List.getElem_cons_succ])
            go_simp
            try with_reducible rfl
          (try simp only [List.getElem_toArray, List.getElem_cons_zero, List.getElem_cons_succ, Act.put, List.setIfInBounds_toArray, List.set_cons_zero, List.set_cons_succ])
          refine wpAnyH_take (i := 25) (v := ?vb25) rfl (by kernel_rfl) (by kernel_rfl) (by kernel_rfl) (fun _ _ _ h => h) (Or.inl ⟨by rfl, ?hyb25⟩) trivial ?restb25
          case hyb25 =>
            intro w hSw
            (try simp only [List.getElem_toArray, List.getElem_cons_zero, List.getElem_cons_succ])
            go_simp
            try with_reducible rfl
          (try simp only [List.getElem_toArray, List.getElem_cons_zero, List.getElem_cons_succ, Act.put, List.setIfInBounds_toArray, List.set_cons_zero, List.set_cons_succ])
          refine wpAnyH_take (i := 26) (v := ?vb26) rfl (by kernel_rfl) (by kernel_rfl) (by kernel_rfl) (fun _ _ _ h => h) (Or.inl ⟨by rfl, ?hyb26⟩) trivial ?restb26
          case hyb26 =>
            intro w hSw
            (try simp only [List.getElem_toArray, List.getElem_cons_zero, List.getElem_cons_succ])
            go_simp
            try with_reducible rfl
          (try simp only [List.getElem_toArray, List.getElem_cons_zero, List.getElem_cons_succ, Act.put, List.setIfInBounds_toArray, List.set_cons_zero, List.set_cons_succ])
          refine wpAnyH_take (i := 27) (v := ?vb27) rfl (by kernel_rfl) (by kernel_rfl) (by kernel_rfl) (fun _ _ _ h => h) (Or.inl ⟨by rfl, ?hyb27⟩) trivial ?restb27
          case hyb27 =>
            intro w hSw
            (try simp only [List.getElem_toArray, List.getElem_cons_zero, List.getElem_cons_succ])
            go_simp
            try with_reducible rfl
          (try simp only [List.getElem_toArray, List.getElem_cons_zero, List.getElem_cons_succ, Act.put, List.setIfInBounds_toArray, List.set_cons_zero, List.set_cons_succ])
          refine wpAnyH_take (i := 28) (v := ?vb28) rfl (by kernel_rfl) (by kernel_rfl) (by kernel_rfl) (fun _ _ _ h => h) (Or.inl ⟨by rfl, ?hyb28⟩) trivial ?restb28
          case hyb28 =>
            intro w hSw
            (try simp only [List.getElem_toArray, List.getElem_cons_zero, List.getElem_cons_succ])
            go_simp
            try with_reducible rfl
          (try simp only [List.getElem_toArray, List.getElem_cons_zero, List.getElem_cons_succ, Act.put, List.setIfInBounds_toArray, List.set_cons_zero, List.set_cons_succ])
          refine wpAnyH_take (i := 29) (v := ?vb29) rfl (by kernel_rfl) (by kernel_rfl) (by kernel_rfl) (fun _ _ _ h => h) (Or.inl ⟨by rfl, ?hyb29⟩) trivial ?restb29
          case hyb29 =>
            intro w hSw
            (try simp only [List.getElem_toArray, List.getElem_cons_zero, List.getElem_cons_succ])
            go_simp
            try with_reducible rfl
          (try simp only [List.getElem_toArray, List.getElem_cons_zero, List.getElem_cons_succ, Act.put, List.setIfInBounds_toArray, List.set_cons_zero, List.set_cons_succ])
          refine wpAnyH_take (i := 30) (v := ?vb30) rfl (by kernel_rfl) (by kernel_rfl) (by kernel_rfl) (fun _ _ _ h => h) (Or.inl ⟨by rfl, ?hyb30⟩) trivial ?restb30
          case hyb30 =>
            intro w hSw
            (try simp only [List.getElem_toArray, List.getElem_cons_zero, List.getElem_cons_succ])
            go_simp
            try with_reducible rfl
          (try simp only [List.getElem_toArray, List.getElem_cons_zero, List.getElem_cons_succ, Act.put, List.setIfInBounds_toArray, List.set_cons_zero, List.set_cons_succ])
          refine wpAnyH_take (i := 31) (v := ?vb31) rfl (by kernel_rfl) (by kernel_rfl) (by kernel_rfl) (fun _ _ _ h => h) (Or.inl ⟨by rfl, ?hyb31⟩) trivial ?restb31
          case hyb31 =>
            intro w hSw
            (try simp only [List.getElem_toArray, List.getElem_cons_zero, List.getElem_cons_succ])
            go_simp
            try with_reducible rfl
          (try simp only [List.getElem_toArray, List.getElem_cons_zero, List.getElem_cons_succ, Act.put, List.setIfInBounds_toArray, List.set_cons_zero, List.set_cons_succ])
          refine wpAnyH_take (i := 32) (v := ?vb32) rfl (by kernel_rfl) (by kernel_rfl) (by kernel_rfl) (fun _ _ _ h => h) (Or.inl ⟨by rfl, ?hyb32⟩) trivial ?restb32
          case hyb32 =>
            intro w hSw
            (try simp only [List.getElem_toArray, List.getElem_cons_zero, List.getElem_cons_succ])
            go_simp
            try with_reducible rfl
          (try simp only [List.getElem_toArray, List.getElem_cons_zero, List.getElem_cons_succ, Act.put, List.setIfInBounds_toArray, List.set_cons_zero, List.set_cons_succ])
          refine wpAnyH_take (i := 33) (v := ?vb33) rfl (by kernel_rfl) (by kernel_rfl) (by kernel_rfl) (fun _ _ _ h => h) (Or.inl ⟨by rfl, ?hyb33⟩) trivial ?restb33
          case hyb33 =>
            intro w hSw
            (try simp only [List.getElem_toArray, List.getElem_cons_zero, List.getElem_cons_succ])
            go_simp
            try with_reducible rfl
          (try simp only [List.getElem_toArray, List.getElem_cons_zero, List.getElem_cons_succ, Act.put, List.setIfInBounds_toArray, List.set_cons_zero, List.set_cons_succ])
          refine wpAnyH_take (i := 34) (v := ?vb34) rfl (by kernel_rfl) (by kernel_rfl) (by kernel_rfl) (fun _ _ _ h => h) (Or.inl ⟨by rfl, ?hyb34⟩) trivial ?restb34
          case hyb34 =>
            intro w hSw
            (try simp only [List.getElem_toArray, List.getElem_cons_zero, List.getElem_cons_succ])
            go_simp
            try with_reducible rfl
          (try simp only [List.getElem_toArray, List.getElem_cons_zero, List.getElem_cons_succ, Act.put, List.setIfInBounds_toArray, List.set_cons_zero, List.set_cons_succ])
          refine wpAnyH_ready (rs := [35]) (by kernel_rfl) (by simp) ?_
          refine AllReadyH.cons rfl (fun K hK => ?_) AllReadyH.nil
          (try simp only [List.getElem_toArray, List.getElem_cons_zero, List.getElem_cons_succ])
          go_simp
          refine hK.out _ _ trivial (fun hHeld => ?_)
          clear hK K
          (try simp only [List.getElem_toArray, List.getElem_cons_zero, List.getElem_cons_succ, Act.put, List.setIfInBounds_toArray, List.set_cons_zero, List.set_cons_succ])
          refine wpAnyH_ready (rs := [36]) (by kernel_rfl) (by simp) ?_
          refine AllReadyH.cons rfl (fun K hK => ?_) AllReadyH.nil
          (try simp only [List.getElem_toArray, List.getElem_cons_zero, List.getElem_cons_succ])
          go_simp
          refine hK.out _ _ trivial (fun hHeld => ?_)
          clear hK K
          (try simp only [List.getElem_toArray, List.getElem_cons_zero, List.getElem_cons_succ, Act.put, List.setIfInBounds_toArray, List.set_cons_zero, List.set_cons_succ])
          refine wpAnyH_take (i := 37) (v := ?vb37) rfl (by kernel_rfl) (by kernel_rfl) (by kernel_rfl) (fun _ _ _ h => h) (Or.inl ⟨by rfl, ?hyb37⟩) trivial ?restb37
          case hyb37 =>
            intro w hSw
            (try simp only [List.getElem_toArray, List.getElem_cons_zero, List.getElem_cons_succ])
            go_simp
            try with_reducible rfl
          (try simp only [List.getElem_toArray, List.getElem_cons_zero, List.getElem_cons_succ, Act.put, List.setIfInBounds_toArray, List.set_cons_zero, List.set_cons_succ])
          refine wpAnyH_take (i := 38) (v := ?vb38) rfl (by kernel_rfl) (by kernel_rfl) (by kernel_rfl) (fun _ _ _ h => h) (Or.inl ⟨by rfl, ?hyb38⟩) trivial ?restb38
          case hyb38 =>
            intro w hSw
            (try simp only [List.getElem_toArray, List.getElem_cons_zero, List.getElem_cons_succ])
            go_simp
            try with_reducible rfl
          (try simp only [List.getElem_toArray, List.getElem_cons_zero, List.getElem_cons_succ, Act.put, List.setIfInBounds_toArray, List.set_cons_zero, List.set_cons_succ])
          refine wpAnyH_take (i := 39) (v := ?vb39) rfl (by kernel_rfl) (by kernel_rfl) (by kernel_rfl) (fun _ _ _ h => h) (Or.inl ⟨by rfl, ?hyb39⟩) trivial ?restb39
          case hyb39 =>
            intro w hSw
            (try simp only [List.getElem_toArray, List.getElem_cons_zero, List.getElem_cons_succ])
            go_simp
            try with_reducible rfl
          (try simp only [List.getElem_toArray, List.getElem_cons_zero, List.getElem_cons_succ, Act.put, List.setIfInBounds_toArray, List.set_cons_zero, List.set_cons_succ])
          refine wpAnyH_take (i := 40) (v := ?vb40) rfl (by kernel_rfl) (by kernel_rfl) (by kernel_rfl) (fun _ _ _ h => h) (Or.inl ⟨by rfl, ?hyb40⟩) trivial ?restb40
          case hyb40 =>
            intro w hSw
            (try simp only [List.getElem_toArray, List.getElem_cons_zero, List.getElem_cons_succ])
            go_simp
            try with_reducible rfl
          (try simp only [List.getElem_toArray, List.getElem_cons_zero, List.getElem_cons_succ, Act.put, List.setIfInBounds_toArray, List.set_cons_zero, List.set_cons_succ])
          refine wpAnyH_take (i := 41) (v := ?vb41) rfl (by kernel_rfl) (by kernel_rfl) (by kernel_rfl) (fun _ _ _ h => h) (Or.inl ⟨by rfl, ?hyb41⟩) trivial ?restb41
          case hyb41 =>
            intro w hSw
            (try simp only [List.getElem_toArray, List.getElem_cons_zero, List.getElem_cons_succ])
            go_simp
            try with_reducible rfl
          (try simp only [List.getElem_toArray, List.getElem_cons_zero, List.getElem_cons_succ, Act.put, List.setIfInBounds_toArray, List.set_cons_zero, List.set_cons_succ])
          refine wpAnyH_done (by kernel_rfl) ?_ _
          obtain ⟨w8, hw8⟩ : ∃ w8, (w7.alloc (.cells #[.int .u8 (IntKind.u8.wrap (IntKind.i64.wrap (48 + (f : Int))))] 5)).drew = w8 := ⟨_, rfl⟩
          have HF8 : Hid (Fr [] w7 w8) := Lib.hid (by rw [← hw8]; exact ((Fr.refl [] w7).alloc _).drew)
          rw [hw8]
          clear hw8
          go_wp2_with fail
          go_loopg [19] 6 (fun gg i wr => ∃ j : Nat, j + gg = 6 ∧ i = .int .i64 j ∧ Fr [] w7 wr)
          case atStart => exact ⟨0, by omega, rfl, HF8.out⟩
          case round =>
            obtain ⟨j, hj, rfl, hf9⟩ := hrel
            have Hj := Lib.hid hj
            have HF9 := Lib.hid hf9
            by_cases hj6 : j < 6
            · have hj6' : (j : Int) < 6 := by omega
              have hj0 : (0 : Int) ≤ (j : Int) := by omega
              obtain ⟨t, ht, ht24⟩ := HR24.out j hj6
              have q9 := (HS1.out.to hf9) j t ht
              rw [Nat.zero_add] at q9
              have e24 : ((t.size : Int) != 24) = false := by rw [ht24]; rfl
              clear hj hf9 ht ht24
              go_wp2_with fail
              go_roundg (6 - (j + 1))
              case measure => have := Hj.out; omega
              case rel => exact ⟨j + 1, by have := Hj.out; omega, by go_num, HF9.out⟩
            · obtain rfl : j = 6 := by omega
              clear hj hf9
              go_wp2_with fail
              go_roundg (n - (k + 1))
              case measure => have := Hk.out; omega
              case rel => exact ⟨k + 1, y2, by have := Hk.out; omega, by go_num, HLV.out, HQ.out.to HF9.out⟩
      · by_cases h0 : K = 0
        · subst h0
          obtain ⟨V0, rfl⟩ : ∃ V0, V0 = wr := ⟨_, rfl⟩
          have HSB : Hid (∀ W, Fr [c, q] (V0.alloc (.cells #[.int .i64 on, .int .i64 0, .int .i64 a, .string s] 46)) W → W.cell? ⟨V0.heap.size, 3, none⟩ = some (.string s)) := Lib.hid fun W hf => ((HBX.out.fr hf (by simp; omega)).cell 3).trans rfl
          clear HWR HBX hv
          go_wp2_with (first
            | (refine wpList_load_mid rfl 46 (.tmp 44) rfl b (off + k * 4) rfl [.int .i64 on, .int .i64 0, .int .i64 a, .string s] _ hr Tryd.underlying46 rfl size46 ?_)
            | (go_at_call 17; refine HV1.out.focus.mono ?_; rintro e wz ⟨rfl, rfl⟩))
          go_loopg [13, 14, 15] s.size (fun gg i r1 r2 wr => ∃ (j : Nat) (y1 : Con), j + gg = s.size ∧ i = .int .i64 j ∧ y1.lv = n' ∧ Cn w wr c q y1 ∧ Fr [c, q] (V0.alloc (.cells #[.int .i64 on, .int .i64 0, .int .i64 a, .string s] 46)) wr)
          case atStart => exact ⟨0, y, by omega, rfl, HYL.out, HV1.out, Fr.refl _ _⟩
          case round =>
            obtain ⟨j, y1, hj, rfl, hl1, hv1, hf1⟩ := hrel
            have Hj := Lib.hid hj
            have HF1 := Lib.hid hf1
            have kc := HSB.out _ hf1
            by_cases hjs : j < s.size
            · have hjs' : (j : Int) < (s.size : Int) := by omega
              have hj0 : (0 : Int) ≤ (j : Int) := by omega
              have HKC := Lib.hid (hv1.key s[j])
              have HFA := Lib.hid hv1.focus
              obtain ⟨kf1, kf2⟩ := key_fo y1 s[j]
              have klv : (key y1 s[j]).lv = n' := (keysX_lv [s[j]] y1).1.trans hl1
              obtain ⟨y2, hy2⟩ : ∃ y2, key y1 s[j] = y2 := ⟨_, rfl⟩
              rw [hy2] at HKC kf1 kf2 klv
              have HL2 := Lib.hid klv
              obtain ⟨f1, hf1'⟩ : ∃ f1, y1.fo = f1 := ⟨_, rfl⟩
              rw [hf1'] at HFA kf1
              have HFB : Hid (∀ W, Cn w W c q y2 → Calls Tryd.prog 17 #[ptr c] W fun e w' => e = .returned (.int .i64 y2.fo) ∧ W = w') := Lib.hid fun W hc => hc.focus
              have HSC : Hid (y2.sc = sclear → ∀ W, Cn w W c q y2 → Calls Tryd.prog 15 #[ptr c] W (RowP W [sp24, sp24, sp24, sp24, sp24, sp24])) := Lib.hid fun he W hc => by
                have := hc.screen
                rw [he, clear_rows] at this
                exact this
              obtain ⟨f2, hf2'⟩ : ∃ f2, y2.fo = f2 := ⟨_, rfl⟩
              rw [hf2'] at HFB kf1 kf2
              clear hj hf1 hv1 hl1 klv hy2 hf1' hf2'
              by_cases b1 : s[j].toNat = 1
              · have e1 : ((s[j].toNat : Int) == 1) = true := by rw [b1]; rfl
                have hm := kf2 b1
                clear b1 kf1 kf2 HSC
                subst hm
                by_cases hff : (-1 : Int) = f1
                · subst hff
                  go_wp2_with (first
                    | (go_at_call 13; refine HKC.out.mono ?_; rintro e w3 ⟨rfl, hQ, hf3⟩; have HQ := Lib.hid hQ; have HF3 := Lib.hid (HF1.out.trans hf3); have kc3 := HSB.out _ HF3.out; clear hf3)
                    | (go_at_call 17; refine (HFB.out _ hQ).mono ?_; rintro e wz ⟨rfl, rfl⟩)
                    | (go_at_call 17; refine HFA.out.mono ?_; rintro e wz ⟨rfl, rfl⟩))
                  go_roundg (s.size - (j + 1))
                  case measure => have := Hj.out; omega
                  case rel => exact ⟨j + 1, y2, by have := Hj.out; omega, by go_num, HL2.out, HQ.out, HF3.out⟩
                · have e2 : ((-1 : Int) != f1) = true := bne_iff_ne.2 hff
                  have e2' : ((-1 : Int) == f1) = false := beq_eq_false_iff_ne.2 hff
                  clear hff
                  go_wp2_with (first
                    | (go_at_call 13; refine HKC.out.mono ?_; rintro e w3 ⟨rfl, hQ, hf3⟩; have HQ := Lib.hid hQ; have HF3 := Lib.hid (HF1.out.trans hf3); have kc3 := HSB.out _ HF3.out; clear hf3)
                    | (go_at_call 17; refine (HFB.out _ hQ).mono ?_; rintro e wz ⟨rfl, rfl⟩)
                    | (go_at_call 17; refine HFA.out.mono ?_; rintro e wz ⟨rfl, rfl⟩))
                  go_roundg (s.size - (j + 1))
                  case measure => have := Hj.out; omega
                  case rel => exact ⟨j + 1, y2, by have := Hj.out; omega, by go_num, HL2.out, HQ.out, HF3.out⟩
              · have e1 : ((s[j].toNat : Int) == 1) = false := beq_eq_false_iff_ne.2 (by omega)
                clear b1 kf2
                by_cases hff : f2 = f1
                · subst hff
                  clear HSC kf1
                  go_wp2_with (first
                    | (go_at_call 13; refine HKC.out.mono ?_; rintro e w3 ⟨rfl, hQ, hf3⟩; have HQ := Lib.hid hQ; have HF3 := Lib.hid (HF1.out.trans hf3); have kc3 := HSB.out _ HF3.out; clear hf3)
                    | (go_at_call 17; refine (HFB.out _ hQ).mono ?_; rintro e wz ⟨rfl, rfl⟩)
                    | (go_at_call 17; refine HFA.out.mono ?_; rintro e wz ⟨rfl, rfl⟩))
                  go_roundg (s.size - (j + 1))
                  case measure => have := Hj.out; omega
                  case rel => exact ⟨j + 1, y2, by have := Hj.out; omega, by go_num, HL2.out, HQ.out, HF3.out⟩
                · have e2 : (f2 != f1) = true := bne_iff_ne.2 hff
                  have e2' : (f2 == f1) = false := beq_eq_false_iff_ne.2 hff
                  by_cases hf0 : 0 ≤ f2
                  · have HSC := Lib.hid (HSC.out (kf1 hff hf0))
                    clear kf1 hff
                    go_wp2_with (first
                      | (go_at_call 13; refine HKC.out.mono ?_; rintro e w3 ⟨rfl, hQ, hf3⟩; have HQ := Lib.hid hQ; have HF3 := Lib.hid (HF1.out.trans hf3); have kc3 := HSB.out _ HF3.out; clear hf3)
                      | (go_at_call 17; refine (HFB.out _ hQ).mono ?_; rintro e wz ⟨rfl, rfl⟩)
                      | (go_at_call 17; refine HFA.out.mono ?_; rintro e wz ⟨rfl, rfl⟩)
                      | (go_at_call 15; refine (HSC.out _ hQ).mono ?_; rintro e w4 ⟨g, gc, rfl, gl, gm, hrow, hf4, hg4⟩; have HQ4 := Lib.hid (hQ.to hf4); have HF4 := Lib.hid (HF3.out.trans (hf4.mono (by simp))); have hs6 := same6 (W0 := w4) (cap := gc) (show ([sp24, sp24, sp24, sp24, sp24, sp24] : List ByteArray).length = 6 from rfl) hrow sp24 sp24 sp24 sp24 sp24 sp24; rw [decide_eq_true rfl] at hs6; have HS6 := Lib.hid hs6; clear hs6 hf4 hrow gl gm hQ)
                      | (go_at_call 16; refine (HRW.out _).mono ?_; rintro e wz ⟨rfl, rfl⟩)
                      | (go_at_call 14; refine HS6.out.mono ?_; rintro e w5 ⟨rfl, hf5⟩; have HQ5 := Lib.hid ((HQ4.out.to ((Fr.refl [] w4).alloc _)).to hf5); have HF5 := Lib.hid ((HF4.out.alloc _).trans (hf5.mono (by simp))); have kc5 := HSB.out _ HF5.out; clear hf5))
                    go_roundg (s.size - (j + 1))
                    case measure => have := Hj.out; omega
                    case rel => exact ⟨j + 1, y2, by have := Hj.out; omega, by go_num, HL2.out, HQ5.out, HF5.out⟩
                  · have e3 : ¬ (0 : Int) ≤ f2 := hf0
                    have e3' : decide ((0 : Int) ≤ f2) = false := decide_eq_false hf0
                    clear HSC kf1 hff hf0
                    go_wp2_with (first
                      | (go_at_call 13; refine HKC.out.mono ?_; rintro e w3 ⟨rfl, hQ, hf3⟩; have HQ := Lib.hid hQ; have HF3 := Lib.hid (HF1.out.trans hf3); have kc3 := HSB.out _ HF3.out; clear hf3)
                      | (go_at_call 17; refine (HFB.out _ hQ).mono ?_; rintro e wz ⟨rfl, rfl⟩)
                      | (go_at_call 17; refine HFA.out.mono ?_; rintro e wz ⟨rfl, rfl⟩))
                    go_roundg (s.size - (j + 1))
                    case measure => have := Hj.out; omega
                    case rel => exact ⟨j + 1, y2, by have := Hj.out; omega, by go_num, HL2.out, HQ.out, HF3.out⟩
            · have hjs' : ¬ (j : Int) < (s.size : Int) := by omega
              obtain ⟨y2, rfl⟩ : ∃ y2, y2 = y1 := ⟨_, rfl⟩
              have hv := hv1
              have hv0 := hv
              have HLV := Lib.hid hl1
              clear hj hf1 hv1 hl1
              have hok := hv0.ok
              by_cases hf : y2.fo = -1
              · have TF : Hid (∀ W, Cn w W c q y2 → Calls Tryd.prog 17 #[ptr c] W fun e w' => e = .returned (.int .i64 (-1)) ∧ W = w') := Lib.hid fun W hc => by
                  have hh := hc.focus
                  rw [hf] at hh
                  exact hh
                have TB : Hid (∀ W, Cn w W c q y2 → Calls Tryd.prog 20 #[ptr c] W fun e w' => e = .returned (.string ⟨#[91, 84, 82, 85, 83, 84, 69, 68, 93, 32, 32, 32, 32, 32, 32, 32, 32, 32, 32, 32, 32, 32, 32, 32]⟩) ∧ W = w') := Lib.hid fun W hc => by
                  have hh := hc.banner
                  unfold banner at hh
                  rw [if_pos hf] at hh
                  exact hh
                have TS : Hid (∀ W, Cn w W c q y2 → Calls Tryd.prog 15 #[ptr c] W fun e w' => ∃ g cap, e = .returned (.slice (some ⟨g, 0, none⟩) 6 cap) ∧ StrsAt w' g 0 (screenL y2.sc) ∧ Fr [] W w') := Lib.hid fun W hc => hc.screen.mono (by
                  rintro e w' ⟨g, cap, he, -, -, hk, hf, -⟩
                  rw [screen_len] at he
                  exact ⟨g, cap, he, hk.strs, hf⟩)
                have HR24 : Hid (∀ j, j < 6 → ∃ t : ByteArray, (screenL y2.sc)[j]? = some t ∧ t.size = 24) := Lib.hid fun j hj => ⟨rowB y2.sc j, by simp [screenL, hj], rowB_size _ _⟩
                generalize screenL y2.sc = rows at *
                have hL1 : decide ((n' : Int) ≤ -1) = false := decide_eq_false (by omega)
                have hx9 : (((⟨#[91, 84, 82, 85, 83, 84, 69, 68, 93, 32, 32, 32, 32, 32, 32, 32, 32, 32, 32, 32, 32, 32, 32, 32]⟩ : ByteArray).extract 0 9).toList == [91, 84, 82, 85, 83, 84, 69, 68, 93]) = true := by decide +kernel
                go_wp2_with (first
                  | (go_at_call 17; have hq := TF.out _ hv; (with_reducible refine hq.mono ?_); clear hq; rintro e wz ⟨rfl, rfl⟩)
                  | (go_at_call 20; have hq := TB.out _ hv; (with_reducible refine hq.mono ?_); clear hq; rintro e wz ⟨rfl, rfl⟩)
                  | (go_at_call 15; have hq := TS.out _ hv; (with_reducible refine hq.mono ?_); clear hq; rintro e w7 ⟨g1, o1, rfl, hs1, hf7⟩; have HQ := Lib.hid (hv.to hf7); have HS1 := Lib.hid hs1; clear hf7 hs1 hv))
                clear TF TB TS hok
                go_quiet (fail)
                obtain ⟨w8, hw8⟩ : ∃ w8, w7.drewN nq = w8 := ⟨_, rfl⟩
                have HF8 : Hid (Fr [] w7 w8) := Lib.hid (by rw [← hw8]; exact (Fr.refl [] w7).drewN nq)
                rw [hw8]
                clear hw8
                go_wp2_with fail
                go_loopg [19] 6 (fun gg i wr => ∃ j : Nat, j + gg = 6 ∧ i = .int .i64 j ∧ Fr [] w7 wr)
                case atStart => exact ⟨0, by omega, rfl, HF8.out⟩
                case round =>
                  obtain ⟨j, hj, rfl, hf9⟩ := hrel
                  have Hj := Lib.hid hj
                  have HF9 := Lib.hid hf9
                  by_cases hj6 : j < 6
                  · have hj6' : (j : Int) < 6 := by omega
                    have hj0 : (0 : Int) ≤ (j : Int) := by omega
                    obtain ⟨t, ht, ht24⟩ := HR24.out j hj6
                    have q9 := (HS1.out.to hf9) j t ht
                    rw [Nat.zero_add] at q9
                    have e24 : ((t.size : Int) != 24) = false := by rw [ht24]; rfl
                    clear hj hf9 ht ht24
                    go_wp2_with fail
                    go_roundg (6 - (j + 1))
                    case measure => have := Hj.out; omega
                    case rel => exact ⟨j + 1, by have := Hj.out; omega, by go_num, HF9.out⟩
                  · obtain rfl : j = 6 := by omega
                    clear hj hf9
                    go_wp2_with fail
                    go_roundg (n - (k + 1))
                    case measure => have := Hk.out; omega
                    case rel => exact ⟨k + 1, y2, by have := Hk.out; omega, by go_num, HLV.out, HQ.out.to HF9.out⟩
              · obtain ⟨f, hf'⟩ : ∃ f : Nat, y2.fo = (f : Int) := Int.eq_ofNat_of_zero_le (by have := hok.f0; omega)
                have hnf := hf
                clear hf
                rename y2.fo = (f : Int) => hf
                have hfn' : (f : Int) < (n' : Int) := by have h1 := hok.f1; have h2 := HLV.out; omega
                have hf0 : (0 : Int) ≤ (f : Int) := by omega
                have hf8 : (f : Int) < 8 := by have h1 := HL8.out; omega
                have hfn1 : decide ((f : Int) < -1) = false := decide_eq_false (by omega)
                have hfn0 : decide ((f : Int) < 0) = false := decide_eq_false (by omega)
                have hfn2 : decide (n' ≤ f) = false := decide_eq_false (by omega)
                have TF : Hid (∀ W, Cn w W c q y2 → Calls Tryd.prog 17 #[ptr c] W fun e w' => e = .returned (.int .i64 (f : Int)) ∧ W = w') := Lib.hid fun W hc => by
                  have hh := hc.focus
                  rw [hf] at hh
                  exact hh
                have TB : Hid (∀ W, Cn w W c q y2 → Calls Tryd.prog 20 #[ptr c] W fun e w' => e = .returned (.string ⟨#[91, 76, 69, 86, 69, 76, 32, dig f, 93, 32, 32, 32, 32, 32, 32, 32, 32, 32, 32, 32, 32, 32, 32, 32]⟩) ∧ W = w') := Lib.hid fun W hc => by
                  have hh := hc.banner
                  unfold banner at hh
                  rw [if_neg hnf, hf, Int.toNat_natCast] at hh
                  exact hh
                have TS : Hid (∀ W, Cn w W c q y2 → Calls Tryd.prog 15 #[ptr c] W fun e w' => ∃ g cap, e = .returned (.slice (some ⟨g, 0, none⟩) 6 cap) ∧ StrsAt w' g 0 (screenL y2.sc) ∧ Fr [] W w') := Lib.hid fun W hc => hc.screen.mono (by
                  rintro e w' ⟨g, cap, he, -, -, hk, hf, -⟩
                  rw [screen_len] at he
                  exact ⟨g, cap, he, hk.strs, hf⟩)
                have HR24 : Hid (∀ j, j < 6 → ∃ t : ByteArray, (screenL y2.sc)[j]? = some t ∧ t.size = 24) := Lib.hid fun j hj => ⟨rowB y2.sc j, by simp [screenL, hj], rowB_size _ _⟩
                generalize screenL y2.sc = rows at *
                clear hnf
                go_wp2_with (first
                  | (go_at_call 17; have hq := TF.out _ hv; (with_reducible refine hq.mono ?_); clear hq; rintro e wz ⟨rfl, rfl⟩)
                  | (go_at_call 20; have hq := TB.out _ hv; (with_reducible refine hq.mono ?_); clear hq; rintro e wz ⟨rfl, rfl⟩)
                  | (go_at_call 15; have hq := TS.out _ hv; (with_reducible refine hq.mono ?_); clear hq; rintro e w7 ⟨g1, o1, rfl, hs1, hf7⟩; have HQ := Lib.hid (hv.to hf7); have HS1 := Lib.hid hs1; clear hf7 hs1 hv))
                clear TF TB TS hok
                have hx9 : (⟨#[91, 76, 69, 86, 69, 76, 32, dig f, 93, 32, 32, 32, 32, 32, 32, 32, 32, 32, 32, 32, 32, 32, 32, 32]⟩ : ByteArray).extract 0 9 = (⟨#[91, 76, 69, 86, 69, 76, 32]⟩ ++ ⟨#[dig f]⟩ ++ ⟨#[93]⟩ : ByteArray) := by
                  generalize dig f = D
                  rfl
                have hw : ((dig f).toNat : Int) = IntKind.u8.wrap (IntKind.i64.wrap (48 + (f : Int))) := by
                  have e1 : IntKind.i64.wrap (48 + (f : Int)) = 48 + (f : Int) := IntWalk.i64_in _ (by omega)
                  have e2 : IntKind.u8.wrap (48 + (f : Int)) = 48 + (f : Int) := by
                    simp [IntKind.wrap, IntKind.bits, IntKind.signed]
                    omega
                  rw [e1, e2, dig_toNat (by omega)]
                  omega
                have hcv := conv_one (w7.alloc (.cells #[.int .u8 ((dig f).toNat : Int)] 5)).drew w7.heap.size (dig f) (by simp)
                rw [hw] at hcv
                clear hw
                refine wp_region_held_drew (S := fun _ => True) (by kernel_rfl) trivial (fun hHeld => ?_)
                refine wpAnyH_take (i := 0) (v := ?vd0) rfl (by kernel_rfl) (by kernel_rfl) (by kernel_rfl) (fun _ _ _ h => h) (Or.inl ⟨by rfl, ?hyd0⟩) trivial ?restd0
                case hyd0 =>
                  intro w hSw
                  (try simp only [List.getElem_toArray, List.getElem_cons_zero, List.getElem_cons_succ])
                  go_simp
                  try with_reducible rfl
                (try simp only [List.getElem_toArray, List.getElem_cons_zero, List.getElem_cons_succ, Act.put, List.setIfInBounds_toArray, List.set_cons_zero, List.set_cons_succ])
                refine wpAnyH_take (i := 1) (v := ?vd1) rfl (by kernel_rfl) (by kernel_rfl) (by kernel_rfl) (fun _ _ _ h => h) (Or.inl ⟨by rfl, ?hyd1⟩) trivial ?restd1
                case hyd1 =>
                  intro w hSw
                  (try simp only [List.getElem_toArray, List.getElem_cons_zero, List.getElem_cons_succ])
                  go_simp
                  try with_reducible rfl
                (try simp only [List.getElem_toArray, List.getElem_cons_zero, List.getElem_cons_succ, Act.put, List.setIfInBounds_toArray, List.set_cons_zero, List.set_cons_succ])
                refine wpAnyH_take (i := 2) (v := ?vd2) rfl (by kernel_rfl) (by kernel_rfl) (by kernel_rfl) (fun _ _ _ h => h) (Or.inl ⟨by rfl, ?hyd2⟩) trivial ?restd2
                case hyd2 =>
                  intro w hSw
                  (try simp only [List.getElem_toArray, List.getElem_cons_zero, List.getElem_cons_succ])
                  go_simp
                  try with_reducible rfl
                (try simp only [List.getElem_toArray, List.getElem_cons_zero, List.getElem_cons_succ, Act.put, List.setIfInBounds_toArray, List.set_cons_zero, List.set_cons_succ])
                refine wpAnyH_take (i := 3) (v := ?vd3) rfl (by kernel_rfl) (by kernel_rfl) (by kernel_rfl) (fun _ _ _ h => h) (Or.inl ⟨by rfl, ?hyd3⟩) trivial ?restd3
                case hyd3 =>
                  intro w hSw
                  (try simp only [List.getElem_toArray, List.getElem_cons_zero, List.getElem_cons_succ])
                  go_simp
                  try with_reducible rfl
                (try simp only [List.getElem_toArray, List.getElem_cons_zero, List.getElem_cons_succ, Act.put, List.setIfInBounds_toArray, List.set_cons_zero, List.set_cons_succ])
                refine wpAnyH_take (i := 4) (v := ?vd4) rfl (by kernel_rfl) (by kernel_rfl) (by kernel_rfl) (fun _ _ _ h => h) (Or.inl ⟨by rfl, ?hyd4⟩) trivial ?restd4
                case hyd4 =>
                  intro w hSw
                  (try simp only [List.getElem_toArray, List.getElem_cons_zero, List.getElem_cons_succ])
                  go_simp
                  try with_reducible rfl
                (try simp only [List.getElem_toArray, List.getElem_cons_zero, List.getElem_cons_succ, Act.put, List.setIfInBounds_toArray, List.set_cons_zero, List.set_cons_succ])
                refine wpAnyH_take (i := 5) (v := ?vd5) rfl (by kernel_rfl) (by kernel_rfl) (by kernel_rfl) (fun _ _ _ h => h) (Or.inl ⟨by rfl, ?hyd5⟩) trivial ?restd5
                case hyd5 =>
                  intro w hSw
                  (try simp only [List.getElem_toArray, List.getElem_cons_zero, List.getElem_cons_succ])
                  go_simp
                  try with_reducible rfl
                (try simp only [List.getElem_toArray, List.getElem_cons_zero, List.getElem_cons_succ, Act.put, List.setIfInBounds_toArray, List.set_cons_zero, List.set_cons_succ])
                refine wpAnyH_take (i := 6) (v := ?vd6) rfl (by kernel_rfl) (by kernel_rfl) (by kernel_rfl) (fun _ _ _ h => h) (Or.inl ⟨by rfl, ?hyd6⟩) trivial ?restd6
                case hyd6 =>
                  intro w hSw
                  (try simp only [List.getElem_toArray, List.getElem_cons_zero, List.getElem_cons_succ])
                  go_simp
                  try with_reducible rfl
                (try simp only [List.getElem_toArray, List.getElem_cons_zero, List.getElem_cons_succ, Act.put, List.setIfInBounds_toArray, List.set_cons_zero, List.set_cons_succ])
                refine wpAnyH_take (i := 7) (v := ?vd7) rfl (by kernel_rfl) (by kernel_rfl) (by kernel_rfl) (fun _ _ _ h => h) (Or.inl ⟨by rfl, ?hyd7⟩) trivial ?restd7
                case hyd7 =>
                  intro w hSw
                  (try simp only [List.getElem_toArray, List.getElem_cons_zero, List.getElem_cons_succ])
                  go_simp
                  try with_reducible rfl
                (try simp only [List.getElem_toArray, List.getElem_cons_zero, List.getElem_cons_succ, Act.put, List.setIfInBounds_toArray, List.set_cons_zero, List.set_cons_succ])
                refine wpAnyH_take (i := 8) (v := ?vd8) rfl (by kernel_rfl) (by kernel_rfl) (by kernel_rfl) (fun _ _ _ h => h) (Or.inl ⟨by rfl, ?hyd8⟩) trivial ?restd8
                case hyd8 =>
                  intro w hSw
                  (try simp only [List.getElem_toArray, List.getElem_cons_zero, List.getElem_cons_succ])
                  go_simp
                  try with_reducible rfl
                (try simp only [List.getElem_toArray, List.getElem_cons_zero, List.getElem_cons_succ, Act.put, List.setIfInBounds_toArray, List.set_cons_zero, List.set_cons_succ])
                refine wpAnyH_take (i := 9) (v := ?vd9) rfl (by kernel_rfl) (by kernel_rfl) (by kernel_rfl) (fun _ _ _ h => h) (Or.inl ⟨by rfl, ?hyd9⟩) trivial ?restd9
                case hyd9 =>
                  intro w hSw
                  (try simp only [List.getElem_toArray, List.getElem_cons_zero, List.getElem_cons_succ])
                  go_simp
                  try with_reducible rfl
                (try simp only [List.getElem_toArray, List.getElem_cons_zero, List.getElem_cons_succ, Act.put, List.setIfInBounds_toArray, List.set_cons_zero, List.set_cons_succ])
                refine wpAnyH_take (i := 10) (v := ?vd10) rfl (by kernel_rfl) (by kernel_rfl) (by kernel_rfl) (fun _ _ _ h => h) (Or.inl ⟨by rfl, ?hyd10⟩) trivial ?restd10
                case hyd10 =>
                  intro w hSw
                  (try simp only [List.getElem_toArray, List.getElem_cons_zero, List.getElem_cons_succ])
                  go_simp
                  try with_reducible rfl
                (try simp only [List.getElem_toArray, List.getElem_cons_zero, List.getElem_cons_succ, Act.put, List.setIfInBounds_toArray, List.set_cons_zero, List.set_cons_succ])
                refine wpAnyH_take (i := 11) (v := ?vd11) rfl (by kernel_rfl) (by kernel_rfl) (by kernel_rfl) (fun _ _ _ h => h) (Or.inl ⟨by rfl, ?hyd11⟩) trivial ?restd11
                case hyd11 =>
                  intro w hSw
                  (try simp only [List.getElem_toArray, List.getElem_cons_zero, List.getElem_cons_succ])
                  go_simp
                  try with_reducible rfl
                (try simp only [List.getElem_toArray, List.getElem_cons_zero, List.getElem_cons_succ, Act.put, List.setIfInBounds_toArray, List.set_cons_zero, List.set_cons_succ])
                refine wpAnyH_take (i := 12) (v := ?vd12) rfl (by kernel_rfl) (by kernel_rfl) (by kernel_rfl) (fun _ _ _ h => h) (Or.inl ⟨by rfl, ?hyd12⟩) trivial ?restd12
                case hyd12 =>
                  intro w hSw
                  (try simp only [List.getElem_toArray, List.getElem_cons_zero, List.getElem_cons_succ])
                  go_simp
                  try with_reducible rfl
                (try simp only [List.getElem_toArray, List.getElem_cons_zero, List.getElem_cons_succ, Act.put, List.setIfInBounds_toArray, List.set_cons_zero, List.set_cons_succ])
                refine wpAnyH_take (i := 13) (v := ?vd13) rfl (by kernel_rfl) (by kernel_rfl) (by kernel_rfl) (fun _ _ _ h => h) (Or.inl ⟨by rfl, ?hyd13⟩) trivial ?restd13
                case hyd13 =>
                  intro w hSw
                  (try simp only [List.getElem_toArray, List.getElem_cons_zero, List.getElem_cons_succ])
                  go_simp
                  try with_reducible rfl
                (try simp only [List.getElem_toArray, List.getElem_cons_zero, List.getElem_cons_succ, Act.put, List.setIfInBounds_toArray, List.set_cons_zero, List.set_cons_succ])
                refine wpAnyH_take (i := 14) (v := ?vd14) rfl (by kernel_rfl) (by kernel_rfl) (by kernel_rfl) (fun _ _ _ h => h) (Or.inl ⟨by rfl, ?hyd14⟩) trivial ?restd14
                case hyd14 =>
                  intro w hSw
                  (try simp only [List.getElem_toArray, List.getElem_cons_zero, List.getElem_cons_succ])
                  go_simp
                  try with_reducible rfl
                (try simp only [List.getElem_toArray, List.getElem_cons_zero, List.getElem_cons_succ, Act.put, List.setIfInBounds_toArray, List.set_cons_zero, List.set_cons_succ])
                refine wpAnyH_take (i := 15) (v := ?vd15) rfl (by kernel_rfl) (by kernel_rfl) (by kernel_rfl) (fun _ _ _ h => h) (Or.inl ⟨by rfl, ?hyd15⟩) trivial ?restd15
                case hyd15 =>
                  intro w hSw
                  (try simp only [List.getElem_toArray, List.getElem_cons_zero, List.getElem_cons_succ])
                  go_simp
                  try with_reducible rfl
                (try simp only [List.getElem_toArray, List.getElem_cons_zero, List.getElem_cons_succ, Act.put, List.setIfInBounds_toArray, List.set_cons_zero, List.set_cons_succ])
                refine wpAnyH_take (i := 16) (v := ?vd16) rfl (by kernel_rfl) (by kernel_rfl) (by kernel_rfl) (fun _ _ _ h => h) (Or.inl ⟨by rfl, ?hyd16⟩) trivial ?restd16
                case hyd16 =>
                  intro w hSw
                  (try simp only [List.getElem_toArray, List.getElem_cons_zero, List.getElem_cons_succ])
                  go_simp
                  try with_reducible rfl
                (try simp only [List.getElem_toArray, List.getElem_cons_zero, List.getElem_cons_succ, Act.put, List.setIfInBounds_toArray, List.set_cons_zero, List.set_cons_succ])
                refine wpAnyH_take (i := 17) (v := ?vd17) rfl (by kernel_rfl) (by kernel_rfl) (by kernel_rfl) (fun _ _ _ h => h) (Or.inl ⟨by rfl, ?hyd17⟩) trivial ?restd17
                case hyd17 =>
                  intro w hSw
                  (try simp only [List.getElem_toArray, List.getElem_cons_zero, List.getElem_cons_succ])
                  go_simp
                  try with_reducible rfl
                (try simp only [List.getElem_toArray, List.getElem_cons_zero, List.getElem_cons_succ, Act.put, List.setIfInBounds_toArray, List.set_cons_zero, List.set_cons_succ])
                refine wpAnyH_take (i := 18) (v := ?vd18) rfl (by kernel_rfl) (by kernel_rfl) (by kernel_rfl) (fun _ _ _ h => h) (Or.inl ⟨by rfl, ?hyd18⟩) trivial ?restd18
                case hyd18 =>
                  intro w hSw
                  (try simp only [List.getElem_toArray, List.getElem_cons_zero, List.getElem_cons_succ])
                  go_simp
                  try with_reducible rfl
                (try simp only [List.getElem_toArray, List.getElem_cons_zero, List.getElem_cons_succ, Act.put, List.setIfInBounds_toArray, List.set_cons_zero, List.set_cons_succ])
                refine wpAnyH_take (i := 19) (v := ?vd19) rfl (by kernel_rfl) (by kernel_rfl) (by kernel_rfl) (fun _ _ _ h => h) (Or.inl ⟨by rfl, ?hyd19⟩) trivial ?restd19
                case hyd19 =>
                  intro w hSw
                  (try simp only [List.getElem_toArray, List.getElem_cons_zero, List.getElem_cons_succ])
                  go_simp
                  try with_reducible rfl
                (try simp only [List.getElem_toArray, List.getElem_cons_zero, List.getElem_cons_succ, Act.put, List.setIfInBounds_toArray, List.set_cons_zero, List.set_cons_succ])
                refine wpAnyH_take (i := 20) (v := ?vd20) rfl (by kernel_rfl) (by kernel_rfl) (by kernel_rfl) (fun _ _ _ h => h) (Or.inl ⟨by rfl, ?hyd20⟩) trivial ?restd20
                case hyd20 =>
                  intro w hSw
                  (try simp only [List.getElem_toArray, List.getElem_cons_zero, List.getElem_cons_succ])
                  go_simp
                  try with_reducible rfl
                (try simp only [List.getElem_toArray, List.getElem_cons_zero, List.getElem_cons_succ, Act.put, List.setIfInBounds_toArray, List.set_cons_zero, List.set_cons_succ])
                refine wpAnyH_take (i := 21) rfl (by kernel_rfl) (by kernel_rfl) (by kernel_rfl) (fun _ _ _ h => h) (Or.inr ⟨by rfl, rfl⟩) trivial ?_
                (try simp only [List.getElem_toArray, List.getElem_cons_zero, List.getElem_cons_succ, Act.put, List.setIfInBounds_toArray, List.set_cons_zero, List.set_cons_succ])
                refine wpAnyH_take (i := 22) rfl (by kernel_rfl) (by kernel_rfl) (by kernel_rfl) (fun _ _ _ h => h) (Or.inr ⟨by rfl, rfl⟩) trivial ?_
                (try simp only [List.getElem_toArray, List.getElem_cons_zero, List.getElem_cons_succ, Act.put, List.setIfInBounds_toArray, List.set_cons_zero, List.set_cons_succ])
                refine wpAnyH_take (i := 23) rfl (by kernel_rfl) (by kernel_rfl) (by kernel_rfl) (fun _ _ _ h => h) (Or.inr ⟨by rfl, rfl⟩) trivial ?_
                (try simp only [List.getElem_toArray, List.getElem_cons_zero, List.getElem_cons_succ, Act.put, List.setIfInBounds_toArray, List.set_cons_zero, List.set_cons_succ])
                refine wpAnyH_take (i := 24) (v := ?vd24) rfl (by kernel_rfl) (by kernel_rfl) (by kernel_rfl) (fun _ _ _ h => h) (Or.inl ⟨by rfl, ?hyd24⟩) trivial ?restd24
                case hyd24 =>
                  intro w hSw
                  (try simp only [List.getElem_toArray, List.getElem_cons_zero, List.getElem_cons_succ])
                  go_simp
                  try with_reducible rfl
                (try simp only [List.getElem_toArray, List.getElem_cons_zero, List.getElem_cons_succ, Act.put, List.setIfInBounds_toArray, List.set_cons_zero, List.set_cons_succ])
                refine wpAnyH_take (i := 25) (v := ?vd25) rfl (by kernel_rfl) (by kernel_rfl) (by kernel_rfl) (fun _ _ _ h => h) (Or.inl ⟨by rfl, ?hyd25⟩) trivial ?restd25
                case hyd25 =>
                  intro w hSw
                  (try simp only [List.getElem_toArray, List.getElem_cons_zero, List.getElem_cons_succ])
                  go_simp
                  try with_reducible rfl
                (try simp only [List.getElem_toArray, List.getElem_cons_zero, List.getElem_cons_succ, Act.put, List.setIfInBounds_toArray, List.set_cons_zero, List.set_cons_succ])
                refine wpAnyH_take (i := 26) (v := ?vd26) rfl (by kernel_rfl) (by kernel_rfl) (by kernel_rfl) (fun _ _ _ h => h) (Or.inl ⟨by rfl, ?hyd26⟩) trivial ?restd26
                case hyd26 =>
                  intro w hSw
                  (try simp only [List.getElem_toArray, List.getElem_cons_zero, List.getElem_cons_succ])
                  go_simp
                  try with_reducible rfl
                (try simp only [List.getElem_toArray, List.getElem_cons_zero, List.getElem_cons_succ, Act.put, List.setIfInBounds_toArray, List.set_cons_zero, List.set_cons_succ])
                refine wpAnyH_take (i := 27) (v := ?vd27) rfl (by kernel_rfl) (by kernel_rfl) (by kernel_rfl) (fun _ _ _ h => h) (Or.inl ⟨by rfl, ?hyd27⟩) trivial ?restd27
                case hyd27 =>
                  intro w hSw
                  (try simp only [List.getElem_toArray, List.getElem_cons_zero, List.getElem_cons_succ])
                  go_simp
                  try with_reducible rfl
                (try simp only [List.getElem_toArray, List.getElem_cons_zero, List.getElem_cons_succ, Act.put, List.setIfInBounds_toArray, List.set_cons_zero, List.set_cons_succ])
                refine wpAnyH_take (i := 28) (v := ?vd28) rfl (by kernel_rfl) (by kernel_rfl) (by kernel_rfl) (fun _ _ _ h => h) (Or.inl ⟨by rfl, ?hyd28⟩) trivial ?restd28
                case hyd28 =>
                  intro w hSw
                  (try simp only [List.getElem_toArray, List.getElem_cons_zero, List.getElem_cons_succ])
                  go_simp
                  try with_reducible rfl
                (try simp only [List.getElem_toArray, List.getElem_cons_zero, List.getElem_cons_succ, Act.put, List.setIfInBounds_toArray, List.set_cons_zero, List.set_cons_succ])
                refine wpAnyH_take (i := 29) (v := ?vd29) rfl (by kernel_rfl) (by kernel_rfl) (by kernel_rfl) (fun _ _ _ h => h) (Or.inl ⟨by rfl, ?hyd29⟩) trivial ?restd29
                case hyd29 =>
                  intro w hSw
                  (try simp only [List.getElem_toArray, List.getElem_cons_zero, List.getElem_cons_succ])
                  go_simp
                  try with_reducible rfl
                (try simp only [List.getElem_toArray, List.getElem_cons_zero, List.getElem_cons_succ, Act.put, List.setIfInBounds_toArray, List.set_cons_zero, List.set_cons_succ])
                refine wpAnyH_take (i := 30) (v := ?vd30) rfl (by kernel_rfl) (by kernel_rfl) (by kernel_rfl) (fun _ _ _ h => h) (Or.inl ⟨by rfl, ?hyd30⟩) trivial ?restd30
                case hyd30 =>
                  intro w hSw
                  (try simp only [List.getElem_toArray, List.getElem_cons_zero, List.getElem_cons_succ])
                  go_simp
                  try with_reducible rfl
                (try simp only [List.getElem_toArray, List.getElem_cons_zero, List.getElem_cons_succ, Act.put, List.setIfInBounds_toArray, List.set_cons_zero, List.set_cons_succ])
                refine wpAnyH_take (i := 31) (v := ?vd31) rfl (by kernel_rfl) (by kernel_rfl) (by kernel_rfl) (fun _ _ _ h => h) (Or.inl ⟨by rfl, ?hyd31⟩) trivial ?restd31
                case hyd31 =>
                  intro w hSw
                  (try simp only [List.getElem_toArray, List.getElem_cons_zero, List.getElem_cons_succ])
                  go_simp
                  try with_reducible rfl
                (try simp only [List.getElem_toArray, List.getElem_cons_zero, List.getElem_cons_succ, Act.put, List.setIfInBounds_toArray, List.set_cons_zero, List.set_cons_succ])
                refine wpAnyH_take (i := 32) (v := ?vd32) rfl (by kernel_rfl) (by kernel_rfl) (by kernel_rfl) (fun _ _ _ h => h) (Or.inl ⟨by rfl, ?hyd32⟩) trivial ?restd32
                case hyd32 =>
                  intro w hSw
                  (try simp only [List.getElem_toArray, List.getElem_cons_zero, List.getElem_cons_succ])
                  go_simp
                  try with_reducible rfl
                (try simp only [List.getElem_toArray, List.getElem_cons_zero, List.getElem_cons_succ, Act.put, List.setIfInBounds_toArray, List.set_cons_zero, List.set_cons_succ])
                refine wpAnyH_take (i := 33) (v := ?vd33) rfl (by kernel_rfl) (by kernel_rfl) (by kernel_rfl) (fun _ _ _ h => h) (Or.inl ⟨by rfl, ?hyd33⟩) trivial ?restd33
                case hyd33 =>
                  intro w hSw
                  (try simp only [List.getElem_toArray, List.getElem_cons_zero, List.getElem_cons_succ])
                  go_simp
                  try with_reducible rfl
                (try simp only [List.getElem_toArray, List.getElem_cons_zero, List.getElem_cons_succ, Act.put, List.setIfInBounds_toArray, List.set_cons_zero, List.set_cons_succ])
                refine wpAnyH_take (i := 34) (v := ?vd34) rfl (by kernel_rfl) (by kernel_rfl) (by kernel_rfl) (fun _ _ _ h => h) (Or.inl ⟨by rfl, ?hyd34⟩) trivial ?restd34
                case hyd34 =>
                  intro w hSw
                  (try simp only [List.getElem_toArray, List.getElem_cons_zero, List.getElem_cons_succ])
                  go_simp
                  try with_reducible rfl
                (try simp only [List.getElem_toArray, List.getElem_cons_zero, List.getElem_cons_succ, Act.put, List.setIfInBounds_toArray, List.set_cons_zero, List.set_cons_succ])
                refine wpAnyH_ready (rs := [35]) (by kernel_rfl) (by simp) ?_
                refine AllReadyH.cons rfl (fun K hK => ?_) AllReadyH.nil
                (try simp only [List.getElem_toArray, List.getElem_cons_zero, List.getElem_cons_succ])
                go_simp
                refine hK.out _ _ trivial (fun hHeld => ?_)
                clear hK K
                (try simp only [List.getElem_toArray, List.getElem_cons_zero, List.getElem_cons_succ, Act.put, List.setIfInBounds_toArray, List.set_cons_zero, List.set_cons_succ])
                refine wpAnyH_ready (rs := [36]) (by kernel_rfl) (by simp) ?_
                refine AllReadyH.cons rfl (fun K hK => ?_) AllReadyH.nil
                (try simp only [List.getElem_toArray, List.getElem_cons_zero, List.getElem_cons_succ])
                go_simp
                refine hK.out _ _ trivial (fun hHeld => ?_)
                clear hK K
                (try simp only [List.getElem_toArray, List.getElem_cons_zero, List.getElem_cons_succ, Act.put, List.setIfInBounds_toArray, List.set_cons_zero, List.set_cons_succ])
                refine wpAnyH_take (i := 37) (v := ?vd37) rfl (by kernel_rfl) (by kernel_rfl) (by kernel_rfl) (fun _ _ _ h => h) (Or.inl ⟨by rfl, ?hyd37⟩) trivial ?restd37
                case hyd37 =>
                  intro w hSw
                  (try simp only [List.getElem_toArray, List.getElem_cons_zero, List.getElem_cons_succ])
                  go_simp
                  try with_reducible rfl
                (try simp only [List.getElem_toArray, List.getElem_cons_zero, List.getElem_cons_succ, Act.put, List.setIfInBounds_toArray, List.set_cons_zero, List.set_cons_succ])
                refine wpAnyH_take (i := 38) (v := ?vd38) rfl (by kernel_rfl) (by kernel_rfl) (by kernel_rfl) (fun _ _ _ h => h) (Or.inl ⟨by rfl, ?hyd38⟩) trivial ?restd38
                case hyd38 =>
                  intro w hSw
                  (try simp only [List.getElem_toArray, List.getElem_cons_zero, List.getElem_cons_succ])
                  go_simp
                  try with_reducible rfl
                (try simp only [List.getElem_toArray, List.getElem_cons_zero, List.getElem_cons_succ, Act.put, List.setIfInBounds_toArray, List.set_cons_zero, List.set_cons_succ])
                refine wpAnyH_take (i := 39) (v := ?vd39) rfl (by kernel_rfl) (by kernel_rfl) (by kernel_rfl) (fun _ _ _ h => h) (Or.inl ⟨by rfl, ?hyd39⟩) trivial ?restd39
                case hyd39 =>
                  intro w hSw
                  (try simp only [List.getElem_toArray, List.getElem_cons_zero, List.getElem_cons_succ])
                  go_simp
                  try with_reducible rfl
                (try simp only [List.getElem_toArray, List.getElem_cons_zero, List.getElem_cons_succ, Act.put, List.setIfInBounds_toArray, List.set_cons_zero, List.set_cons_succ])
                refine wpAnyH_take (i := 40) (v := ?vd40) rfl (by kernel_rfl) (by kernel_rfl) (by kernel_rfl) (fun _ _ _ h => h) (Or.inl ⟨by rfl, ?hyd40⟩) trivial ?restd40
                case hyd40 =>
                  intro w hSw
                  (try simp only [List.getElem_toArray, List.getElem_cons_zero, List.getElem_cons_succ])
                  go_simp
                  try with_reducible rfl
                (try simp only [List.getElem_toArray, List.getElem_cons_zero, List.getElem_cons_succ, Act.put, List.setIfInBounds_toArray, List.set_cons_zero, List.set_cons_succ])
                refine wpAnyH_take (i := 41) (v := ?vd41) rfl (by kernel_rfl) (by kernel_rfl) (by kernel_rfl) (fun _ _ _ h => h) (Or.inl ⟨by rfl, ?hyd41⟩) trivial ?restd41
                case hyd41 =>
                  intro w hSw
                  (try simp only [List.getElem_toArray, List.getElem_cons_zero, List.getElem_cons_succ])
                  go_simp
                  try with_reducible rfl
                (try simp only [List.getElem_toArray, List.getElem_cons_zero, List.getElem_cons_succ, Act.put, List.setIfInBounds_toArray, List.set_cons_zero, List.set_cons_succ])
                refine wpAnyH_done (by kernel_rfl) ?_ _
                obtain ⟨w8, hw8⟩ : ∃ w8, (w7.alloc (.cells #[.int .u8 (IntKind.u8.wrap (IntKind.i64.wrap (48 + (f : Int))))] 5)).drew = w8 := ⟨_, rfl⟩
                have HF8 : Hid (Fr [] w7 w8) := Lib.hid (by rw [← hw8]; exact ((Fr.refl [] w7).alloc _).drew)
                rw [hw8]
                clear hw8
                go_wp2_with fail
                go_loopg [19] 6 (fun gg i wr => ∃ j : Nat, j + gg = 6 ∧ i = .int .i64 j ∧ Fr [] w7 wr)
                case atStart => exact ⟨0, by omega, rfl, HF8.out⟩
                case round =>
                  obtain ⟨j, hj, rfl, hf9⟩ := hrel
                  have Hj := Lib.hid hj
                  have HF9 := Lib.hid hf9
                  by_cases hj6 : j < 6
                  · have hj6' : (j : Int) < 6 := by omega
                    have hj0 : (0 : Int) ≤ (j : Int) := by omega
                    obtain ⟨t, ht, ht24⟩ := HR24.out j hj6
                    have q9 := (HS1.out.to hf9) j t ht
                    rw [Nat.zero_add] at q9
                    have e24 : ((t.size : Int) != 24) = false := by rw [ht24]; rfl
                    clear hj hf9 ht ht24
                    go_wp2_with fail
                    go_roundg (6 - (j + 1))
                    case measure => have := Hj.out; omega
                    case rel => exact ⟨j + 1, by have := Hj.out; omega, by go_num, HF9.out⟩
                  · obtain rfl : j = 6 := by omega
                    clear hj hf9
                    go_wp2_with fail
                    go_roundg (n - (k + 1))
                    case measure => have := Hk.out; omega
                    case rel => exact ⟨k + 1, y2, by have := Hk.out; omega, by go_num, HLV.out, HQ.out.to HF9.out⟩
        · obtain ⟨y2, rfl⟩ : ∃ y2, y2 = y := ⟨_, rfl⟩
          have hv0 := hv
          have HLV := HYL
          have e1 : (K == 1) = false := beq_eq_false_iff_ne.2 h1
          have e0 : (K == 0) = false := beq_eq_false_iff_ne.2 h0
          clear HWR h1 h0 hv
          have hv := HV1.out
          have hok := hv0.ok
          by_cases hf : y2.fo = -1
          · have TF : Hid (∀ W, Cn w W c q y2 → Calls Tryd.prog 17 #[ptr c] W fun e w' => e = .returned (.int .i64 (-1)) ∧ W = w') := Lib.hid fun W hc => by
              have hh := hc.focus
              rw [hf] at hh
              exact hh
            have TB : Hid (∀ W, Cn w W c q y2 → Calls Tryd.prog 20 #[ptr c] W fun e w' => e = .returned (.string ⟨#[91, 84, 82, 85, 83, 84, 69, 68, 93, 32, 32, 32, 32, 32, 32, 32, 32, 32, 32, 32, 32, 32, 32, 32]⟩) ∧ W = w') := Lib.hid fun W hc => by
              have hh := hc.banner
              unfold banner at hh
              rw [if_pos hf] at hh
              exact hh
            have TS : Hid (∀ W, Cn w W c q y2 → Calls Tryd.prog 15 #[ptr c] W fun e w' => ∃ g cap, e = .returned (.slice (some ⟨g, 0, none⟩) 6 cap) ∧ StrsAt w' g 0 (screenL y2.sc) ∧ Fr [] W w') := Lib.hid fun W hc => hc.screen.mono (by
              rintro e w' ⟨g, cap, he, -, -, hk, hf, -⟩
              rw [screen_len] at he
              exact ⟨g, cap, he, hk.strs, hf⟩)
            have HR24 : Hid (∀ j, j < 6 → ∃ t : ByteArray, (screenL y2.sc)[j]? = some t ∧ t.size = 24) := Lib.hid fun j hj => ⟨rowB y2.sc j, by simp [screenL, hj], rowB_size _ _⟩
            generalize screenL y2.sc = rows at *
            have hL1 : decide ((n' : Int) ≤ -1) = false := decide_eq_false (by omega)
            have hx9 : (((⟨#[91, 84, 82, 85, 83, 84, 69, 68, 93, 32, 32, 32, 32, 32, 32, 32, 32, 32, 32, 32, 32, 32, 32, 32]⟩ : ByteArray).extract 0 9).toList == [91, 84, 82, 85, 83, 84, 69, 68, 93]) = true := by decide +kernel
            go_wp2_with (first
              | (refine wpList_load_mid rfl 46 (.tmp 44) rfl b (off + k * 4) rfl [.int .i64 on, .int .i64 K, .int .i64 a, .string s] _ hr Tryd.underlying46 rfl size46 ?_)
              | (go_at_call 17; have hq := TF.out _ hv; (with_reducible refine hq.mono ?_); clear hq; rintro e wz ⟨rfl, rfl⟩)
              | (go_at_call 20; have hq := TB.out _ hv; (with_reducible refine hq.mono ?_); clear hq; rintro e wz ⟨rfl, rfl⟩)
              | (go_at_call 15; have hq := TS.out _ hv; (with_reducible refine hq.mono ?_); clear hq; rintro e w7 ⟨g1, o1, rfl, hs1, hf7⟩; have HQ := Lib.hid (hv.to hf7); have HS1 := Lib.hid hs1; clear hf7 hs1 hv))
            clear TF TB TS hok
            go_quiet (fail)
            obtain ⟨w8, hw8⟩ : ∃ w8, w7.drewN nq = w8 := ⟨_, rfl⟩
            have HF8 : Hid (Fr [] w7 w8) := Lib.hid (by rw [← hw8]; exact (Fr.refl [] w7).drewN nq)
            rw [hw8]
            clear hw8
            go_wp2_with fail
            go_loopg [19] 6 (fun gg i wr => ∃ j : Nat, j + gg = 6 ∧ i = .int .i64 j ∧ Fr [] w7 wr)
            case atStart => exact ⟨0, by omega, rfl, HF8.out⟩
            case round =>
              obtain ⟨j, hj, rfl, hf9⟩ := hrel
              have Hj := Lib.hid hj
              have HF9 := Lib.hid hf9
              by_cases hj6 : j < 6
              · have hj6' : (j : Int) < 6 := by omega
                have hj0 : (0 : Int) ≤ (j : Int) := by omega
                obtain ⟨t, ht, ht24⟩ := HR24.out j hj6
                have q9 := (HS1.out.to hf9) j t ht
                rw [Nat.zero_add] at q9
                have e24 : ((t.size : Int) != 24) = false := by rw [ht24]; rfl
                clear hj hf9 ht ht24
                go_wp2_with fail
                go_roundg (6 - (j + 1))
                case measure => have := Hj.out; omega
                case rel => exact ⟨j + 1, by have := Hj.out; omega, by go_num, HF9.out⟩
              · obtain rfl : j = 6 := by omega
                clear hj hf9
                go_wp2_with fail
                go_roundg (n - (k + 1))
                case measure => have := Hk.out; omega
                case rel => exact ⟨k + 1, y2, by have := Hk.out; omega, by go_num, HLV.out, HQ.out.to HF9.out⟩
          · obtain ⟨f, hf'⟩ : ∃ f : Nat, y2.fo = (f : Int) := Int.eq_ofNat_of_zero_le (by have := hok.f0; omega)
            have hnf := hf
            clear hf
            rename y2.fo = (f : Int) => hf
            have hfn' : (f : Int) < (n' : Int) := by have h1 := hok.f1; have h2 := HLV.out; omega
            have hf0 : (0 : Int) ≤ (f : Int) := by omega
            have hf8 : (f : Int) < 8 := by have h1 := HL8.out; omega
            have hfn1 : decide ((f : Int) < -1) = false := decide_eq_false (by omega)
            have hfn0 : decide ((f : Int) < 0) = false := decide_eq_false (by omega)
            have hfn2 : decide (n' ≤ f) = false := decide_eq_false (by omega)
            have TF : Hid (∀ W, Cn w W c q y2 → Calls Tryd.prog 17 #[ptr c] W fun e w' => e = .returned (.int .i64 (f : Int)) ∧ W = w') := Lib.hid fun W hc => by
              have hh := hc.focus
              rw [hf] at hh
              exact hh
            have TB : Hid (∀ W, Cn w W c q y2 → Calls Tryd.prog 20 #[ptr c] W fun e w' => e = .returned (.string ⟨#[91, 76, 69, 86, 69, 76, 32, dig f, 93, 32, 32, 32, 32, 32, 32, 32, 32, 32, 32, 32, 32, 32, 32, 32]⟩) ∧ W = w') := Lib.hid fun W hc => by
              have hh := hc.banner
              unfold banner at hh
              rw [if_neg hnf, hf, Int.toNat_natCast] at hh
              exact hh
            have TS : Hid (∀ W, Cn w W c q y2 → Calls Tryd.prog 15 #[ptr c] W fun e w' => ∃ g cap, e = .returned (.slice (some ⟨g, 0, none⟩) 6 cap) ∧ StrsAt w' g 0 (screenL y2.sc) ∧ Fr [] W w') := Lib.hid fun W hc => hc.screen.mono (by
              rintro e w' ⟨g, cap, he, -, -, hk, hf, -⟩
              rw [screen_len] at he
              exact ⟨g, cap, he, hk.strs, hf⟩)
            have HR24 : Hid (∀ j, j < 6 → ∃ t : ByteArray, (screenL y2.sc)[j]? = some t ∧ t.size = 24) := Lib.hid fun j hj => ⟨rowB y2.sc j, by simp [screenL, hj], rowB_size _ _⟩
            generalize screenL y2.sc = rows at *
            clear hnf
            go_wp2_with (first
              | (refine wpList_load_mid rfl 46 (.tmp 44) rfl b (off + k * 4) rfl [.int .i64 on, .int .i64 K, .int .i64 a, .string s] _ hr Tryd.underlying46 rfl size46 ?_)
              | (go_at_call 17; have hq := TF.out _ hv; (with_reducible refine hq.mono ?_); clear hq; rintro e wz ⟨rfl, rfl⟩)
              | (go_at_call 20; have hq := TB.out _ hv; (with_reducible refine hq.mono ?_); clear hq; rintro e wz ⟨rfl, rfl⟩)
              | (go_at_call 15; have hq := TS.out _ hv; (with_reducible refine hq.mono ?_); clear hq; rintro e w7 ⟨g1, o1, rfl, hs1, hf7⟩; have HQ := Lib.hid (hv.to hf7); have HS1 := Lib.hid hs1; clear hf7 hs1 hv))
            clear TF TB TS hok
            have hx9 : (⟨#[91, 76, 69, 86, 69, 76, 32, dig f, 93, 32, 32, 32, 32, 32, 32, 32, 32, 32, 32, 32, 32, 32, 32, 32]⟩ : ByteArray).extract 0 9 = (⟨#[91, 76, 69, 86, 69, 76, 32]⟩ ++ ⟨#[dig f]⟩ ++ ⟨#[93]⟩ : ByteArray) := by
              generalize dig f = D
              rfl
            have hw : ((dig f).toNat : Int) = IntKind.u8.wrap (IntKind.i64.wrap (48 + (f : Int))) := by
              have e1 : IntKind.i64.wrap (48 + (f : Int)) = 48 + (f : Int) := IntWalk.i64_in _ (by omega)
              have e2 : IntKind.u8.wrap (48 + (f : Int)) = 48 + (f : Int) := by
                simp [IntKind.wrap, IntKind.bits, IntKind.signed]
                omega
              rw [e1, e2, dig_toNat (by omega)]
              omega
            have hcv := conv_one (w7.alloc (.cells #[.int .u8 ((dig f).toNat : Int)] 5)).drew w7.heap.size (dig f) (by simp)
            rw [hw] at hcv
            clear hw
            refine wp_region_held_drew (S := fun _ => True) (by kernel_rfl) trivial (fun hHeld => ?_)
            refine wpAnyH_take (i := 0) (v := ?vc0) rfl (by kernel_rfl) (by kernel_rfl) (by kernel_rfl) (fun _ _ _ h => h) (Or.inl ⟨by rfl, ?hyc0⟩) trivial ?restc0
            case hyc0 =>
              intro w hSw
              (try simp only [List.getElem_toArray, List.getElem_cons_zero, List.getElem_cons_succ])
              go_simp
              try with_reducible rfl
            (try simp only [List.getElem_toArray, List.getElem_cons_zero, List.getElem_cons_succ, Act.put, List.setIfInBounds_toArray, List.set_cons_zero, List.set_cons_succ])
            refine wpAnyH_take (i := 1) (v := ?vc1) rfl (by kernel_rfl) (by kernel_rfl) (by kernel_rfl) (fun _ _ _ h => h) (Or.inl ⟨by rfl, ?hyc1⟩) trivial ?restc1
            case hyc1 =>
              intro w hSw
              (try simp only [List.getElem_toArray, List.getElem_cons_zero, List.getElem_cons_succ])
              go_simp
              try with_reducible rfl
            (try simp only [List.getElem_toArray, List.getElem_cons_zero, List.getElem_cons_succ, Act.put, List.setIfInBounds_toArray, List.set_cons_zero, List.set_cons_succ])
            refine wpAnyH_take (i := 2) (v := ?vc2) rfl (by kernel_rfl) (by kernel_rfl) (by kernel_rfl) (fun _ _ _ h => h) (Or.inl ⟨by rfl, ?hyc2⟩) trivial ?restc2
            case hyc2 =>
              intro w hSw
              (try simp only [List.getElem_toArray, List.getElem_cons_zero, List.getElem_cons_succ])
              go_simp
              try with_reducible rfl
            (try simp only [List.getElem_toArray, List.getElem_cons_zero, List.getElem_cons_succ, Act.put, List.setIfInBounds_toArray, List.set_cons_zero, List.set_cons_succ])
            refine wpAnyH_take (i := 3) (v := ?vc3) rfl (by kernel_rfl) (by kernel_rfl) (by kernel_rfl) (fun _ _ _ h => h) (Or.inl ⟨by rfl, ?hyc3⟩) trivial ?restc3
            case hyc3 =>
              intro w hSw
              (try simp only [List.getElem_toArray, List.getElem_cons_zero, List.getElem_cons_succ])
              go_simp
              try with_reducible rfl
            (try simp only [List.getElem_toArray, List.getElem_cons_zero, List.getElem_cons_succ, Act.put, List.setIfInBounds_toArray, List.set_cons_zero, List.set_cons_succ])
            refine wpAnyH_take (i := 4) (v := ?vc4) rfl (by kernel_rfl) (by kernel_rfl) (by kernel_rfl) (fun _ _ _ h => h) (Or.inl ⟨by rfl, ?hyc4⟩) trivial ?restc4
            case hyc4 =>
              intro w hSw
              (try simp only [List.getElem_toArray, List.getElem_cons_zero, List.getElem_cons_succ])
              go_simp
              try with_reducible rfl
            (try simp only [List.getElem_toArray, List.getElem_cons_zero, List.getElem_cons_succ, Act.put, List.setIfInBounds_toArray, List.set_cons_zero, List.set_cons_succ])
            refine wpAnyH_take (i := 5) (v := ?vc5) rfl (by kernel_rfl) (by kernel_rfl) (by kernel_rfl) (fun _ _ _ h => h) (Or.inl ⟨by rfl, ?hyc5⟩) trivial ?restc5
            case hyc5 =>
              intro w hSw
              (try simp only [List.getElem_toArray, List.getElem_cons_zero, List.getElem_cons_succ])
              go_simp
              try with_reducible rfl
            (try simp only [List.getElem_toArray, List.getElem_cons_zero, List.getElem_cons_succ, Act.put, List.setIfInBounds_toArray, List.set_cons_zero, List.set_cons_succ])
            refine wpAnyH_take (i := 6) (v := ?vc6) rfl (by kernel_rfl) (by kernel_rfl) (by kernel_rfl) (fun _ _ _ h => h) (Or.inl ⟨by rfl, ?hyc6⟩) trivial ?restc6
            case hyc6 =>
              intro w hSw
              (try simp only [List.getElem_toArray, List.getElem_cons_zero, List.getElem_cons_succ])
              go_simp
              try with_reducible rfl
            (try simp only [List.getElem_toArray, List.getElem_cons_zero, List.getElem_cons_succ, Act.put, List.setIfInBounds_toArray, List.set_cons_zero, List.set_cons_succ])
            refine wpAnyH_take (i := 7) (v := ?vc7) rfl (by kernel_rfl) (by kernel_rfl) (by kernel_rfl) (fun _ _ _ h => h) (Or.inl ⟨by rfl, ?hyc7⟩) trivial ?restc7
            case hyc7 =>
              intro w hSw
              (try simp only [List.getElem_toArray, List.getElem_cons_zero, List.getElem_cons_succ])
              go_simp
              try with_reducible rfl
            (try simp only [List.getElem_toArray, List.getElem_cons_zero, List.getElem_cons_succ, Act.put, List.setIfInBounds_toArray, List.set_cons_zero, List.set_cons_succ])
            refine wpAnyH_take (i := 8) (v := ?vc8) rfl (by kernel_rfl) (by kernel_rfl) (by kernel_rfl) (fun _ _ _ h => h) (Or.inl ⟨by rfl, ?hyc8⟩) trivial ?restc8
            case hyc8 =>
              intro w hSw
              (try simp only [List.getElem_toArray, List.getElem_cons_zero, List.getElem_cons_succ])
              go_simp
              try with_reducible rfl
            (try simp only [List.getElem_toArray, List.getElem_cons_zero, List.getElem_cons_succ, Act.put, List.setIfInBounds_toArray, List.set_cons_zero, List.set_cons_succ])
            refine wpAnyH_take (i := 9) (v := ?vc9) rfl (by kernel_rfl) (by kernel_rfl) (by kernel_rfl) (fun _ _ _ h => h) (Or.inl ⟨by rfl, ?hyc9⟩) trivial ?restc9
            case hyc9 =>
              intro w hSw
              (try simp only [List.getElem_toArray, List.getElem_cons_zero, List.getElem_cons_succ])
              go_simp
              try with_reducible rfl
            (try simp only [List.getElem_toArray, List.getElem_cons_zero, List.getElem_cons_succ, Act.put, List.setIfInBounds_toArray, List.set_cons_zero, List.set_cons_succ])
            refine wpAnyH_take (i := 10) (v := ?vc10) rfl (by kernel_rfl) (by kernel_rfl) (by kernel_rfl) (fun _ _ _ h => h) (Or.inl ⟨by rfl, ?hyc10⟩) trivial ?restc10
            case hyc10 =>
              intro w hSw
              (try simp only [List.getElem_toArray, List.getElem_cons_zero, List.getElem_cons_succ])
              go_simp
              try with_reducible rfl
            (try simp only [List.getElem_toArray, List.getElem_cons_zero, List.getElem_cons_succ, Act.put, List.setIfInBounds_toArray, List.set_cons_zero, List.set_cons_succ])
            refine wpAnyH_take (i := 11) (v := ?vc11) rfl (by kernel_rfl) (by kernel_rfl) (by kernel_rfl) (fun _ _ _ h => h) (Or.inl ⟨by rfl, ?hyc11⟩) trivial ?restc11
            case hyc11 =>
              intro w hSw
              (try simp only [List.getElem_toArray, List.getElem_cons_zero, List.getElem_cons_succ])
              go_simp
              try with_reducible rfl
            (try simp only [List.getElem_toArray, List.getElem_cons_zero, List.getElem_cons_succ, Act.put, List.setIfInBounds_toArray, List.set_cons_zero, List.set_cons_succ])
            refine wpAnyH_take (i := 12) (v := ?vc12) rfl (by kernel_rfl) (by kernel_rfl) (by kernel_rfl) (fun _ _ _ h => h) (Or.inl ⟨by rfl, ?hyc12⟩) trivial ?restc12
            case hyc12 =>
              intro w hSw
              (try simp only [List.getElem_toArray, List.getElem_cons_zero, List.getElem_cons_succ])
              go_simp
              try with_reducible rfl
            (try simp only [List.getElem_toArray, List.getElem_cons_zero, List.getElem_cons_succ, Act.put, List.setIfInBounds_toArray, List.set_cons_zero, List.set_cons_succ])
            refine wpAnyH_take (i := 13) (v := ?vc13) rfl (by kernel_rfl) (by kernel_rfl) (by kernel_rfl) (fun _ _ _ h => h) (Or.inl ⟨by rfl, ?hyc13⟩) trivial ?restc13
            case hyc13 =>
              intro w hSw
              (try simp only [List.getElem_toArray, List.getElem_cons_zero, List.getElem_cons_succ])
              go_simp
              try with_reducible rfl
            (try simp only [List.getElem_toArray, List.getElem_cons_zero, List.getElem_cons_succ, Act.put, List.setIfInBounds_toArray, List.set_cons_zero, List.set_cons_succ])
            refine wpAnyH_take (i := 14) (v := ?vc14) rfl (by kernel_rfl) (by kernel_rfl) (by kernel_rfl) (fun _ _ _ h => h) (Or.inl ⟨by rfl, ?hyc14⟩) trivial ?restc14
            case hyc14 =>
              intro w hSw
              (try simp only [List.getElem_toArray, List.getElem_cons_zero, List.getElem_cons_succ])
              go_simp
              try with_reducible rfl
            (try simp only [List.getElem_toArray, List.getElem_cons_zero, List.getElem_cons_succ, Act.put, List.setIfInBounds_toArray, List.set_cons_zero, List.set_cons_succ])
            refine wpAnyH_take (i := 15) (v := ?vc15) rfl (by kernel_rfl) (by kernel_rfl) (by kernel_rfl) (fun _ _ _ h => h) (Or.inl ⟨by rfl, ?hyc15⟩) trivial ?restc15
            case hyc15 =>
              intro w hSw
              (try simp only [List.getElem_toArray, List.getElem_cons_zero, List.getElem_cons_succ])
              go_simp
              try with_reducible rfl
            (try simp only [List.getElem_toArray, List.getElem_cons_zero, List.getElem_cons_succ, Act.put, List.setIfInBounds_toArray, List.set_cons_zero, List.set_cons_succ])
            refine wpAnyH_take (i := 16) (v := ?vc16) rfl (by kernel_rfl) (by kernel_rfl) (by kernel_rfl) (fun _ _ _ h => h) (Or.inl ⟨by rfl, ?hyc16⟩) trivial ?restc16
            case hyc16 =>
              intro w hSw
              (try simp only [List.getElem_toArray, List.getElem_cons_zero, List.getElem_cons_succ])
              go_simp
              try with_reducible rfl
            (try simp only [List.getElem_toArray, List.getElem_cons_zero, List.getElem_cons_succ, Act.put, List.setIfInBounds_toArray, List.set_cons_zero, List.set_cons_succ])
            refine wpAnyH_take (i := 17) (v := ?vc17) rfl (by kernel_rfl) (by kernel_rfl) (by kernel_rfl) (fun _ _ _ h => h) (Or.inl ⟨by rfl, ?hyc17⟩) trivial ?restc17
            case hyc17 =>
              intro w hSw
              (try simp only [List.getElem_toArray, List.getElem_cons_zero, List.getElem_cons_succ])
              go_simp
              try with_reducible rfl
            (try simp only [List.getElem_toArray, List.getElem_cons_zero, List.getElem_cons_succ, Act.put, List.setIfInBounds_toArray, List.set_cons_zero, List.set_cons_succ])
            refine wpAnyH_take (i := 18) (v := ?vc18) rfl (by kernel_rfl) (by kernel_rfl) (by kernel_rfl) (fun _ _ _ h => h) (Or.inl ⟨by rfl, ?hyc18⟩) trivial ?restc18
            case hyc18 =>
              intro w hSw
              (try simp only [List.getElem_toArray, List.getElem_cons_zero, List.getElem_cons_succ])
              go_simp
              try with_reducible rfl
            (try simp only [List.getElem_toArray, List.getElem_cons_zero, List.getElem_cons_succ, Act.put, List.setIfInBounds_toArray, List.set_cons_zero, List.set_cons_succ])
            refine wpAnyH_take (i := 19) (v := ?vc19) rfl (by kernel_rfl) (by kernel_rfl) (by kernel_rfl) (fun _ _ _ h => h) (Or.inl ⟨by rfl, ?hyc19⟩) trivial ?restc19
            case hyc19 =>
              intro w hSw
              (try simp only [List.getElem_toArray, List.getElem_cons_zero, List.getElem_cons_succ])
              go_simp
              try with_reducible rfl
            (try simp only [List.getElem_toArray, List.getElem_cons_zero, List.getElem_cons_succ, Act.put, List.setIfInBounds_toArray, List.set_cons_zero, List.set_cons_succ])
            refine wpAnyH_take (i := 20) (v := ?vc20) rfl (by kernel_rfl) (by kernel_rfl) (by kernel_rfl) (fun _ _ _ h => h) (Or.inl ⟨by rfl, ?hyc20⟩) trivial ?restc20
            case hyc20 =>
              intro w hSw
              (try simp only [List.getElem_toArray, List.getElem_cons_zero, List.getElem_cons_succ])
              go_simp
              try with_reducible rfl
            (try simp only [List.getElem_toArray, List.getElem_cons_zero, List.getElem_cons_succ, Act.put, List.setIfInBounds_toArray, List.set_cons_zero, List.set_cons_succ])
            refine wpAnyH_take (i := 21) rfl (by kernel_rfl) (by kernel_rfl) (by kernel_rfl) (fun _ _ _ h => h) (Or.inr ⟨by rfl, rfl⟩) trivial ?_
            (try simp only [List.getElem_toArray, List.getElem_cons_zero, List.getElem_cons_succ, Act.put, List.setIfInBounds_toArray, List.set_cons_zero, List.set_cons_succ])
            refine wpAnyH_take (i := 22) rfl (by kernel_rfl) (by kernel_rfl) (by kernel_rfl) (fun _ _ _ h => h) (Or.inr ⟨by rfl, rfl⟩) trivial ?_
            (try simp only [List.getElem_toArray, List.getElem_cons_zero, List.getElem_cons_succ, Act.put, List.setIfInBounds_toArray, List.set_cons_zero, List.set_cons_succ])
            refine wpAnyH_take (i := 23) rfl (by kernel_rfl) (by kernel_rfl) (by kernel_rfl) (fun _ _ _ h => h) (Or.inr ⟨by rfl, rfl⟩) trivial ?_
            (try simp only [List.getElem_toArray, List.getElem_cons_zero, List.getElem_cons_succ, Act.put, List.setIfInBounds_toArray, List.set_cons_zero, List.set_cons_succ])
            refine wpAnyH_take (i := 24) (v := ?vc24) rfl (by kernel_rfl) (by kernel_rfl) (by kernel_rfl) (fun _ _ _ h => h) (Or.inl ⟨by rfl, ?hyc24⟩) trivial ?restc24
            case hyc24 =>
              intro w hSw
              (try simp only [List.getElem_toArray, List.getElem_cons_zero, List.getElem_cons_succ])
              go_simp
              try with_reducible rfl
            (try simp only [List.getElem_toArray, List.getElem_cons_zero, List.getElem_cons_succ, Act.put, List.setIfInBounds_toArray, List.set_cons_zero, List.set_cons_succ])
            refine wpAnyH_take (i := 25) (v := ?vc25) rfl (by kernel_rfl) (by kernel_rfl) (by kernel_rfl) (fun _ _ _ h => h) (Or.inl ⟨by rfl, ?hyc25⟩) trivial ?restc25
            case hyc25 =>
              intro w hSw
              (try simp only [List.getElem_toArray, List.getElem_cons_zero, List.getElem_cons_succ])
              go_simp
              try with_reducible rfl
            (try simp only [List.getElem_toArray, List.getElem_cons_zero, List.getElem_cons_succ, Act.put, List.setIfInBounds_toArray, List.set_cons_zero, List.set_cons_succ])
            refine wpAnyH_take (i := 26) (v := ?vc26) rfl (by kernel_rfl) (by kernel_rfl) (by kernel_rfl) (fun _ _ _ h => h) (Or.inl ⟨by rfl, ?hyc26⟩) trivial ?restc26
            case hyc26 =>
              intro w hSw
              (try simp only [List.getElem_toArray, List.getElem_cons_zero, List.getElem_cons_succ])
              go_simp
              try with_reducible rfl
            (try simp only [List.getElem_toArray, List.getElem_cons_zero, List.getElem_cons_succ, Act.put, List.setIfInBounds_toArray, List.set_cons_zero, List.set_cons_succ])
            refine wpAnyH_take (i := 27) (v := ?vc27) rfl (by kernel_rfl) (by kernel_rfl) (by kernel_rfl) (fun _ _ _ h => h) (Or.inl ⟨by rfl, ?hyc27⟩) trivial ?restc27
            case hyc27 =>
              intro w hSw
              (try simp only [List.getElem_toArray, List.getElem_cons_zero, List.getElem_cons_succ])
              go_simp
              try with_reducible rfl
            (try simp only [List.getElem_toArray, List.getElem_cons_zero, List.getElem_cons_succ, Act.put, List.setIfInBounds_toArray, List.set_cons_zero, List.set_cons_succ])
            refine wpAnyH_take (i := 28) (v := ?vc28) rfl (by kernel_rfl) (by kernel_rfl) (by kernel_rfl) (fun _ _ _ h => h) (Or.inl ⟨by rfl, ?hyc28⟩) trivial ?restc28
            case hyc28 =>
              intro w hSw
              (try simp only [List.getElem_toArray, List.getElem_cons_zero, List.getElem_cons_succ])
              go_simp
              try with_reducible rfl
            (try simp only [List.getElem_toArray, List.getElem_cons_zero, List.getElem_cons_succ, Act.put, List.setIfInBounds_toArray, List.set_cons_zero, List.set_cons_succ])
            refine wpAnyH_take (i := 29) (v := ?vc29) rfl (by kernel_rfl) (by kernel_rfl) (by kernel_rfl) (fun _ _ _ h => h) (Or.inl ⟨by rfl, ?hyc29⟩) trivial ?restc29
            case hyc29 =>
              intro w hSw
              (try simp only [List.getElem_toArray, List.getElem_cons_zero, List.getElem_cons_succ])
              go_simp
              try with_reducible rfl
            (try simp only [List.getElem_toArray, List.getElem_cons_zero, List.getElem_cons_succ, Act.put, List.setIfInBounds_toArray, List.set_cons_zero, List.set_cons_succ])
            refine wpAnyH_take (i := 30) (v := ?vc30) rfl (by kernel_rfl) (by kernel_rfl) (by kernel_rfl) (fun _ _ _ h => h) (Or.inl ⟨by rfl, ?hyc30⟩) trivial ?restc30
            case hyc30 =>
              intro w hSw
              (try simp only [List.getElem_toArray, List.getElem_cons_zero, List.getElem_cons_succ])
              go_simp
              try with_reducible rfl
            (try simp only [List.getElem_toArray, List.getElem_cons_zero, List.getElem_cons_succ, Act.put, List.setIfInBounds_toArray, List.set_cons_zero, List.set_cons_succ])
            refine wpAnyH_take (i := 31) (v := ?vc31) rfl (by kernel_rfl) (by kernel_rfl) (by kernel_rfl) (fun _ _ _ h => h) (Or.inl ⟨by rfl, ?hyc31⟩) trivial ?restc31
            case hyc31 =>
              intro w hSw
              (try simp only [List.getElem_toArray, List.getElem_cons_zero, List.getElem_cons_succ])
              go_simp
              try with_reducible rfl
            (try simp only [List.getElem_toArray, List.getElem_cons_zero, List.getElem_cons_succ, Act.put, List.setIfInBounds_toArray, List.set_cons_zero, List.set_cons_succ])
            refine wpAnyH_take (i := 32) (v := ?vc32) rfl (by kernel_rfl) (by kernel_rfl) (by kernel_rfl) (fun _ _ _ h => h) (Or.inl ⟨by rfl, ?hyc32⟩) trivial ?restc32
            case hyc32 =>
              intro w hSw
              (try simp only [List.getElem_toArray, List.getElem_cons_zero, List.getElem_cons_succ])
              go_simp
              try with_reducible rfl
            (try simp only [List.getElem_toArray, List.getElem_cons_zero, List.getElem_cons_succ, Act.put, List.setIfInBounds_toArray, List.set_cons_zero, List.set_cons_succ])
            refine wpAnyH_take (i := 33) (v := ?vc33) rfl (by kernel_rfl) (by kernel_rfl) (by kernel_rfl) (fun _ _ _ h => h) (Or.inl ⟨by rfl, ?hyc33⟩) trivial ?restc33
            case hyc33 =>
              intro w hSw
              (try simp only [List.getElem_toArray, List.getElem_cons_zero, List.getElem_cons_succ])
              go_simp
              try with_reducible rfl
            (try simp only [List.getElem_toArray, List.getElem_cons_zero, List.getElem_cons_succ, Act.put, List.setIfInBounds_toArray, List.set_cons_zero, List.set_cons_succ])
            refine wpAnyH_take (i := 34) (v := ?vc34) rfl (by kernel_rfl) (by kernel_rfl) (by kernel_rfl) (fun _ _ _ h => h) (Or.inl ⟨by rfl, ?hyc34⟩) trivial ?restc34
            case hyc34 =>
              intro w hSw
              (try simp only [List.getElem_toArray, List.getElem_cons_zero, List.getElem_cons_succ])
              go_simp
              try with_reducible rfl
            (try simp only [List.getElem_toArray, List.getElem_cons_zero, List.getElem_cons_succ, Act.put, List.setIfInBounds_toArray, List.set_cons_zero, List.set_cons_succ])
            refine wpAnyH_ready (rs := [35]) (by kernel_rfl) (by simp) ?_
            refine AllReadyH.cons rfl (fun K hK => ?_) AllReadyH.nil
            (try simp only [List.getElem_toArray, List.getElem_cons_zero, List.getElem_cons_succ])
            go_simp
            refine hK.out _ _ trivial (fun hHeld => ?_)
            clear hK K
            (try simp only [List.getElem_toArray, List.getElem_cons_zero, List.getElem_cons_succ, Act.put, List.setIfInBounds_toArray, List.set_cons_zero, List.set_cons_succ])
            refine wpAnyH_ready (rs := [36]) (by kernel_rfl) (by simp) ?_
            refine AllReadyH.cons rfl (fun K hK => ?_) AllReadyH.nil
            (try simp only [List.getElem_toArray, List.getElem_cons_zero, List.getElem_cons_succ])
            go_simp
            refine hK.out _ _ trivial (fun hHeld => ?_)
            clear hK K
            (try simp only [List.getElem_toArray, List.getElem_cons_zero, List.getElem_cons_succ, Act.put, List.setIfInBounds_toArray, List.set_cons_zero, List.set_cons_succ])
            refine wpAnyH_take (i := 37) (v := ?vc37) rfl (by kernel_rfl) (by kernel_rfl) (by kernel_rfl) (fun _ _ _ h => h) (Or.inl ⟨by rfl, ?hyc37⟩) trivial ?restc37
            case hyc37 =>
              intro w hSw
              (try simp only [List.getElem_toArray, List.getElem_cons_zero, List.getElem_cons_succ])
              go_simp
              try with_reducible rfl
            (try simp only [List.getElem_toArray, List.getElem_cons_zero, List.getElem_cons_succ, Act.put, List.setIfInBounds_toArray, List.set_cons_zero, List.set_cons_succ])
            refine wpAnyH_take (i := 38) (v := ?vc38) rfl (by kernel_rfl) (by kernel_rfl) (by kernel_rfl) (fun _ _ _ h => h) (Or.inl ⟨by rfl, ?hyc38⟩) trivial ?restc38
            case hyc38 =>
              intro w hSw
              (try simp only [List.getElem_toArray, List.getElem_cons_zero, List.getElem_cons_succ])
              go_simp
              try with_reducible rfl
            (try simp only [List.getElem_toArray, List.getElem_cons_zero, List.getElem_cons_succ, Act.put, List.setIfInBounds_toArray, List.set_cons_zero, List.set_cons_succ])
            refine wpAnyH_take (i := 39) (v := ?vc39) rfl (by kernel_rfl) (by kernel_rfl) (by kernel_rfl) (fun _ _ _ h => h) (Or.inl ⟨by rfl, ?hyc39⟩) trivial ?restc39
            case hyc39 =>
              intro w hSw
              (try simp only [List.getElem_toArray, List.getElem_cons_zero, List.getElem_cons_succ])
              go_simp
              try with_reducible rfl
            (try simp only [List.getElem_toArray, List.getElem_cons_zero, List.getElem_cons_succ, Act.put, List.setIfInBounds_toArray, List.set_cons_zero, List.set_cons_succ])
            refine wpAnyH_take (i := 40) (v := ?vc40) rfl (by kernel_rfl) (by kernel_rfl) (by kernel_rfl) (fun _ _ _ h => h) (Or.inl ⟨by rfl, ?hyc40⟩) trivial ?restc40
            case hyc40 =>
              intro w hSw
              (try simp only [List.getElem_toArray, List.getElem_cons_zero, List.getElem_cons_succ])
              go_simp
              try with_reducible rfl
            (try simp only [List.getElem_toArray, List.getElem_cons_zero, List.getElem_cons_succ, Act.put, List.setIfInBounds_toArray, List.set_cons_zero, List.set_cons_succ])
            refine wpAnyH_take (i := 41) (v := ?vc41) rfl (by kernel_rfl) (by kernel_rfl) (by kernel_rfl) (fun _ _ _ h => h) (Or.inl ⟨by rfl, ?hyc41⟩) trivial ?restc41
            case hyc41 =>
              intro w hSw
              (try simp only [List.getElem_toArray, List.getElem_cons_zero, List.getElem_cons_succ])
              go_simp
              try with_reducible rfl
            (try simp only [List.getElem_toArray, List.getElem_cons_zero, List.getElem_cons_succ, Act.put, List.setIfInBounds_toArray, List.set_cons_zero, List.set_cons_succ])
            refine wpAnyH_done (by kernel_rfl) ?_ _
            obtain ⟨w8, hw8⟩ : ∃ w8, (w7.alloc (.cells #[.int .u8 (IntKind.u8.wrap (IntKind.i64.wrap (48 + (f : Int))))] 5)).drew = w8 := ⟨_, rfl⟩
            have HF8 : Hid (Fr [] w7 w8) := Lib.hid (by rw [← hw8]; exact ((Fr.refl [] w7).alloc _).drew)
            rw [hw8]
            clear hw8
            go_wp2_with fail
            go_loopg [19] 6 (fun gg i wr => ∃ j : Nat, j + gg = 6 ∧ i = .int .i64 j ∧ Fr [] w7 wr)
            case atStart => exact ⟨0, by omega, rfl, HF8.out⟩
            case round =>
              obtain ⟨j, hj, rfl, hf9⟩ := hrel
              have Hj := Lib.hid hj
              have HF9 := Lib.hid hf9
              by_cases hj6 : j < 6
              · have hj6' : (j : Int) < 6 := by omega
                have hj0 : (0 : Int) ≤ (j : Int) := by omega
                obtain ⟨t, ht, ht24⟩ := HR24.out j hj6
                have q9 := (HS1.out.to hf9) j t ht
                rw [Nat.zero_add] at q9
                have e24 : ((t.size : Int) != 24) = false := by rw [ht24]; rfl
                clear hj hf9 ht ht24
                go_wp2_with fail
                go_roundg (6 - (j + 1))
                case measure => have := Hj.out; omega
                case rel => exact ⟨j + 1, by have := Hj.out; omega, by go_num, HF9.out⟩
              · obtain rfl : j = 6 := by omega
                clear hj hf9
                go_wp2_with fail
                go_roundg (n - (k + 1))
                case measure => have := Hk.out; omega
                case rel => exact ⟨k + 1, y2, by have := Hk.out; omega, by go_num, HLV.out, HQ.out.to HF9.out⟩
    · have HFr := Lib.hid hv.f
      clear hv hk HYL
      go_wp2_with (go_at_call 11; refine (HX.out _).mono ?_; rintro e w3 ⟨rfl, hf3⟩; have HP := Lib.hid (HFr.out.trans hf3); clear hf3)
      go_ret
      exact ⟨rfl, HP.out⟩
theorem banner_walk (w : World) (lv : Int) (lg : ByteArray) (hs : lg.size ≤ maxLen) (A : Option Addr) (n cap : Nat) (ops : Nat → OpC) (ho : OpsC w A n ops) : Calls Tryd.prog 6 #[.int .i64 lv, .string lg, .slice A n cap] w (FixP w) := by
  cases h : okNew lv lg with
  | false => exact banner_no w lv lg hs A n cap h
  | true =>
    obtain ⟨L, rfl, -⟩ := okNew_spec h
    exact banner_yes w L lg A n cap ops ho h
end Go.Proofs.YtkjahokffpihmaaDoor
