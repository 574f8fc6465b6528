/- The reference's console: Key. -/
import Derived.Test.YtkjahokffpihmaaDoorC31
import Derived.Test.YtkjahokffpihmaaDoorRd2
import Derived.Deep.QuietTactic
import Derived.BigQuiet
import Derived.BigRegion
import Derived.Deep.RegionLaw
namespace Go.Proofs.YtkjahokffpihmaaDoor
open Go.RowKit
set_option linter.unusedVariables false
set_option linter.unusedSimpArgs false
set_option maxRecDepth 100000
/-- The world while a key is kept: what has run of the slice's making (b16) and the call (b19). -/
structure KW (W0 : World) (Post : World → Prop) (vb : Int) (xb : Nat) (b16 b19 : Bool) (w' : World) : Prop where
  pre : b19 = false → Fr [] W0 w'
  a : b16 = true → b19 = false → w'.cell? ⟨xb, 0, none⟩ = some (.int .u8 vb)
  post : b19 = true → Post w'
theorem KW.al {W0 w' : World} {Post : World → Prop} {vb : Int} {xb : Nat} (h : KW W0 Post vb xb false false w') : KW W0 Post vb w'.heap.size true false (w'.alloc (.cells #[.int .u8 vb] 5)) :=
  ⟨fun _ => (h.pre rfl).alloc _, fun _ _ => by simp, fun h => by cases h⟩
theorem rkey_secure (w : World) (y g r : Nat) (x : Con) (h : RAt w y x g r) (b : UInt8) (hb : b.toNat = 1) : Calls Tryd.prog 24 #[ptr y, .int .u8 (b.toNat : Int)] w (RaP w y g r (key x b) (.tuple #[])) := by
  have ek : key x b = trust x := by unfold key; rw [if_pos hb]
  have HS := Lib.hid (rsecure_any w y g r x h)
  have e1 : ((b.toNat : Int) == 1) = true := by rw [hb]; rfl
  rw [ek]
  unfold RaP
  clear hb ek h
  go_enter Tryd.func24, Tryd.ntmps24
  go_wp2_with (go_at_call 42; refine HS.out.mono ?_; rintro e w2 ⟨rfl, hQ⟩; have HQ := Lib.hid hQ; clear hQ)
  refine bodyPost_ret (results_none rfl _ _ _) rfl ?_
  exact ⟨rfl, HQ.out⟩
set_option maxHeartbeats 2000000 in
theorem rkey_level (w : World) (y g r : Nat) (x : Con) (h : RAt w y x g r) (b : UInt8) (hb : b.toNat ≠ 1) (hf : x.fo ≠ -1) : Calls Tryd.prog 24 #[ptr y, .int .u8 (b.toNat : Int)] w (RaP w y g r (key x b) (.tuple #[])) := by
  have ek : key x b = toLevel x b := by unfold key; rw [if_neg hb, if_pos hf]
  have HA := Lib.hid h
  have ok := h.ok
  obtain ⟨⟨ck, h1, cr0⟩, hk2, -⟩ := h
  obtain ⟨cr, hbl, h2⟩ := cr0.b
  obtain ⟨n, hn⟩ : ∃ n : Nat, x.fo = (n : Int) := Int.eq_ofNat_of_zero_le (by have := ok.f0; omega)
  have hnl : n < x.lv := by have := ok.f1; omega
  have c2 := hbl.cell 2
  have c5 := hbl.cell 5
  simp at c2 c5
  rw [hn] at c2
  have hkn : x.ks[n]? = some (x.ks.getD n empty) := by
    rw [List.getD_eq_getElem?_getD, List.getElem?_eq_getElem (by rw [ok.n]; exact hnl)]
    rfl
  have k0 := (hk2.at_ hkn).1
  have e1 : ((b.toNat : Int) == 1) = false := beq_eq_false_iff_ne.2 (by omega)
  have n0 : (0 : Int) ≤ (n : Int) := by omega
  have n1 : (n : Int) < (x.lv : Int) := by omega
  have d0 : (0 : Int) ≤ (n : Int) := n0
  have et : toLevel x b = { x with ks := x.ks.set n (key1 (x.ks.getD n empty) b) } := by unfold toLevel; rw [hn, Int.toNat_natCast]
  have hs16 : (x.ks.getD n empty).size ≤ 16 := ok.k _ (List.mem_of_getElem? hkn)
  rw [ek, et]
  clear ek et
  by_cases h16 : (x.ks.getD n empty).size < 16
  · have e2 : key1 (x.ks.getD n empty) b = x.ks.getD n empty ++ ⟨#[b]⟩ := by unfold key1; rw [if_pos h16]; rfl
    rw [e2]
    have HKP := Lib.hid (fun W (hf : Fr [] w W) => rkeep_any W y g r x (HA.out.to hf) n hnl (x.ks.getD n empty ++ ⟨#[b]⟩) (by rw [ByteArray.size_append]; show _ + 1 ≤ 16; omega))
    have d1 : ((x.ks.getD n empty).size : Int) < 16 := by omega
    have hcs : ¬ 9223372036854775807 < (x.ks.getD n empty).size + 1 := by omega
    generalize x.ks.getD n empty = S at *
    unfold RaP
    clear hbl cr0 hk2 ok hkn hb hf hn hnl hs16 h16 e2
    go_enter Tryd.func24, Tryd.ntmps24
    go_wp2_with fail
    go_quiet (fail)
    go_wp2_with fail
    obtain ⟨W0, hW0⟩ : ∃ W0, w.drewN nq = W0 := ⟨_, rfl⟩
    have a2 : W0.cell? ⟨y, 2, none⟩ = some (.int .i64 (n : Int)) := by rw [← hW0]; exact c2
    have a5 : W0.cell? ⟨y, 5, none⟩ = some (.slice (some ⟨g, 0, none⟩) x.lv ck) := by rw [← hW0]; exact c5
    have ak : W0.cell? ⟨g, n, none⟩ = some (.string S) := by rw [← hW0]; exact k0
    have HF0 : Hid (Fr [] w W0) := Lib.hid (by rw [← hW0]; exact (Fr.refl [] w).drewN _)
    rw [hW0]
    have HC0 := Lib.hid (And.intro a2 (And.intro a5 ak))
    have HK : Hid (∀ W, Fr [] W0 W → Calls Tryd.prog 43 #[ptr y, .int .i64 (n : Int), .string (S ++ ⟨#[b]⟩)] W fun e w' => e = .returned (.tuple #[]) ∧ ∃ g' r', RAt w' y { x with ks := x.ks.set n (S ++ ⟨#[b]⟩) } g' r' ∧ Fr [y] w w' ∧ (g' = g ∨ w.heap.size ≤ g') ∧ (r' = r ∨ w.heap.size ≤ r')) := Lib.hid fun W hf => (HKP.out W (HF0.out.trans hf)).mono fun e w' ⟨he, g', r', h1, h2, h3, h4⟩ => ⟨he, g', r', h1, ((HF0.out.trans hf).mono (by simp)).trans h2, by have := (HF0.out.trans hf).size; omega, by have := (HF0.out.trans hf).size; omega⟩
    clear hW0 c2 c5 k0 HKP a2 a5 ak
    obtain ⟨PST, hPST⟩ : ∃ PST : World → Prop, (fun w' => ∃ g' r', RAt w' y { x with ks := x.ks.set n (S ++ ⟨#[b]⟩) } g' r' ∧ Fr [y] w w' ∧ (g' = g ∨ w.heap.size ≤ g') ∧ (r' = r ∨ w.heap.size ≤ r')) = PST := ⟨_, rfl⟩
    have HPO : Hid (∀ w', PST w' → ∃ g' r', RAt w' y { x with ks := x.ks.set n (S ++ ⟨#[b]⟩) } g' r' ∧ Fr [y] w w' ∧ (g' = g ∨ w.heap.size ≤ g') ∧ (r' = r ∨ w.heap.size ≤ r')) := Lib.hid fun w' h9 => by rw [← hPST] at h9; exact h9
    have HK2 : Hid (∀ W, Fr [] W0 W → Calls Tryd.prog 43 #[ptr y, .int .i64 (n : Int), .string (S ++ ⟨#[b]⟩)] W fun e w' => e = .returned (.tuple #[]) ∧ PST w') := Lib.hid (by rw [← hPST]; exact HK.out)
    clear hPST HK
    have hW00 : KW W0 PST (b.toNat : Int) 0 false false W0.drew := ⟨fun _ => (Fr.refl [] W0).drew, (fun h => by cases h), (fun h => by cases h)⟩
    have HW00 := Lib.hid hW00
    clear hW00
    have hmx : Tryd.prog.follows .mixedOrders = true := by kernel_rfl
    refine (wpIn_wide (n := 3)).1 ?_
    refine wpIn_region_inv2 hmx (by kernel_rfl) (fun L' a w' => ∃ xb, a = { tmps := #[ptr y, Value.int IntKind.u8 (b.toNat : Int), undef, undef, Value.int IntKind.u8 (b.toNat : Int), Value.bool false, undef, undef, ptr y, Value.pointer (some ⟨y, 0, none⟩), Value.pointer (some ⟨y, 2, none⟩), Value.int IntKind.i64 (n : Int), Value.bool true, ptr y, Value.pointer (some ⟨y, 0, none⟩), Value.pointer (some ⟨y, 5, none⟩), Value.slice (some ⟨g, 0, none⟩) x.lv ck, ptr y, Value.pointer (some ⟨y, 0, none⟩), Value.pointer (some ⟨y, 2, none⟩), Value.int IntKind.i64 (n : Int), Value.pointer (some ⟨g, n, none⟩), Value.string S, Value.int IntKind.i64 (S.size : Int), Value.bool true, bif L'.getD 0 false then ptr y else undef, bif L'.getD 1 false then ptr y else undef, bif L'.getD 2 false then (.pointer (some ⟨y, 0, none⟩)) else undef, bif L'.getD 3 false then (.pointer (some ⟨y, 2, none⟩)) else undef, bif L'.getD 4 false then (.int .i64 (n : Int)) else undef, bif L'.getD 5 false then ptr y else undef, bif L'.getD 6 false then (.pointer (some ⟨y, 0, none⟩)) else undef, bif L'.getD 7 false then (.pointer (some ⟨y, 5, none⟩)) else undef, bif L'.getD 8 false then (.slice (some ⟨g, 0, none⟩) x.lv ck) else undef, bif L'.getD 9 false then ptr y else undef, bif L'.getD 10 false then (.pointer (some ⟨y, 0, none⟩)) else undef, bif L'.getD 11 false then (.pointer (some ⟨y, 2, none⟩)) else undef, bif L'.getD 12 false then (.int .i64 (n : Int)) else undef, bif L'.getD 13 false then (.pointer (some ⟨g, n, none⟩)) else undef, bif L'.getD 14 false then (.string S) else undef, bif L'.getD 15 false then (.int .u8 (b.toNat : Int)) else undef, bif L'.getD 16 false then (.slice (some ⟨xb, 0, none⟩) 1 1) else undef, bif L'.getD 17 false then (.string ⟨#[b]⟩) else undef, bif L'.getD 18 false then (.string (S ++ ⟨#[b]⟩)) else undef, bif L'.getD 19 false then (.tuple #[]) else undef, undef, undef, undef, undef, undef, undef, undef, undef, undef, undef, undef, undef, undef, undef, undef, undef, undef, undef, undef, undef, undef, undef, undef, undef, undef, undef, undef, undef, undef, undef, undef, undef, undef, undef, undef, undef, undef, undef, undef, undef, undef, undef, undef, undef, undef, undef, undef, undef, undef, undef, undef, undef, undef, undef, undef, undef, undef, undef, undef, undef, undef], defers := [] } ∧ KW W0 PST (b.toNat : Int) xb (L'.getD 16 false) (L'.getD 19 false) w') ⟨0, rfl, HW00.out⟩ ?_ ?_
    · rintro ⟨L'⟩ _ w' i o hs ho hf hp hc ⟨xb, rfl, hR⟩
      match L', hs with
      | [z0, z1, z2, z3, z4, z5, z6, z7, z8, z9, z10, z11, z12, z13, z14, z15, z16, z17, z18, z19], _ =>
      have R : KW W0 PST (b.toNat : Int) xb (z16) (z19) w' := hR
      clear hR
      match i, ho with
      | 0, ho =>
        injection ho with ho
        subst ho
        clear hc
        simp [Region.binds] at hf hp
        refine wpOpIn_step rfl (fun K' hK' => ?_)
        go_simp
        exact hK' _ _ ⟨xb, by simp [hf, hp], R⟩
      | 1, ho =>
        injection ho with ho
        subst ho
        clear hc
        simp [Region.binds] at hf hp
        refine wpOpIn_step rfl (fun K' hK' => ?_)
        go_simp
        exact hK' _ _ ⟨xb, by simp [hf, hp], R⟩
      | 2, ho =>
        injection ho with ho
        subst ho
        clear hc
        simp [Region.binds] at hf hp
        refine wpOpIn_step rfl (fun K' hK' => ?_)
        go_simp
        exact hK' _ _ ⟨xb, by simp [hf, hp], R⟩
      | 3, ho =>
        injection ho with ho
        subst ho
        clear hc
        simp [Region.binds] at hf hp
        refine wpOpIn_step rfl (fun K' hK' => ?_)
        go_simp
        exact hK' _ _ ⟨xb, by simp [hf, hp], R⟩
      | 4, ho =>
        injection ho with ho
        subst ho
        simp [Region.binds] at hf hp
        have k19 : z19 = false := hc.off (i := 19) (j := 4) (by kernel_rfl) hf
        clear hc
        have R' := R
        rw [k19] at R'
        have cc := (R'.pre rfl).cell_some HC0.out.1 (by simp)
        clear R'
        refine wpOpIn_step rfl (fun K' hK' => ?_)
        go_simp
        exact hK' _ _ ⟨xb, by simp [hf, hp, k19], R⟩
      | 5, ho =>
        injection ho with ho
        subst ho
        clear hc
        simp [Region.binds] at hf hp
        refine wpOpIn_step rfl (fun K' hK' => ?_)
        go_simp
        exact hK' _ _ ⟨xb, by simp [hf, hp], R⟩
      | 6, ho =>
        injection ho with ho
        subst ho
        clear hc
        simp [Region.binds] at hf hp
        refine wpOpIn_step rfl (fun K' hK' => ?_)
        go_simp
        exact hK' _ _ ⟨xb, by simp [hf, hp], R⟩
      | 7, ho =>
        injection ho with ho
        subst ho
        clear hc
        simp [Region.binds] at hf hp
        refine wpOpIn_step rfl (fun K' hK' => ?_)
        go_simp
        exact hK' _ _ ⟨xb, by simp [hf, hp], R⟩
      | 8, ho =>
        injection ho with ho
        subst ho
        simp [Region.binds] at hf hp
        have k19 : z19 = false := hc.off (i := 19) (j := 8) (by kernel_rfl) hf
        clear hc
        have R' := R
        rw [k19] at R'
        have cc := (R'.pre rfl).cell_some HC0.out.2.1 (by simp)
        clear R'
        refine wpOpIn_step rfl (fun K' hK' => ?_)
        go_simp
        exact hK' _ _ ⟨xb, by simp [hf, hp, k19], R⟩
      | 9, ho =>
        injection ho with ho
        subst ho
        clear hc
        simp [Region.binds] at hf hp
        refine wpOpIn_step rfl (fun K' hK' => ?_)
        go_simp
        exact hK' _ _ ⟨xb, by simp [hf, hp], R⟩
      | 10, ho =>
        injection ho with ho
        subst ho
        clear hc
        simp [Region.binds] at hf hp
        refine wpOpIn_step rfl (fun K' hK' => ?_)
        go_simp
        exact hK' _ _ ⟨xb, by simp [hf, hp], R⟩
      | 11, ho =>
        injection ho with ho
        subst ho
        clear hc
        simp [Region.binds] at hf hp
        refine wpOpIn_step rfl (fun K' hK' => ?_)
        go_simp
        exact hK' _ _ ⟨xb, by simp [hf, hp], R⟩
      | 12, ho =>
        injection ho with ho
        subst ho
        simp [Region.binds] at hf hp
        have k19 : z19 = false := hc.off (i := 19) (j := 12) (by kernel_rfl) hf
        clear hc
        have R' := R
        rw [k19] at R'
        have cc := (R'.pre rfl).cell_some HC0.out.1 (by simp)
        clear R'
        refine wpOpIn_step rfl (fun K' hK' => ?_)
        go_simp
        exact hK' _ _ ⟨xb, by simp [hf, hp, k19], R⟩
      | 13, ho =>
        injection ho with ho
        subst ho
        clear hc
        simp [Region.binds] at hf hp
        refine wpOpIn_step rfl (fun K' hK' => ?_)
        go_simp
        exact hK' _ _ ⟨xb, by simp [hf, hp], R⟩
      | 14, ho =>
        injection ho with ho
        subst ho
        simp [Region.binds] at hf hp
        have k19 : z19 = false := hc.off (i := 19) (j := 14) (by kernel_rfl) hf
        clear hc
        have R' := R
        rw [k19] at R'
        have cc := (R'.pre rfl).cell_some HC0.out.2.2 (by simp)
        clear R'
        refine wpOpIn_step rfl (fun K' hK' => ?_)
        go_simp
        exact hK' _ _ ⟨xb, by simp [hf, hp, k19], R⟩
      | 15, ho =>
        injection ho with ho
        subst ho
        clear hc
        simp [Region.binds] at hf hp
        refine wpOpIn_step rfl (fun K' hK' => ?_)
        go_simp
        exact hK' _ _ ⟨xb, by simp [hf, hp], R⟩
      | 16, ho =>
        injection ho with ho
        subst ho
        simp [Region.binds] at hf hp
        have k19 : z19 = false := hc.off (i := 19) (j := 16) (by kernel_rfl) hf
        clear hc
        have R' := R
        rw [hf, k19] at R'
        have R2 := Lib.hid R'.al
        clear R R'
        refine wpOpIn_step rfl (fun K' hK' => ?_)
        go_simp
        exact hK' _ _ ⟨w'.heap.size, by simp [hf, hp, k19], by rw [k19]; exact R2.out⟩
      | 17, ho =>
        injection ho with ho
        subst ho
        simp [Region.binds] at hf hp
        obtain k16 : z16 = true := by simp [hp]
        have k19 : z19 = false := hc.off (i := 19) (j := 17) (by kernel_rfl) hf
        clear hc
        have R' := R
        rw [k16, k19] at R'
        have cc := conv_one w' xb b (R'.a rfl rfl)
        clear R'
        refine wpOpIn_step rfl (fun K' hK' => ?_)
        go_simp
        exact hK' _ _ ⟨xb, by simp [hf, hp, k16, k19], R⟩
      | 18, ho =>
        injection ho with ho
        subst ho
        clear hc
        simp [Region.binds] at hf hp
        refine wpOpIn_step rfl (fun K' hK' => ?_)
        go_simp
        exact hK' _ _ ⟨xb, by simp [hf, hp], R⟩
      | 19, ho =>
        injection ho with ho
        subst ho
        clear hc
        simp [Region.binds] at hf hp
        have R' := R
        rw [hf] at R'
        have hC := HK2.out _ (R'.pre rfl)
        clear R R'
        refine wpOpIn_step rfl (fun K' hK' => ?_)
        go_simp
        refine ⟨trivial, (callsIn_wide.2 hC).mono ?_⟩
        rintro e w2 ⟨rfl, hQ⟩
        exact hK' _ _ ⟨xb, by simp [hf, hp], ⟨(fun h9 => by cases h9), (fun _ h9 => by cases h9), fun _ => hQ⟩⟩
      | i + 20, ho => simp at ho
    · rintro _ w' ⟨xb, rfl, hR⟩
      have R : KW W0 PST (b.toNat : Int) xb (true) (true) w' := hR
      clear hR
      have HQ := Lib.hid (HPO.out _ (R.post rfl))
      clear R
      go_wp2_with fail
      refine bodyPost_ret (results_none rfl _ _ _) rfl ?_
      exact ⟨rfl, HQ.out⟩
  · have e2 : key1 (x.ks.getD n empty) b = x.ks.getD n empty := by unfold key1; rw [if_neg h16]
    have e3 : ({ x with ks := x.ks.set n (x.ks.getD n empty) } : Con) = x := by
      have : x.ks.set n (x.ks.getD n empty) = x.ks := by
        apply List.ext_getElem?
        intro i
        rw [List.getElem?_set]
        split
        · next hi => subst hi; rw [if_pos (by rw [ok.n]; exact hnl), hkn]
        · rfl
      rw [this]
    rw [e2, e3]
    have d1 : ¬ ((x.ks.getD n empty).size : Int) < 16 := by omega
    generalize x.ks.getD n empty = S at *
    unfold RaP
    clear hbl cr0 hk2 ok hkn hb hf hn hnl hs16 h16 e2 e3
    go_enter Tryd.func24, Tryd.ntmps24
    go_wp2_with fail
    go_quiet (fail)
    go_wp2_with fail
    refine bodyPost_ret (results_none rfl _ _ _) rfl ?_
    exact ⟨rfl, g, r, HA.out.to ((Fr.refl [] w).drewN _), (Fr.refl [y] w).drewN _, .inl rfl, .inl rfl⟩
set_option maxHeartbeats 2000000 in
theorem rkey_choice (w : World) (y g r : Nat) (x : Con) (h : RAt w y x g r) (b : UInt8) (hb : b.toNat ≠ 1) (hf : x.fo = -1) (hch : x.ch = true) : Calls Tryd.prog 24 #[ptr y, .int .u8 (b.toNat : Int)] w (RaP w y g r (key x b) (.tuple #[])) := by
  have ek : key x b = toChoice x b := by unfold key; rw [if_neg hb, if_neg (by simp [hf]), if_pos hch]
  have HA := Lib.hid h
  have ok := h.ok
  have hyg := h.ne.1
  obtain ⟨⟨ck, h1, cr0⟩, hk2, -⟩ := h
  obtain ⟨cr, hbl, h2⟩ := cr0.b
  have hokc := toChoice_ok ok b
  have c0 := hbl.cell 0
  have c2 := hbl.cell 2
  have c3 := hbl.cell 3
  simp at c0 c2 c3
  rw [hf] at c2
  rw [hch] at c3
  have f2 := hbl.frozen 2
  have e1 : ((b.toNat : Int) == 1) = false := beq_eq_false_iff_ne.2 (by omega)
  have hb256 := b.toNat_lt
  rw [ek]
  clear ek
  unfold RaP
  by_cases h48 : 48 ≤ b.toNat
  · have d1 : (48 : Int) ≤ (b.toNat : Int) := by omega
    have hw : IntKind.u8.wrap ((b.toNat : Int) - 48) = (b.toNat : Int) - 48 := IntWalk.u8_in _ (by omega)
    have hw2 : IntKind.i64.wrap ((b.toNat : Int) - 48) = (b.toNat : Int) - 48 := IntWalk.i64_in _ (by omega)
    by_cases hl : (b.toNat : Int) - 48 < (x.lv : Int)
    · have ec : toChoice x b = { x with fo := (b.toNat : Int) - 48, sc := sclear } := by unfold toChoice; rw [if_pos ⟨h48, hl⟩]
      rw [ec] at hokc ⊢
      obtain ⟨W1, hW1⟩ : ∃ W1, w.setCell ⟨y, 2, none⟩ (.int .i64 ((b.toNat : Int) - 48)) = W1 := ⟨_, rfl⟩
      have hf1 : Fr [y] w W1 := by rw [← hW1]; exact (Fr.refl [y] w).setCell (by simp) _
      have HC := Lib.hid (rclear_any W1 y _ _ _ _ _ _ _ _ _ (by rw [← hW1]; exact hbl.set_ 2 (.int .i64 ((b.toNat : Int) - 48))))
      have HW := Lib.hid hW1
      have HF1 := Lib.hid hf1
      have HO := Lib.hid hokc
      have HK := Lib.hid hk2
      have HCK := Lib.hid h1
      clear hbl cr0 hk2 ok hb hf hch h48 ec hW1 hf1 hokc
      go_enter Tryd.func24, Tryd.ntmps24
      go_wp2_with fail
      rw [HW.out]
      refine HC.out.mono ?_
      rintro e w2 ⟨rfl, r', hR', hf2, hr'⟩
      have HR' := Lib.hid hR'
      have HF2 := Lib.hid (HF1.out.trans hf2)
      have Hr' := Lib.hid (Nat.le_trans HF1.out.size hr')
      clear hR' hf2 hr'
      go_wp2_with fail
      refine bodyPost_ret (results_none rfl _ _ _) rfl ?_
      exact ⟨rfl, g, r', ⟨⟨ck, HCK.out, HR'.out⟩, KeysAt.fr HK.out HF2.out (by simpa using Ne.symm hyg), HO.out⟩, HF2.out, .inl rfl, .inr Hr'.out⟩
    · have ec : toChoice x b = x := by unfold toChoice; rw [if_neg (fun h => hl h.2)]
      rw [ec]
      clear hbl cr0 hk2 ok hb hf hch h48 ec hokc
      go_enter Tryd.func24, Tryd.ntmps24
      go_wp2_with fail
      refine bodyPost_ret (results_none rfl _ _ _) rfl ?_
      exact ⟨rfl, g, r, HA.out, Fr.refl _ _, .inl rfl, .inl rfl⟩
  · have d1 : ¬ (48 : Int) ≤ (b.toNat : Int) := by omega
    have ec : toChoice x b = x := by unfold toChoice; rw [if_neg (fun h => h48 h.1)]
    rw [ec]
    clear hbl cr0 hk2 ok hb hf hch h48 ec hokc
    go_enter Tryd.func24, Tryd.ntmps24
    go_wp2_with fail
    refine bodyPost_ret (results_none rfl _ _ _) rfl ?_
    exact ⟨rfl, g, r, HA.out, Fr.refl _ _, .inl rfl, .inl rfl⟩
end Go.Proofs.YtkjahokffpihmaaDoor
