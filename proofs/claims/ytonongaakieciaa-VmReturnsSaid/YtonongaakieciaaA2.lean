/- VmReturns, walked. -/
import Derived.Test.YtonongaakieciaaA1
namespace Go.Proofs.Ytonongaakieciaa
open Go.RowKit
set_option linter.unusedVariables false
set_option linter.unusedSimpArgs false
set_option maxRecDepth 100000
theorem fR_nop {at_ far j : Nat} (h : j < at_) : fR at_ far j = ⟨0, 0, 0, 0⟩ := by unfold fR; rw [if_pos h]
theorem fR_call (at_ far : Nat) : fR at_ far at_ = ⟨28, 9, 0, far⟩ := by unfold fR; rw [if_neg (by omega), if_pos rfl]
theorem fR_stop {at_ far j : Nat} (h : j < far) : fR at_ far (at_ + 1 + j) = ⟨1, 0, 0, 0⟩ := by unfold fR; rw [if_neg (by omega), if_neg (by omega), if_pos (by omega)]
theorem fR_to (at_ far : Nat) : fR at_ far (at_ + 1 + far) = ⟨27, 9, 0, 0⟩ := by unfold fR; rw [if_neg (by omega), if_neg (by omega), if_neg (by omega)]
set_option maxHeartbeats 8000000 in
theorem returns_walk (aa ff : Int) (w : World) :
    Calls Try.prog 6 #[.int .i64 aa, .int .i64 ff] w fun e w' => e = .returned (.bool true) ∧ Fr [] w w' := by
  obtain ⟨i0, hi0, hz0, hz1, hz2⟩ := info3 Try.info53
  obtain ⟨a, ea, ha⟩ : ∃ a : Nat, aa % 20 = (a : Int) ∧ a < 20 := ⟨(aa % 20).toNat, by omega, by omega⟩
  obtain ⟨b, eb, hb⟩ : ∃ b : Nat, ff % 20 = (b : Int) ∧ b < 20 := ⟨(ff % 20).toNat, by omega, by omega⟩
  have HP1 := Lib.hid (fun W => (show Calls Try.prog 39 #[.int .i64 aa, .int .i64 20] W fun e w' => e = .returned (.int .i64 (a : Int)) ∧ W = w' by have := lPlace_any aa 20 (by decide) (by decide) W; rwa [ea] at this))
  have HP2 := Lib.hid (fun W => (show Calls Try.prog 39 #[.int .i64 ff, .int .i64 20] W fun e w' => e = .returned (.int .i64 (b : Int)) ∧ W = w' by have := lPlace_any ff 20 (by decide) (by decide) W; rwa [eb] at this))
  obtain ⟨far, hfar⟩ : ∃ far, far = 1 + b := ⟨_, rfl⟩
  have hsum : IntKind.i64.wrap (1 + (b : Int)) = (far : Int) := by rw [IntWalk.i64_in _ (by omega)]; omega
  have hsum' : (1 : Int) + (b : Int) = (far : Int) := by omega
  have hf1 : 1 ≤ far := by omega
  have hf20 : far ≤ 20 := by omega
  have HO0 := Lib.hid (World.ownsRow_made (base := w.heap.size) (e := 53) (size := 4) w #[] 0 (Nat.le_refl _) (by simp [maxLen]) (by simp))
  have H00 := Lib.hid ((Fr.refl [] w).alloc (.cells #[] 53))
  have HFx := Lib.hid lFixed_any
  have HN := Lib.hid (fun W => New_ok 1 W (by decide) (by decide))
  have HV := Lib.hid vNew_any
  have hcz := catE_size (fR a far) (a + far + 2)
  have HBy := Lib.hid (fun (W : World) (A : Option Addr) (c : Nat) (h : W.ownsRow w.heap.size 53 4 (.slice A (a + 1 + far + 1) c) (a + 1 + far + 1) (insV (fR a far) (a + 1 + far + 1))) => (show Calls Try.prog 32 #[.slice A (a + 1 + far + 1) c] W fun e w' => e = .returned (.string (catE (fR a far) (a + far + 2))) ∧ Fr [] W w' by
    rw [show a + far + 2 = a + 1 + far + 1 from by omega]
    exact lBytes_any (fR a far) (a + 1 + far + 1) A c W (InsS.of_own h) (by omega) (okF_R a far _ (by omega))))
  have HLy : Hid (∀ (W : World) (p F : Nat), MemAt W p F ⟨1, fun _ => 0⟩ → Calls Try.prog 31 #[ptr p, .int .i64 0, .int .i64 0, .string (catE (fR a far) (a + far + 2))] W fun e w' => e = .returned (.int .i64 0) ∧ MemAt w' p F (stR a far) ∧ Fr [F] W w') :=
    Lib.hid (fun W p F hm => by
      have := Lay_law p F ⟨1, fun _ => 0⟩ W 0 (catE (fR a far) (a + far + 2)) hm (by rw [hcz]; simp [maxLen]; omega)
      rw [layE_ok (fR a far) (by omega) (by decide)] at this
      exact this)
  obtain ⟨xs, hx0, hxs, x7p, x79, xst⟩ := ret_run a far ha hf1 hf20
  have HS := Lib.hid (fun (j : Nat) (hj : j < a + 2) W v p F g (h : MW w W v p F g 1 1 (some ⟨g, 0, none⟩) [⟨0, 5⟩] (xs j) (stR a far)) => h.step (E := (0, 0)) (X := xs (j + 1)) (S := stR a far) (show stepV (xs j) (stR a far) tR = ((0, 0), xs (j + 1), stR a far) from hxs j hj))
  have HSt := Lib.hid (fun W v p F g (h : MW w W v p F g 1 1 (some ⟨g, 0, none⟩) [⟨0, 5⟩] (xs (a + 2)) (stR a far)) => h.step (E := (1, 0)) (X := xs (a + 2)) (S := stR a far) (show stepV (xs (a + 2)) (stR a far) tR = ((1, 0), xs (a + 2), stR a far) from xst))
  have HPl := Lib.hid (fun W v (h : VmAt W v (xs (a + 2))) => (show Calls Try.prog 38 #[ptr v] W fun e w' => e = .returned (.int .i64 (4 * (a : Int) + 4)) ∧ W = w' by have := vPlace_any h; rw [x7p] at this; rwa [show ((4 * a + 4 : Nat) : Int) = 4 * (a : Int) + 4 from by omega] at this))
  have HR9 := Lib.hid (fun W v (h : VmAt W v (xs (a + 2))) => (show Calls Try.prog 36 #[ptr v, .int .i64 9] W fun e w' => e = .returned (.int .i64 (4 * (a : Int) + 4)) ∧ W = w' by have := vReg_in h 9 (by decide); rw [x79] at this; rwa [show ((4 * a + 4 : Nat) : Int) = 4 * (a : Int) + 4 from by omega] at this))
  have HT0 := Lib.hid (fun (j : Nat) (h : j < a) => (show insV (fR a far) (j + 1) = insV (fR a far) j ++ [.int .i64 0, .int .i64 0, .int .i64 0, .int .i64 0] by rw [insV_succ, fR_nop h]))
  have HT1 := Lib.hid (show insV (fR a far) (a + 1) = insV (fR a far) a ++ [.int .i64 28, .int .i64 9, .int .i64 0, .int .i64 (far : Int)] by rw [insV_succ, fR_call])
  have HT2 := Lib.hid (fun (j : Nat) (h : j < far) => (show insV (fR a far) (a + 1 + (j + 1)) = insV (fR a far) (a + 1 + j) ++ [.int .i64 1, .int .i64 0, .int .i64 0, .int .i64 0] by rw [show a + 1 + (j + 1) = a + 1 + j + 1 from rfl, insV_succ, fR_stop h]))
  have HT3 := Lib.hid (show insV (fR a far) (a + 1 + far + 1) = insV (fR a far) (a + 1 + far) ++ [.int .i64 27, .int .i64 9, .int .i64 0, .int .i64 0] by rw [insV_succ, fR_to])
  generalize catE (fR a far) (a + far + 2) = B at *
  generalize stR a far = ST at *
  generalize fR a far = f at *
  have Hfar := Lib.hid hfar
  clear ea eb hfar xst hxs x7p x79 hcz
  go_enter Try.func6, Try.ntmps6
  go_wp2_with (first
    | (go_at_call 39; (with_reducible refine (HP1.out _).mono ?_); rintro e w1 ⟨rfl, rfl⟩)
    | (go_at_call 39; (with_reducible refine (HP2.out _).mono ?_); rintro e w1 ⟨rfl, rfl⟩)
    | fail)
  clear hsum hsum' HP1 HP2
  go_loopg [5, 6] a (fun gg vc vi wr => ∃ (j : Nat) (A : Option Addr) (c : Nat), j + gg = a ∧ vi = .int .i64 (j : Int) ∧ vc = .slice A j c ∧ wr.ownsRow w.heap.size 53 4 (.slice A j c) j (insV f j) ∧ Fr [] w wr)
  case atStart => exact ⟨0, _, _, by omega, rfl, rfl, HO0.out, H00.out⟩
  case round =>
    obtain ⟨j, A, c, hj, rfl, rfl, ho, hf⟩ := hrel
    have Hj := Lib.hid hj
    have Ho := Lib.hid ho
    have Hf := Lib.hid hf
    by_cases hlt : j < a
    · have hlt1 : (j : Int) < (a : Int) := by omega
      have hj0 : (0 : Int) ≤ (j : Int) := by omega
      have hwk : IntKind.i64.wrap ((j : Int) + 1) = (j : Int) + 1 := IntWalk.i64_in _ (by omega)
      have HT := Lib.hid (HT0.out j hlt)
      clear hj ho hf
      go_wp2_with (first
        | (at_builtin; go_must (refine wpList_append_own _ rfl (.tmp 24) (.tmp 26) 50 rfl w.heap.size 53 i0 (.agg #[.int .i64 0, .int .i64 0, .int .i64 0, .int .i64 0]) 4 32 Try.underlying50 hi0 hz0 hz1 hz2 rfl (Nat.succ_pos 3) (.slice A j c) j (insV f j) rfl (own_fr Ho.out ((Fr.refl [] wr).alloc _) (by simp)) ⟨wr.heap.size, 0, none⟩ 1 1 [.int .i64 0, .int .i64 0, .int .i64 0, .int .i64 0] rfl rfl (news4 (Blk.new wr 53 _)) (by simp [Value.oneCell']) (by simp only [maxLen]; omega) (by omega) (by have := Hf.out.size; simp; omega) ?_; intro v1 w3 hown1 hg1 hnn; have HO3 := Lib.hid (And.intro hown1 ((Hf.out.alloc _).own (own_fr Ho.out ((Fr.refl [] wr).alloc _) (by simp)) hg1)); obtain ⟨A1, c1, rfl⟩ := own_shape hown1; clear hown1 hg1 hnn))
        | fail)
      go_roundg (a - (j + 1))
      case measure => have := Hj.out; omega
      case rel => exact ⟨j + 1, _, _, by have := Hj.out; omega, by go_num, rfl, by rw [HT.out]; exact HO3.out.1, HO3.out.2⟩
    · have hlt1 : ¬ (j : Int) < (a : Int) := by omega
      obtain rfl : j = a := by omega
      clear hj ho hf hlt
      go_wp2_with (first
        | (at_builtin; go_must (refine wpList_append_own _ rfl (.tmp 28) (.tmp 31) 50 rfl w.heap.size 53 i0 (.agg #[.int .i64 0, .int .i64 0, .int .i64 0, .int .i64 0]) 4 32 Try.underlying50 hi0 hz0 hz1 hz2 rfl (Nat.succ_pos 3) (.slice A j c) j (insV f j) rfl (own_fr Ho.out ((Fr.refl [] wr).alloc _) (by simp)) ⟨wr.heap.size, 0, none⟩ 1 1 [.int .i64 28, .int .i64 9, .int .i64 0, .int .i64 (far : Int)] rfl rfl (news4 (Blk.new wr 53 _)) (by simp [Value.oneCell']) (by simp only [maxLen]; omega) (by omega) (by have := Hf.out.size; simp; omega) ?_; intro v1 w3 hown1 hg1 hnn; have HO3 := Lib.hid (And.intro hown1 ((Hf.out.alloc _).own (own_fr Ho.out ((Fr.refl [] wr).alloc _) (by simp)) hg1)); obtain ⟨A1, c1, rfl⟩ := own_shape hown1; clear hown1 hg1 hnn))
        | fail)
      rw [← HT1.out] at HO3
      obtain ⟨wr1, rfl⟩ : ∃ W, W = wr := ⟨_, rfl⟩
      go_loopg [5, 7] far (fun gg vc vi wr => ∃ (k : Nat) (A : Option Addr) (c : Nat), k + gg = far ∧ vi = .int .i64 (k : Int) ∧ vc = .slice A (j + 1 + k) c ∧ wr.ownsRow w.heap.size 53 4 (.slice A (j + 1 + k) c) (j + 1 + k) (insV f (j + 1 + k)) ∧ Fr [] w wr)
      case atStart => exact ⟨0, _, _, by omega, rfl, rfl, HO3.out.1, HO3.out.2⟩
      case round =>
        obtain ⟨k, A, c, hk, rfl, rfl, ho, hf⟩ := hrel
        have Hk := Lib.hid hk
        have Ho := Lib.hid ho
        have Hf := Lib.hid hf
        by_cases hlt : k < far
        · have hlt1 : (k : Int) < (far : Int) := by omega
          have hk0 : (0 : Int) ≤ (k : Int) := by omega
          have hwk : IntKind.i64.wrap ((k : Int) + 1) = (k : Int) + 1 := IntWalk.i64_in _ (by omega)
          have HT := Lib.hid (HT2.out k hlt)
          clear hk ho hf
          go_wp2_with (first
            | (at_builtin; go_must (refine wpList_append_own _ rfl (.tmp 38) (.tmp 40) 50 rfl w.heap.size 53 i0 (.agg #[.int .i64 0, .int .i64 0, .int .i64 0, .int .i64 0]) 4 32 Try.underlying50 hi0 hz0 hz1 hz2 rfl (Nat.succ_pos 3) (.slice A (j + 1 + k) c) (j + 1 + k) (insV f (j + 1 + k)) rfl (own_fr Ho.out ((Fr.refl [] wr).alloc _) (by simp)) ⟨wr.heap.size, 0, none⟩ 1 1 [.int .i64 1, .int .i64 0, .int .i64 0, .int .i64 0] rfl rfl (news4 (Blk.new wr 53 _)) (by simp [Value.oneCell']) (by simp only [maxLen]; omega) (by omega) (by have := Hf.out.size; simp; omega) ?_; intro v1 w3 hown1 hg1 hnn; have HO4 := Lib.hid (And.intro hown1 ((Hf.out.alloc _).own (own_fr Ho.out ((Fr.refl [] wr).alloc _) (by simp)) hg1)); obtain ⟨A1, c1, rfl⟩ := own_shape hown1; clear hown1 hg1 hnn))
            | fail)
          go_roundg (far - (k + 1))
          case measure => have := Hk.out; omega
          case rel => exact ⟨k + 1, _, _, by have := Hk.out; omega, by go_num, rfl, by rw [HT.out]; exact HO4.out.1, HO4.out.2⟩
        · have hlt1 : ¬ (k : Int) < (far : Int) := by omega
          obtain rfl : k = far := by omega
          clear hk ho hf hlt
          go_wp2_with (first
            | (at_builtin; go_must (refine wpList_append_own _ rfl (.tmp 42) (.tmp 44) 50 rfl w.heap.size 53 i0 (.agg #[.int .i64 0, .int .i64 0, .int .i64 0, .int .i64 0]) 4 32 Try.underlying50 hi0 hz0 hz1 hz2 rfl (Nat.succ_pos 3) (.slice A (j + 1 + k) c) (j + 1 + k) (insV f (j + 1 + k)) rfl (own_fr Ho.out ((Fr.refl [] wr).alloc _) (by simp)) ⟨wr.heap.size, 0, none⟩ 1 1 [.int .i64 27, .int .i64 9, .int .i64 0, .int .i64 0] rfl rfl (news4 (Blk.new wr 53 _)) (by simp [Value.oneCell']) (by simp only [maxLen]; omega) (by omega) (by have := Hf.out.size; simp; omega) ?_; intro v1 w3 hown1 hg1 hnn; have HO3 := Lib.hid (And.intro hown1 ((Hf.out.alloc _).own (own_fr Ho.out ((Fr.refl [] wr).alloc _) (by simp)) hg1)); obtain ⟨A1, c1, rfl⟩ := own_shape hown1; clear hown1 hg1 hnn))
            | (go_at_call 29; refine (HN.out _).mono ?_; clear HN; rintro e w4 ⟨rfl, hm, hf⟩; have HM4 := Lib.hid (And.intro hm hf); clear hm hf)
            | (go_at_call 30; refine (HV.out _).mono ?_; clear HV; rintro e w5 ⟨rfl, hv, hf⟩; have HV5 := Lib.hid (And.intro hv hf); have HO5 := Lib.hid (own_fr (own_fr HO3.out.1 HM4.out.2 (by simp)) hf (by simp)); clear hv hf)
            | (go_at_call 32; refine (HBy.out _ _ _ (by have := HO5.out; rw [HT3.out]; exact this)).mono ?_; clear HBy; rintro e w6 ⟨rfl, hf⟩; have HF6 := Lib.hid hf; clear hf)
            | (go_at_call 31; refine (HLy.out _ _ _ ((HM4.out.1.to HV5.out.2 (by simp) (by simp)).to HF6.out (by simp) (by simp))).mono ?_; clear HLy; rintro e w7 ⟨rfl, hm, hf⟩; have HK7 := Lib.hid (vm_lay (w := w) (HV5.out.1.fr HF6.out (by simp)) ((HM4.out.1.to HV5.out.2 (by simp) (by simp)).to HF6.out (by simp) (by simp)) (((HO3.out.2.trans HM4.out.2).trans HV5.out.2).trans HF6.out) (by have := HO3.out.2.size; omega) hm hf); clear hm hf)
            | fail)
          have HD0 : Hid (MW w (w7.alloc (.cells #[.int .i64 0, .int .i64 5] 61)) w4.heap.size (w3.heap.size + 1) w3.heap.size w7.heap.size 1 1 (some ⟨w7.heap.size, 0, none⟩) [⟨0, 5⟩] (xs 0) ST) := Lib.hid (by
            have q1 := HO3.out.2.size
            have q2 := HM4.out.2.size
            rw [hx0]
            exact MW.one (HK7.out.1.fr ((Fr.refl [] _).alloc _) (by simp)) (HK7.out.2.1.to ((Fr.refl [] _).alloc _) (by simp) (by simp)) (Blk.new w7 61 _) (HK7.out.2.2.alloc _) (by omega) (by omega) (by omega))
          clear HK7 HF6 HV5 HM4 HO3 HO5 Ho Hf
          generalize w7.alloc (.cells #[.int .i64 0, .int .i64 5] 61) = W8 at *
          generalize w4.heap.size = v at *
          generalize w3.heap.size = F at *
          generalize w7.heap.size = g at *
          obtain ⟨wr2, rfl⟩ : ∃ W, W = wr := ⟨_, rfl⟩
          go_loopg [12] (j + 2) (fun gg vi wr => ∃ (q : Nat), q + gg = j + 2 ∧ vi = .int .i64 (q : Int) ∧ MW w wr v (F + 1) F g 1 1 (some ⟨g, 0, none⟩) [⟨0, 5⟩] (xs q) ST)
          case atStart => exact ⟨0, by omega, rfl, HD0.out⟩
          case round =>
            obtain ⟨q, hq, rfl, hd⟩ := hrel
            have Hq := Lib.hid hq
            have Hd := Lib.hid hd
            by_cases hlt : q < j + 2
            · have hlt1 : (q : Int) < (j : Int) + 2 := by omega
              have hq0 : (0 : Int) ≤ (q : Int) := by omega
              have hwk : IntKind.i64.wrap ((q : Int) + 1) = (q : Int) + 1 := IntWalk.i64_in _ (by omega)
              clear hq hd
              go_wp2_with (first
                | (go_at_call 34; refine (HS.out q hlt _ _ _ _ _ Hd.out).mono ?_; rintro e w9 ⟨rfl, hd9⟩)
                | fail)
              go_roundg (j + 2 - (q + 1))
              case measure => have := Hq.out; omega
              case rel => exact ⟨q + 1, by have := Hq.out; omega, by go_num, hd9⟩
            · have hlt1 : ¬ (q : Int) < (j : Int) + 2 := by omega
              obtain rfl : q = j + 2 := by omega
              clear hq hd hlt
              go_wp2_with (first
                | (go_at_call 38; refine (HPl.out _ _ Hd.out.vm).mono ?_; rintro e w8 ⟨rfl, rfl⟩)
                | (go_at_call 36; refine (HR9.out _ _ Hd.out.vm).mono ?_; rintro e w8 ⟨rfl, rfl⟩)
                | (go_at_call 34; refine (HSt.out _ _ _ _ _ Hd.out).mono ?_; rintro e w9 ⟨rfl, hd9⟩)
                | (go_at_call 37; refine (HFx.out _).mono ?_; rintro e w10 ⟨rfl, hf10⟩)
                | fail)
              go_ret
              exact ⟨rfl, hd9.fr.trans hf10⟩
end Go.Proofs.Ytonongaakieciaa
