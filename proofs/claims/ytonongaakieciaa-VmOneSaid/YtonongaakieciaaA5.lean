/- VmOne, walked. -/
import Derived.Test.YtonongaakieciaaM12
import Derived.Test.YtonongaakieciaaV16
namespace Go.Proofs.Ytonongaakieciaa
open Go.RowKit
set_option linter.unusedVariables false
set_option linter.unusedSimpArgs false
set_option maxRecDepth 100000
/-- VmOne's program: three registers are set. -/
def fO (r0 r1 r2 : Int) (j : Nat) : In :=
  match j with
  | 0 => ⟨2, 1, 0, low r0 % 65536⟩
  | 1 => ⟨3, 1, 0, low r0 / 65536⟩
  | 2 => ⟨2, 2, 0, low r1 % 65536⟩
  | 3 => ⟨3, 2, 0, low r1 / 65536⟩
  | 4 => ⟨2, 3, 0, low r2 % 65536⟩
  | _ => ⟨3, 3, 0, low r2 / 65536⟩
theorem okF_O (r0 r1 r2 : Int) : okF_ (fO r0 r1 r2) 6 := by
  have l0 := low_in r0
  have l1 := low_in r1
  have l2 := low_in r2
  intro j hj
  match j, hj with
  | 0, _ => exact ⟨2, by decide, rfl, okI_set 2 1 (.inl rfl) (by decide) _ (by omega) (by omega)⟩
  | 1, _ => exact ⟨3, by decide, rfl, okI_set 3 1 (.inr rfl) (by decide) _ (by omega) (by omega)⟩
  | 2, _ => exact ⟨2, by decide, rfl, okI_set 2 2 (.inl rfl) (by decide) _ (by omega) (by omega)⟩
  | 3, _ => exact ⟨3, by decide, rfl, okI_set 3 2 (.inr rfl) (by decide) _ (by omega) (by omega)⟩
  | 4, _ => exact ⟨2, by decide, rfl, okI_set 2 3 (.inl rfl) (by decide) _ (by omega) (by omega)⟩
  | 5, _ => exact ⟨3, by decide, rfl, okI_set 3 3 (.inr rfl) (by decide) _ (by omega) (by omega)⟩
theorem insV_twoO (r0 r1 r2 : Int) {j : Nat} (hj : j < 3) : insV (fO r0 r1 r2) (2 * (j + 1)) = insV (fO r0 r1 r2) (2 * j) ++ [.int .i64 2, .int .i64 ((j : Int) + 1), .int .i64 0, .int .i64 (low (rr r0 r1 r2 j) % 65536), .int .i64 3, .int .i64 ((j : Int) + 1), .int .i64 0, .int .i64 (low (rr r0 r1 r2 j) / 65536)] := by
  rw [show 2 * (j + 1) = 2 * j + 1 + 1 from by omega, insV_succ, insV_succ, List.append_assoc]
  congr 1
  rcases (by omega : j = 0 ∨ j = 1 ∨ j = 2) with rfl | rfl | rfl <;> rfl
theorem rEncode_no (i : In) (h : i.op < 0 ∨ 30 ≤ i.op) (w : World) : Calls Try.prog 42 #[i.v] w fun e w' => e = .returned (.tuple #[.string ⟨#[]⟩, .int .i64 90]) ∧ Fr [] w w' := by
  have HC := Lib.hid (fun W => rICheck_no i h W)
  obtain ⟨op, a, b, m⟩ := i
  have HB0 := Lib.hid (Blk.new w 53 #[.int .i64 op, .int .i64 a, .int .i64 b, .int .i64 m])
  have H0 : Hid (Fr [] w (w.alloc (.cells #[.int .i64 op, .int .i64 a, .int .i64 b, .int .i64 m] 53))) := Lib.hid ((Fr.refl [] w).alloc _)
  clear h
  go_enter Try.func42, Try.ntmps42
  go_wp2_with (first
    | (go_at_call 80; refine (HC.out _).mono ?_; rintro e w1 ⟨rfl, hf⟩; have H1 := Lib.hid (H0.out.trans hf); clear hf)
    | fail)
  all_goals
    exact bodyPost_ret (v := .tuple #[.string ⟨#[]⟩, .int .i64 90]) (results_tmp2 Try.results42 _ _ _) rfl ⟨rfl, H1.out⟩
set_option maxHeartbeats 4000000 in
theorem one_bad (r0 r1 r2 io ia ib im : Int) (w : World) (HE : ∀ W, Calls Try.prog 42 #[.agg #[.int .i64 io, .int .i64 ia, .int .i64 ib, .int .i64 im]] W fun e w' => e = .returned (.tuple #[.string ⟨#[]⟩, .int .i64 90]) ∧ Fr [] W w') :
    Calls Try.prog 8 #[.agg #[.int .i64 r0, .int .i64 r1, .int .i64 r2], .agg #[.int .i64 io, .int .i64 ia, .int .i64 ib, .int .i64 im]] w fun e w' => e = .returned (.bool true) ∧ Fr [] w w' := by
  have HE1 := Lib.hid HE
  have HFx := Lib.hid lFixed_any
  have H0 := Lib.hid (((Fr.refl [] w).alloc (.cells #[.int .i64 r0, .int .i64 r1, .int .i64 r2] 48)).alloc (.cells #[.int .i64 io, .int .i64 ia, .int .i64 ib, .int .i64 im] 53))
  clear HE
  go_enter Try.func8, Try.ntmps8
  go_wp2_with (first
    | (go_at_call 42; refine (HE1.out _).mono ?_; rintro e w1 ⟨rfl, hf⟩; have H1 := Lib.hid (H0.out.trans hf); clear hf)
    | (go_at_call 37; refine (HFx.out _).mono ?_; rintro e w2 ⟨rfl, hf⟩; have H2 := Lib.hid (H1.out.trans hf); clear hf)
    | fail)
  go_ret
  exact ⟨rfl, H2.out⟩
set_option maxHeartbeats 8000000 in
theorem one_ok (r0 r1 r2 io ia ib im : Int) (w : World) (EB : ByteArray) (hEB : EB.size = 4) (HE : ∀ W, Calls Try.prog 42 #[.agg #[.int .i64 io, .int .i64 ia, .int .i64 ib, .int .i64 im]] W fun e w' => e = .returned (.tuple #[.string EB, .int .i64 0]) ∧ Fr [] W w') :
    Calls Try.prog 8 #[.agg #[.int .i64 r0, .int .i64 r1, .int .i64 r2], .agg #[.int .i64 io, .int .i64 ia, .int .i64 ib, .int .i64 im]] w fun e w' => e = .returned (.bool true) ∧ Fr [] w w' := by
  have HE1 := Lib.hid HE
  have HFx := Lib.hid lFixed_any
  obtain ⟨i0, hi0, hz0, hz1, hz2⟩ := info3 Try.info53
  have H0 := Lib.hid (((Fr.refl [] w).alloc (.cells #[.int .i64 r0, .int .i64 r1, .int .i64 r2] 48)).alloc (.cells #[.int .i64 io, .int .i64 ia, .int .i64 ib, .int .i64 im] 53))
  have HB := Lib.hid ((Blk.new w 48 #[.int .i64 r0, .int .i64 r1, .int .i64 r2]).alloc (.cells #[.int .i64 io, .int .i64 ia, .int .i64 ib, .int .i64 im] 53))
  have hBi := Blk.new' (w := w.alloc (.cells #[.int .i64 r0, .int .i64 r1, .int .i64 r2] 48)) (t := 53) (cs := #[.int .i64 io, .int .i64 ia, .int .i64 ib, .int .i64 im]) (g := w.heap.size + 1) (by simp)
  generalize hW0 : (w.alloc (.cells #[.int .i64 r0, .int .i64 r1, .int .i64 r2] 48)).alloc (.cells #[.int .i64 io, .int .i64 ia, .int .i64 ib, .int .i64 im] 53) = W0 at *
  have j0 : W0.cell? ⟨w.heap.size + 1, 0, none⟩ = some (.int .i64 io) := hBi.cell 0
  have j1 : W0.cell? ⟨w.heap.size + 1, 1, none⟩ = some (.int .i64 ia) := hBi.cell 1
  have j2 : W0.cell? ⟨w.heap.size + 1, 2, none⟩ = some (.int .i64 ib) := hBi.cell 2
  have j3 : W0.cell? ⟨w.heap.size + 1, 3, none⟩ = some (.int .i64 im) := hBi.cell 3
  clear hBi
  have HLow := Lib.hid (fun (j : Nat) W => rLow_any (rr r0 r1 r2 j) W)
  have hEBs : EB.size < 100 := by omega
  have HEBs := Lib.hid hEB
  clear HE hEB
  go_enter Try.func8, Try.ntmps8
  go_wp2_with (first
    | (go_at_call 42; refine (HE1.out _).mono ?_; clear HE1; rintro e w1 ⟨rfl, hf⟩; have H1 := Lib.hid hf; clear hf j0 j1 j2 j3)
    | fail)
  have HO0 := Lib.hid (World.ownsRow_made (base := W0.heap.size) (e := 53) (size := 4) w1 #[] 0 H1.out.size (by simp [maxLen]) (by simp))
  have H00 := Lib.hid (H1.out.alloc (.cells #[] 53))
  go_loopg [7, 8] 3 (fun gg vc vi wr => ∃ (j : Nat) (A : Option Addr) (c : Nat), j + gg = 3 ∧ vi = .int .i64 (j : Int) ∧ vc = .slice A (2 * j) c ∧ wr.ownsRow W0.heap.size 53 4 (.slice A (2 * j) c) (2 * j) (insV (fO r0 r1 r2) (2 * j)) ∧ Fr [] W0 wr)
  case atStart => exact ⟨0, _, _, by omega, rfl, rfl, HO0.out, H00.out⟩
  case round =>
    obtain ⟨j, A, c, hj, rfl, rfl, ho, hf⟩ := hrel
    have Hj := Lib.hid hj
    have Ho := Lib.hid ho
    have Hf := Lib.hid hf
    by_cases hlt : j < 3
    · have hlt1 : (j : Int) < 3 := by omega
      have hj0 : (0 : Int) ≤ (j : Int) := by omega
      have hwk : IntKind.i64.wrap ((j : Int) + 1) = (j : Int) + 1 := IntWalk.i64_in _ (by omega)
      have c0 := rr_cell (HB.out.fr hf (by simp)) hlt
      have HT := Lib.hid (insV_twoO r0 r1 r2 hlt)
      have hlo := low_in (rr r0 r1 r2 j)
      have HLj := Lib.hid (fun W => HLow.out j W)
      generalize rr r0 r1 r2 j = R at *
      generalize low R = lo at *
      clear hj ho hf
      go_wp2_with (first
        | (go_at_call 28; refine (HLj.out _).mono ?_; rintro e w2 ⟨rfl, rfl⟩)
        | (at_builtin; go_must (refine wpList_append_own _ rfl (.tmp 35) (.tmp 46) 50 rfl W0.heap.size 53 i0 (.agg #[.int .i64 0, .int .i64 0, .int .i64 0, .int .i64 0]) 4 32 Try.underlying50 hi0 hz0 hz1 hz2 rfl (Nat.succ_pos 3) (.slice A (2 * j) c) (2 * j) (insV (fO r0 r1 r2) (2 * j)) rfl (own_fr Ho.out ((Fr.refl [] wr).alloc _) (by simp)) ⟨wr.heap.size, 0, none⟩ 2 2 [.int .i64 2, .int .i64 ((j : Int) + 1), .int .i64 0, .int .i64 (lo % 65536), .int .i64 3, .int .i64 ((j : Int) + 1), .int .i64 0, .int .i64 (lo / 65536)] rfl rfl (news8 (Blk.new wr 53 _)) (by simp [Value.oneCell']) (by simp only [maxLen]; omega) (by omega) (by have := Hf.out.size; simp; omega) ?_; intro v1 w3 hown1 hg1 hnn; have HO3 := Lib.hid (And.intro hown1 ((Hf.out.alloc _).own (own_fr Ho.out ((Fr.refl [] wr).alloc _) (by simp)) hg1)); obtain ⟨A1, c1, rfl⟩ := own_shape hown1; clear hown1 hg1 hnn))
        | fail)
      go_roundg (3 - (j + 1))
      case measure => have := Hj.out; omega
      case rel => exact ⟨j + 1, _, _, by have := Hj.out; omega, by go_num, rfl, by rw [HT.out]; exact HO3.out.1, HO3.out.2⟩
    · have hlt1 : ¬ (j : Int) < 3 := by omega
      obtain rfl : j = 3 := by omega
      have hcz := catE_size (fO r0 r1 r2) 6
      have HN := Lib.hid (fun W => New_ok 2 W (by decide) (by decide))
      have HN2 := Lib.hid (fun W => rNew_ok 2 W (by decide) (by decide))
      unfold RNewP at HN2
      have HV := Lib.hid vNew_any
      have HBy := Lib.hid (fun (W : World) (hf : Fr [] wr W) => lBytes_any (fO r0 r1 r2) 6 A c W (InsS.of_own (own_fr Ho.out hf (by simp))) (by decide) (okF_O r0 r1 r2))
      have hsz : (catE (fO r0 r1 r2) 6 ++ EB).size ≤ maxLen := by rw [ByteArray.size_append, hcz, HEBs.out]; simp [maxLen]
      have hlE : layE 2 0 0 (catE (fO r0 r1 r2) 6 ++ EB) = 0 := by
        unfold layE
        rw [if_neg (by decide), if_neg (by rw [ByteArray.size_append, hcz, HEBs.out]; decide)]
      have HLP := Lib.hid (fun W v p F y q G st' (h : Pm W0 W v p F y q G vm0 ⟨2, fun _ => 0⟩ vm0 st') => (show Calls Try.prog 31 #[ptr p, .int .i64 0, .int .i64 0, .string (catE (fO r0 r1 r2) 6 ++ EB)] W fun e w' => e = .returned (.int .i64 0) ∧ Pm W0 w' v p F y q G vm0 (layS ⟨2, fun _ => 0⟩ 0 0 (catE (fO r0 r1 r2) 6 ++ EB)) vm0 st' ∧ Fr [F] W w' by
        have := h.layP 0 (catE (fO r0 r1 r2) 6 ++ EB) hsz
        rw [hlE] at this
        exact this))
      have HLR := Lib.hid (fun W v p F y q G st (h : Pm W0 W v p F y q G vm0 st vm0 ⟨2, fun _ => 0⟩) => (show Calls Try.prog 43 #[ptr q, .int .i64 0, .int .i64 0, .string (catE (fO r0 r1 r2) 6 ++ EB)] W fun e w' => e = .returned (.int .i64 0) ∧ Pm W0 w' v p F y q G vm0 st vm0 (layS ⟨2, fun _ => 0⟩ 0 0 (catE (fO r0 r1 r2) 6 ++ EB)) by
        have := h.layR 0 (catE (fO r0 r1 r2) 6 ++ EB) hsz
        rw [hlE] at this
        exact this))
      have hcat : ¬ 9223372036854775807 < (catE (fO r0 r1 r2) 6).size + EB.size := by rw [hcz]; omega
      have HSn : Hid ((layS ⟨2, fun _ => 0⟩ 0 0 (catE (fO r0 r1 r2) 6 ++ EB)).n = 2) := Lib.hid (layS_n ..)
      generalize layS ⟨2, fun _ => 0⟩ 0 0 (catE (fO r0 r1 r2) 6 ++ EB) = S0 at *
      generalize catE (fO r0 r1 r2) 6 = B at *
      have HPm : Hid (∀ (W1 W2 W3 : World) (p F q G v y : Nat), MemAt W1 p F ⟨2, fun _ => 0⟩ → Fr [] W0 W1 → W0.heap.size ≤ F → RMem W2 q G ⟨2, fun _ => 0⟩ → Fr [] W1 W2 → W1.heap.size ≤ G → VmAt W3 v vm0 → Fr [] W2 W3 → v = W2.heap.size → y = W3.heap.size → Pm W0 (W3.alloc (.cells (rcells vm0) 86)) v p F y q G vm0 ⟨2, fun _ => 0⟩ vm0 ⟨2, fun _ => 0⟩) := Lib.hid (by
        intro W1 W2 W3 p F q G v y hm hf1 hF hr hf2 hG hv hf3 ev ey
        subst ey
        have z1 := hf1.size
        have z2 := hf2.size
        have z3 := hf3.size
        have f4 : Fr [] W3 (W3.alloc (.cells (rcells vm0) 86)) := (Fr.refl [] W3).alloc _
        exact ⟨hv.fr f4 (by simp), ((hm.to hf2 (by simp) (by simp)).to hf3 (by simp) (by simp)).to f4 (by simp) (by simp), rvm_new W3, (hr.to hf3 (by simp) (by simp)).to f4 (by simp) (by simp), ((hf1.trans hf2).trans hf3).trans f4, by omega⟩)
      clear hj ho hf hcz hsz hlE
      go_wp2_with (first
        | (go_at_call 29; refine (HN.out _).mono ?_; clear HN; rintro e w4 ⟨rfl, hm, hf⟩; have HM4 := Lib.hid (And.intro hm hf); clear hm hf)
        | (go_at_call 41; refine (HN2.out _).mono ?_; clear HN2; rintro e w5 ⟨q, G, rfl, hm, hf, hq, hG⟩; have HM5 := Lib.hid (And.intro hm (And.intro hf hG)); clear hm hf hq hG)
        | (go_at_call 30; refine (HV.out _).mono ?_; clear HV; rintro e w6 ⟨rfl, hv, hf⟩; have HV6 := Lib.hid (And.intro hv hf); have hd := HPm.out w4 w5 w6 _ _ _ _ _ _ HM4.out.1 (Hf.out.trans HM4.out.2) Hf.out.size HM5.out.1 HM5.out.2.1 HM5.out.2.2 hv hf rfl rfl
           have HWr := Lib.hid (((HM4.out.2.trans HM5.out.2.1).trans hf).alloc (.cells (rcells vm0) 86))
           clear hv hf)
        | (go_at_call 32; have _t := Hd8; refine (HBy.out _ HW8.out).mono ?_; clear HBy _t; rintro e w9 ⟨rfl, hf⟩; have Hd9 := Lib.hid (Hd8.out.to hf); clear hf)
        | (go_at_call 32; refine (HBy.out _ HWr.out).mono ?_; rintro e w7 ⟨rfl, hf⟩; have Hd7 := Lib.hid (hd.to hf); have HW7 := Lib.hid (HWr.out.trans hf); clear hd hf)
        | (go_at_call 31; refine (HLP.out _ _ _ _ _ _ _ _ Hd7.out).mono ?_; clear HLP; rintro e w8 ⟨rfl, hd, hf⟩; have Hd8 := Lib.hid hd; have HW8 := Lib.hid (HW7.out.step hf (fun k hk => by simp at hk; subst hk; exact .inr (Nat.le_refl _))); clear hd hf)
        | (go_at_call 43; refine (HLR.out _ _ _ _ _ _ _ _ Hd9.out).mono ?_; clear HLR; rintro e w10 ⟨rfl, hd⟩; have Hd10 := Lib.hid (hd.to ((Fr.refl [] w10).alloc (.cells #[.int .i64 0, .int .i64 7, .int .i64 1, .int .i64 3] 61))); clear hd)
        | fail)
      have HD0 := Lib.hid (Hd10.out.two (Blk.new w10 61 #[.int .i64 0, .int .i64 7, .int .i64 1, .int .i64 3]))
      clear Hd10 Hd9 Hd8 Hd7 HW7 HW8 HWr HV6 HM5 HM4 HPm
      generalize w10.alloc (.cells #[.int .i64 0, .int .i64 7, .int .i64 1, .int .i64 3] 61) = W11 at *
      generalize w10.heap.size = g at *
      generalize w5.heap.size = v at *
      generalize w6.heap.size = y at *
      generalize wr.heap.size = F at *
      have HSt := Lib.hid (fun (x : Vm) (st : St) => (show ∃ E X S, stepV x st [⟨0, 7⟩, ⟨1, 3⟩] = (E, X, S) ∧ S.n = st.n from ⟨_, _, _, rfl, (Wr.stepV x st [⟨0, 7⟩, ⟨1, 3⟩]).n⟩))
      obtain ⟨wr1, rfl⟩ : ∃ W, W = wr := ⟨_, rfl⟩
      go_loopg [17] 7 (fun gg vi wr => ∃ (j : Nat) (x : Vm) (st : St), j + gg = 7 ∧ vi = .int .i64 (j : Int) ∧ Pr W0 wr v (F + 1) F y q G g 2 2 (some ⟨g, 0, none⟩) [⟨0, 7⟩, ⟨1, 3⟩] x st x st ∧ st.n = 2)
      case atStart => exact ⟨0, vm0, S0, by omega, rfl, HD0.out, HSn.out⟩
      case round =>
        obtain ⟨j, x, st, hj, rfl, hd, hn⟩ := hrel
        have Hj := Lib.hid hj
        have Hd := Lib.hid hd
        have Hn := Lib.hid hn
        by_cases hlt : j < 7
        · have hlt1 : (j : Int) < 7 := by omega
          have hj0 : (0 : Int) ≤ (j : Int) := by omega
          have hwj : IntKind.i64.wrap ((j : Int) + 1) = (j : Int) + 1 := IntWalk.i64_in _ (by omega)
          obtain ⟨⟨ek, en⟩, X, S, hs, hSn⟩ := HSt.out x st
          have HS1 := Lib.hid (fun W x' s' (h : Pr W0 W v (F + 1) F y q G g 2 2 (some ⟨g, 0, none⟩) [⟨0, 7⟩, ⟨1, 3⟩] x st x' s') => h.stepP hs)
          have HS2 := Lib.hid (fun W x' s' (h : Pr W0 W v (F + 1) F y q G g 2 2 (some ⟨g, 0, none⟩) [⟨0, 7⟩, ⟨1, 3⟩] x' s' x st) => h.stepR hs)
          have HSn' := Lib.hid hSn
          clear hj hd hn hs hSn
          go_wp2_with (first
            | (go_at_call 34; refine (HS1.out _ _ _ Hd.out).mono ?_; rintro e w11 ⟨rfl, hd, -⟩; have Hd11 := Lib.hid hd; clear hd)
            | (go_at_call 44; refine (HS2.out _ _ _ Hd11.out).mono ?_; rintro e w12 ⟨rfl, hd, -⟩; have Hd12 := Lib.hid hd; clear hd)
            | (go_at_call 45; refine Hd12.out.tells.mono ?_; rintro e w13 ⟨rfl, hd13, -⟩)
            | fail)
          go_roundg (7 - (j + 1))
          case measure => have := Hj.out; omega
          case rel => exact ⟨j + 1, X, S, by have := Hj.out; omega, by go_num, hd13, by rw [HSn'.out]; exact Hn.out⟩
        · have hlt1 : ¬ (j : Int) < 7 := by omega
          have HSm := Lib.hid (show Calls Try.prog 46 #[ptr (F + 1), ptr q, .int .i64 2] wr fun e w' => e = .returned (.bool true) ∧ wr = w' by have := hd.same; rwa [hn] at this)
          clear hj hd hn hlt
          go_wp2_with (first
            | (go_at_call 46; refine HSm.out.mono ?_; rintro e w11 ⟨rfl, rfl⟩)
            | (go_at_call 37; refine (HFx.out _).mono ?_; rintro e w12 ⟨rfl, hf12⟩)
            | fail)
          go_ret
          exact ⟨rfl, (H0.out.trans Hd.out.fr).trans hf12⟩
theorem one_walk (r0 r1 r2 io ia ib im : Int) (w : World) (hio : -9223372036854775808 ≤ io ∧ io ≤ 9223372036854775807) :
    Calls Try.prog 8 #[.agg #[.int .i64 r0, .int .i64 r1, .int .i64 r2], .agg #[.int .i64 io, .int .i64 ia, .int .i64 ib, .int .i64 im]] w fun e w' => e = .returned (.bool true) ∧ Fr [] w w' := by
  by_cases h : io < 0 ∨ 30 ≤ io
  · exact one_bad r0 r1 r2 io ia ib im w (fun W => rEncode_no ⟨io, ia, ib, im⟩ h W)
  · obtain ⟨k, rfl⟩ := Int.eq_ofNat_of_zero_le (by omega : 0 ≤ io)
    cases ho : okI ⟨k, ia, ib, im⟩ k with
    | true => exact one_ok r0 r1 r2 k ia ib im w (encB ⟨k, ia, ib, im⟩) (bs4_size ..) (fun W => rEncode_good ⟨k, ia, ib, im⟩ k (by omega) rfl ho W)
    | false => exact one_bad r0 r1 r2 k ia ib im w (fun W => rEncode_bad ⟨k, ia, ib, im⟩ k (by omega) rfl ho W)
end Go.Proofs.Ytonongaakieciaa
