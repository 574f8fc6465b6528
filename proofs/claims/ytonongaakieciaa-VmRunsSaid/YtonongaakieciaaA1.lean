/- VmAnswers, walked. -/
import Derived.Test.YtonongaakieciaaD1
import Derived.Laws.OwnMore
import Derived.BigQuiet
import Derived.Deep.QuietTactic
namespace Go.Proofs.Ytonongaakieciaa
open Go.RowKit
set_option linter.unusedVariables false
set_option linter.unusedSimpArgs false
set_option maxRecDepth 100000
theorem Try.info53 : (Try.prog.info? 53).map (fun i => (i.zero, i.size, i.bytes)) = some (some (.agg #[.int .i64 0, .int .i64 0, .int .i64 0, .int .i64 0]), 4, 32) := by kernel_rfl
def rr (r0 r1 r2 : Int) (j : Nat) : Int := if j = 0 then r0 else if j = 1 then r1 else r2
theorem rr_cell {w : World} {g : Nat} {t : TypeId} {r0 r1 r2 : Int} (h : Blk w g t #[.int .i64 r0, .int .i64 r1, .int .i64 r2]) {j : Nat} (hj : j < 3) : w.cell? ⟨g, j, none⟩ = some (.int .i64 (rr r0 r1 r2 j)) := by
  rw [h.cell]
  rcases (by omega : j = 0 ∨ j = 1 ∨ j = 2) with rfl | rfl | rfl <;> rfl
theorem insV_two (r0 r1 r2 : Int) {j : Nat} (hj : j < 3) : insV (fA r0 r1 r2) (2 * (j + 1)) = insV (fA r0 r1 r2) (2 * j) ++ [.int .i64 2, .int .i64 ((j : Int) + 2), .int .i64 0, .int .i64 (low (rr r0 r1 r2 j) % 65536), .int .i64 3, .int .i64 ((j : Int) + 2), .int .i64 0, .int .i64 (low (rr r0 r1 r2 j) / 65536)] := by
  rw [show 2 * (j + 1) = 2 * j + 1 + 1 from by omega, insV_succ, insV_succ, List.append_assoc]
  congr 1
  rcases (by omega : j = 0 ∨ j = 1 ∨ j = 2) with rfl | rfl | rfl <;> rfl
theorem insV_last (r0 r1 r2 : Int) : insV (fA r0 r1 r2) 7 = insV (fA r0 r1 r2) 6 ++ [.int .i64 29, .int .i64 0, .int .i64 0, .int .i64 7] := insV_succ _ 6
theorem news8 {w : World} {g : Nat} {t : TypeId} {a0 a1 a2 a3 a4 a5 a6 a7 : Value} (h : Blk w g t #[a0, a1, a2, a3, a4, a5, a6, a7]) : ∀ (j : Nat) (u : Value), [a0, a1, a2, a3, a4, a5, a6, a7][j]? = some u → w.cell? ((⟨g, 0, none⟩ : Addr).add j) = some u := by
  intro j u hu
  rw [addr_add, Nat.zero_add, h.cell]
  simpa using hu
theorem news4 {w : World} {g : Nat} {t : TypeId} {a0 a1 a2 a3 : Value} (h : Blk w g t #[a0, a1, a2, a3]) : ∀ (j : Nat) (u : Value), [a0, a1, a2, a3][j]? = some u → w.cell? ((⟨g, 0, none⟩ : Addr).add j) = some u := by
  intro j u hu
  rw [addr_add, Nat.zero_add, h.cell]
  simpa using hu
set_option maxHeartbeats 8000000 in
theorem answers_walk (r0 r1 r2 : Int) (LA : Option Addr) (nl cl : Nat) (l : Nat → Int) (w : World) (hl : NumS w LA nl l) :
    Calls Try.prog 5 #[.agg #[.int .i64 r0, .int .i64 r1, .int .i64 r2], .slice LA nl cl] w fun e w' => e = .returned (.bool true) ∧ Fr [] w w' := by
  obtain ⟨i0, hi0, hz0, hz1, hz2⟩ := info3 Try.info53
  have H0 := Lib.hid ((Fr.refl [] w).alloc (.cells #[.int .i64 r0, .int .i64 r1, .int .i64 r2] 48))
  have HB := Lib.hid (Blk.new w 48 #[.int .i64 r0, .int .i64 r1, .int .i64 r2])
  generalize hW0 : w.alloc (.cells #[.int .i64 r0, .int .i64 r1, .int .i64 r2] 48) = W0 at *
  have HO0 := Lib.hid (World.ownsRow_made (base := W0.heap.size) (e := 53) (size := 4) W0 #[] 0 (Nat.le_refl _) (by simp [maxLen]) (by simp))
  have HL := Lib.hid (hl.fr H0.out)
  have HLow := Lib.hid (fun (j : Nat) W => rLow_any (rr r0 r1 r2 j) W)
  have H00 := Lib.hid ((Fr.refl [] W0).alloc (.cells #[] 53))
  clear hl
  go_enter Try.func5, Try.ntmps5
  go_wp2_with fail
  go_loopg [5, 6] 3 (fun gg vc vi wr => ∃ (j : Nat) (A : Option Addr) (c : Nat), j + gg = 3 ∧ vi = .int .i64 (j : Int) ∧ vc = .slice A (2 * j) c ∧ wr.ownsRow W0.heap.size 53 4 (.slice A (2 * j) c) (2 * j) (insV (fA r0 r1 r2) (2 * j)) ∧ Fr [] W0 wr)
  case atStart => exact ⟨0, _, _, by omega, rfl, rfl, HO0.out, H00.out⟩
  case round =>
    obtain ⟨j, A, c, hj, rfl, rfl, ho, hf⟩ := hrel
    have Hj := Lib.hid hj
    have Ho := Lib.hid ho
    have Hf := Lib.hid hf
    by_cases hlt : j < 3
    · have hlt1 : (j : Int) < 3 := by omega
      have hj0 : (0 : Int) ≤ (j : Int) := by omega
      have hwk : IntKind.i64.wrap ((j : Int) + 1) = (j : Int) + 1 := IntWalk.i64_in _ (by omega)
      have c0 := rr_cell (HB.out.fr hf (by simp)) hlt
      have HT := Lib.hid (insV_two r0 r1 r2 hlt)
      have hlo := low_in (rr r0 r1 r2 j)
      have HLj := Lib.hid (fun W => HLow.out j W)
      generalize rr r0 r1 r2 j = R at *
      generalize low R = lo at *
      clear hj ho hf
      go_wp2_with (first
        | (go_at_call 28; refine (HLj.out _).mono ?_; rintro e w2 ⟨rfl, rfl⟩)
        | (at_builtin; go_must (refine wpList_append_own _ rfl (.tmp 24) (.tmp 35) 50 rfl W0.heap.size 53 i0 (.agg #[.int .i64 0, .int .i64 0, .int .i64 0, .int .i64 0]) 4 32 Try.underlying50 hi0 hz0 hz1 hz2 rfl (Nat.succ_pos 3) (.slice A (2 * j) c) (2 * j) (insV (fA r0 r1 r2) (2 * j)) rfl (own_fr Ho.out ((Fr.refl [] wr).alloc _) (by simp)) ⟨wr.heap.size, 0, none⟩ 2 2 [.int .i64 2, .int .i64 ((j : Int) + 2), .int .i64 0, .int .i64 (lo % 65536), .int .i64 3, .int .i64 ((j : Int) + 2), .int .i64 0, .int .i64 (lo / 65536)] rfl rfl (news8 (Blk.new wr 53 _)) (by simp [Value.oneCell']) (by simp only [maxLen]; omega) (by omega) (by have := Hf.out.size; simp; omega) ?_; intro v1 w3 hown1 hg1 hnn; have HO3 := Lib.hid (And.intro hown1 ((Hf.out.alloc _).own (own_fr Ho.out ((Fr.refl [] wr).alloc _) (by simp)) hg1)); obtain ⟨A1, c1, rfl⟩ := own_shape hown1; clear hown1 hg1 hnn))
        | fail)
      go_roundg (3 - (j + 1))
      case measure => have := Hj.out; omega
      case rel => exact ⟨j + 1, _, _, by have := Hj.out; omega, by go_num, rfl, by rw [HT.out]; exact HO3.out.1, HO3.out.2⟩
    · have hlt1 : ¬ (j : Int) < 3 := by omega
      obtain rfl : j = 3 := by omega
      have HT := Lib.hid (insV_last r0 r1 r2)
      obtain ⟨xs, hx0, hxs, x7w, x7p, x70, x72, x73, x74⟩ := ans_run r0 r1 r2
      have HN := Lib.hid (fun W => New_ok 1 W (by decide) (by decide))
      have HV := Lib.hid vNew_any
      have hcz := catE_size (fA r0 r1 r2) 7
      have HBy := Lib.hid (fun (W : World) (A : Option Addr) (c : Nat) (h : W.ownsRow W0.heap.size 53 4 (.slice A 7 c) 7 (insV (fA r0 r1 r2) 7)) => lBytes_any (fA r0 r1 r2) 7 A c W (InsS.of_own h) (by decide) (okF_A r0 r1 r2))
      have HLy : Hid (∀ (W : World) (p F : Nat), MemAt W p F ⟨1, fun _ => 0⟩ → Calls Try.prog 31 #[ptr p, .int .i64 0, .int .i64 0, .string (catE (fA r0 r1 r2) 7)] W fun e w' => e = .returned (.int .i64 0) ∧ MemAt w' p F (stA r0 r1 r2) ∧ Fr [F] W w') :=
        Lib.hid (fun W p F hm => by
          have := Lay_law p F ⟨1, fun _ => 0⟩ W 0 (catE (fA r0 r1 r2) 7) hm (by rw [hcz]; simp [maxLen])
          rw [layE_ok (fA r0 r1 r2) (by decide) (by decide)] at this
          exact this)
      have HS := Lib.hid (fun (j : Nat) (hj : j < 7) W v p F g (h : MW W0 W v p F g 1 1 (some ⟨g, 0, none⟩) [⟨0, 7⟩] (xs j) (stA r0 r1 r2)) => h.step (E := (stepV (xs j) (stA r0 r1 r2) tF).1) (X := xs (j + 1)) (S := stA r0 r1 r2) (show stepV (xs j) (stA r0 r1 r2) tF = ((stepV (xs j) (stA r0 r1 r2) tF).1, xs (j + 1), stA r0 r1 r2) from Prod.ext rfl (hxs j hj).2))
      have HAn := Lib.hid (fun (j : Nat) (hj : j < 7) W v p F g (h : MW W0 W v p F g 1 1 (some ⟨g, 0, none⟩) [⟨0, 7⟩] (xs j) (stA r0 r1 r2)) => vAnswer_no h.vm LA nl cl (.inl (hxs j hj).1))
      have HFx := Lib.hid lFixed_any
      clear hj ho hf
      generalize catE (fA r0 r1 r2) 7 = B at *
      generalize stA r0 r1 r2 = ST at *
      go_wp2_with (first
        | (at_builtin; go_must (refine wpList_append_own _ rfl (.tmp 37) (.tmp 39) 50 rfl W0.heap.size 53 i0 (.agg #[.int .i64 0, .int .i64 0, .int .i64 0, .int .i64 0]) 4 32 Try.underlying50 hi0 hz0 hz1 hz2 rfl (Nat.succ_pos 3) (.slice A (2 * 3) c) (2 * 3) (insV (fA r0 r1 r2) (2 * 3)) rfl (own_fr Ho.out ((Fr.refl [] wr).alloc _) (by simp)) ⟨wr.heap.size, 0, none⟩ 1 1 [.int .i64 29, .int .i64 0, .int .i64 0, .int .i64 7] rfl rfl (news4 (Blk.new wr 53 _)) (by simp [Value.oneCell']) (by simp only [maxLen]; omega) (by omega) (by have := Hf.out.size; simp; omega) ?_; intro v1 w3 hown1 hg1 hnn; have HO3 := Lib.hid (And.intro hown1 ((Hf.out.alloc _).own (own_fr Ho.out ((Fr.refl [] wr).alloc _) (by simp)) hg1)); obtain ⟨A1, c1, rfl⟩ := own_shape hown1; clear hown1 hg1 hnn))
        | (go_at_call 29; refine (HN.out _).mono ?_; clear HN; rintro e w4 ⟨rfl, hm, hf⟩; have HM4 := Lib.hid (And.intro hm hf); clear hm hf)
        | (go_at_call 30; refine (HV.out _).mono ?_; clear HV; rintro e w5 ⟨rfl, hv, hf⟩; have HV5 := Lib.hid (And.intro hv hf); have HO5 := Lib.hid (own_fr (own_fr HO3.out.1 HM4.out.2 (by simp)) hf (by simp)); clear hv hf)
        | (go_at_call 32; go_loud (refine (HBy.out _ _ _ (by have := HO5.out; rw [HT.out]; exact this)).mono ?_; clear HBy; rintro e w6 ⟨rfl, hf⟩; have HF6 := Lib.hid hf; clear hf))
        | (go_at_call 31; go_loud (refine (HLy.out _ _ _ ((HM4.out.1.to HV5.out.2 (by simp) (by simp)).to HF6.out (by simp) (by simp))).mono ?_; clear HLy; rintro e w7 ⟨rfl, hm, hf⟩; have HK7 := Lib.hid (vm_lay (w := W0) (HV5.out.1.fr HF6.out (by simp)) ((HM4.out.1.to HV5.out.2 (by simp) (by simp)).to HF6.out (by simp) (by simp)) (((HO3.out.2.trans HM4.out.2).trans HV5.out.2).trans HF6.out) (by have := HO3.out.2.size; omega) hm hf); clear hm hf))
        | fail)
      have HD0 : Hid (MW W0 (w7.alloc (.cells #[.int .i64 0, .int .i64 7] 61)) w4.heap.size (w3.heap.size + 1) w3.heap.size w7.heap.size 1 1 (some ⟨w7.heap.size, 0, none⟩) [⟨0, 7⟩] (xs 0) ST) := Lib.hid (by
        have q1 := HO3.out.2.size
        have q2 := HM4.out.2.size
        rw [hx0]
        exact MW.one (HK7.out.1.fr ((Fr.refl [] _).alloc _) (by simp)) (HK7.out.2.1.to ((Fr.refl [] _).alloc _) (by simp) (by simp)) (Blk.new w7 61 _) (HK7.out.2.2.alloc _) (by omega) (by omega) (by omega))
      have HvL : Hid (∀ j, j < nl → ∀ b off, LA = some ⟨b, off, none⟩ → b < w4.heap.size) := Lib.hid (fun j hj b off e => by
        obtain ⟨-, b', o', e', hc⟩ := HL.out.2 j hj
        rw [e] at e'
        injection e' with e'
        injection e' with e1 e2
        subst e1
        have := World.block_lt_of_cell? _ _ hc
        have q1 := HO3.out.2.size
        have q2 := HM4.out.2.size
        simp only at this
        omega)
      clear HK7 HF6 HV5 HM4 HO3 HO5 Ho Hf
      generalize w7.alloc (.cells #[.int .i64 0, .int .i64 7] 61) = W8 at *
      generalize w4.heap.size = v at *
      generalize w3.heap.size = F at *
      generalize w7.heap.size = g at *
      obtain ⟨wr1, rfl⟩ : ∃ W, W = wr := ⟨_, rfl⟩
      go_loopg [12] 7 (fun gg vi wr => ∃ (j : Nat), j + gg = 7 ∧ vi = .int .i64 (j : Int) ∧ MW W0 wr v (F + 1) F g 1 1 (some ⟨g, 0, none⟩) [⟨0, 7⟩] (xs j) ST)
      case atStart => exact ⟨0, by omega, rfl, HD0.out⟩
      case round =>
        obtain ⟨j, hj, rfl, hd⟩ := hrel
        have Hj := Lib.hid hj
        have Hd := Lib.hid hd
        by_cases hlt : j < 7
        · have hlt1 : (j : Int) < 7 := by omega
          have hj0 : (0 : Int) ≤ (j : Int) := by omega
          have hwk : IntKind.i64.wrap ((j : Int) + 1) = (j : Int) + 1 := IntWalk.i64_in _ (by omega)
          clear hj hd
          go_wp2_with (first
            | (go_at_call 33; refine (HAn.out j hlt _ _ _ _ _ Hd.out).mono ?_; rintro e w8 ⟨rfl, rfl⟩)
            | (go_at_call 34; refine (HS.out j hlt _ _ _ _ _ Hd.out).mono ?_; rintro e w9 ⟨rfl, hd9⟩)
            | fail)
          go_roundg (7 - (j + 1))
          case measure => have := Hj.out; omega
          case rel => exact ⟨j + 1, by have := Hj.out; omega, by go_num, hd9⟩
        · have hlt1 : ¬ (j : Int) < 7 := by omega
          obtain rfl : j = 7 := by omega
          clear hj
          have kb := HB.out.fr hd.fr (by simp)
          have k0 : wr.cell? ⟨w.heap.size, 0, none⟩ = some (.int .i64 r0) := kb.cell 0
          have k1 : wr.cell? ⟨w.heap.size, 1, none⟩ = some (.int .i64 r1) := kb.cell 1
          have k2 : wr.cell? ⟨w.heap.size, 2, none⟩ = some (.int .i64 r2) := kb.cell 2
          have HL0 := Lib.hid (fun W => rLow_any r0 W)
          have HL1 := Lib.hid (fun W => rLow_any r1 W)
          have HL2 := Lib.hid (fun W => rLow_any r2 W)
          generalize hX : xs 7 = X at *
          clear HS HAn HLow hxs hX
          by_cases h3 : nl = 3
          · obtain rfl : nl = 3 := h3
            obtain ⟨-, b, off, rfl, -⟩ := HL.out.2 0 (by decide)
            have hlc : ∀ j, j < 3 → wr.cell? ⟨b, off + j, none⟩ = some (.int .i64 (l j)) := fun j hj => by
              obtain ⟨-, b', o', e', hc⟩ := (HL.out.fr hd.fr).2 j hj
              injection e' with e'
              injection e' with e1 e2
              subst e1 e2
              exact hc
            have HC := Lib.hid (fun W (h : Fr [] W0 W) (j : Nat) (hj : j < 3) => (show W.cell? ⟨b, off + j, none⟩ = some (.int .i64 (l j)) by
              obtain ⟨-, b', o', e', hc⟩ := (HL.out.fr h).2 j hj
              injection e' with e'
              injection e' with e1 e2
              subst e1 e2
              exact hc))
            have HA := Lib.hid (hd.yes (c := cl) (l := l) x7w hlc (by have := HvL.out 0 (by decide) b off rfl; omega))
            have HY := Lib.hid (show (ansV X l).wt = false ∧ (ansV X l).pl = 28 ∧ (ansV X l).r 3 = low r1 ∧ (ansV X l).r 4 = low r2 ∧ ∀ j, j < 3 → (ansV X l).r j = low (l j) from ⟨rfl, x7p, x73, x74, fun j hj => by
              rcases (by omega : j = 0 ∨ j = 1 ∨ j = 2) with rfl | rfl | rfl <;> rfl⟩)
            generalize ansV X l = Y at *
            have HWt := Lib.hid (fun W (h : VmAt W v Y) => (show Calls Try.prog 35 #[ptr v] W fun e w' => e = .returned (.bool false) ∧ W = w' by have := vWaits_any h; rwa [HY.out.1] at this))
            have HPl := Lib.hid (fun W (h : VmAt W v Y) => (show Calls Try.prog 38 #[ptr v] W fun e w' => e = .returned (.int .i64 28) ∧ W = w' by have := vPlace_any h; rwa [HY.out.2.1] at this))
            have HR3 := Lib.hid (fun W (h : VmAt W v Y) => (show Calls Try.prog 36 #[ptr v, .int .i64 3] W fun e w' => e = .returned (.int .i64 (low r1)) ∧ W = w' by have := vReg_in h 3 (by decide); rwa [HY.out.2.2.1] at this))
            have HR4 := Lib.hid (fun W (h : VmAt W v Y) => (show Calls Try.prog 36 #[ptr v, .int .i64 4] W fun e w' => e = .returned (.int .i64 (low r2)) ∧ W = w' by have := vReg_in h 4 (by decide); rwa [HY.out.2.2.2.1] at this))
            have HRj := Lib.hid (fun (j : Nat) (hj : j < 3) W (h : VmAt W v Y) => (show Calls Try.prog 36 #[ptr v, .int .i64 (j : Int)] W fun e w' => e = .returned (.int .i64 (low (l j))) ∧ W = w' by have := vReg_in h j (by omega); rwa [HY.out.2.2.2.2 j hj] at this))
            have HLj := Lib.hid (fun (j : Nat) W => rLow_any (l j) W)
            clear hd x7w x7p x70 x72 x73 x74 hlc kb k0
            have k1' := k1
            have k2' := k2
            clear k1 k2
            have HK12 := Lib.hid (fun W (h : Fr [] W0 W) => (show W.cell? ⟨w.heap.size, 1, none⟩ = some (.int .i64 r1) ∧ W.cell? ⟨w.heap.size, 2, none⟩ = some (.int .i64 r2) from ⟨(HB.out.fr h (by simp)).cell 1, (HB.out.fr h (by simp)).cell 2⟩))
            clear k1' k2'
            generalize low r1 = lo1 at *
            generalize low r2 = lo2 at *
            go_wp2_with (first
              | (go_at_call 33; refine HA.out.mono ?_; clear HA; rintro e w8 ⟨rfl, hd8⟩; have Hd8 := Lib.hid hd8; clear hd8; obtain ⟨k1, k2⟩ := HK12.out _ Hd8.out.fr)
              | fail)
            have hd := (Hd8.out.to (Fr.refl [] _).drew).vm
            go_region_held3 (fun W => W.cell? ⟨w.heap.size, 1, none⟩ = some (.int .i64 r1) ∧ W.cell? ⟨w.heap.size, 2, none⟩ = some (.int .i64 r2)) (exact ⟨k1, k2⟩) (first
              | (go_at_call 35; refine (HWt.out _ hd).mono ?_; rintro e w3 ⟨rfl, rfl⟩)
              | (go_at_call 38; refine (HPl.out _ hd).mono ?_; rintro e w3 ⟨rfl, rfl⟩)
              | (go_at_call 36; (with_reducible refine (HR3.out _ hd).mono ?_); rintro e w3 ⟨rfl, rfl⟩)
              | (go_at_call 36; (with_reducible refine (HR4.out _ hd).mono ?_); rintro e w3 ⟨rfl, rfl⟩)
              | (go_at_call 28; (with_reducible refine (HL1.out _).mono ?_); rintro e w3 ⟨rfl, rfl⟩)
              | (go_at_call 28; (with_reducible refine (HL2.out _).mono ?_); rintro e w3 ⟨rfl, rfl⟩))
            go_wp2_with fail
            have Hd9 := Lib.hid (Hd8.out.to (Fr.refl [] _).drew)
            clear hd k1 k2 HWt HPl HR3 HR4 HL1 HL2 Hd8
            obtain ⟨wr2, rfl⟩ : ∃ W, W = wr := ⟨_, rfl⟩
            go_loopg [14] 3 (fun gg vi wr => ∃ (j : Nat), j + gg = 3 ∧ vi = .int .i64 (j : Int) ∧ MW W0 wr v (F + 1) F g 1 1 (some ⟨g, 0, none⟩) [⟨0, 7⟩] Y ST)
            case atStart => exact ⟨0, by omega, rfl, Hd9.out⟩
            case round =>
              obtain ⟨j, hj, rfl, hd⟩ := hrel
              have Hj := Lib.hid hj
              have Hd := Lib.hid hd
              by_cases hlt : j < 3
              · have hlt1 : (j : Int) < 3 := by omega
                have hj0 : (0 : Int) ≤ (j : Int) := by omega
                have hwk : IntKind.i64.wrap ((j : Int) + 1) = (j : Int) + 1 := IntWalk.i64_in _ (by omega)
                have k1 := HC.out wr hd.fr j hlt
                have HRk := Lib.hid (fun W => HRj.out j hlt W)
                have HLk := Lib.hid (fun W => HLj.out j W)
                generalize l j = lj at *
                generalize low lj = loj at *
                clear hj hd
                go_wp2_with fail
                have hd := (Hd.out.to (Fr.refl [] _).drew).vm
                go_region_held3 (fun W => W.cell? ⟨b, off + j, none⟩ = some (.int .i64 lj)) (exact k1) (first
                  | (go_at_call 36; refine (HRk.out _ hd).mono ?_; rintro e w3 ⟨rfl, rfl⟩)
                  | (go_at_call 28; refine (HLk.out _).mono ?_; rintro e w3 ⟨rfl, rfl⟩))
                go_wp2_with fail
                go_roundg (3 - (j + 1))
                case measure => have := Hj.out; omega
                case rel => exact ⟨j + 1, by have := Hj.out; omega, by go_num, Hd.out.to (Fr.refl [] _).drew⟩
              · have hlt1 : ¬ (j : Int) < 3 := by omega
                clear hj hd
                go_wp2_with (first
                  | (go_at_call 37; refine (HFx.out _).mono ?_; rintro e w9 ⟨rfl, hf9⟩)
                  | fail)
                go_ret
                exact ⟨rfl, (H0.out.trans Hd.out.fr).trans hf9⟩
          · have HA := Lib.hid (vAnswer_no hd.vm LA nl cl (.inr h3))
            have HWt := Lib.hid (fun W (h : VmAt W v X) => (show Calls Try.prog 35 #[ptr v] W fun e w' => e = .returned (.bool true) ∧ W = w' by have := vWaits_any h; rwa [x7w] at this))
            have HR0 := Lib.hid (fun W (h : VmAt W v X) => (show Calls Try.prog 36 #[ptr v, .int .i64 0] W fun e w' => e = .returned (.int .i64 0) ∧ W = w' by have := vReg_in h 0 (by decide); rwa [x70] at this))
            have HR2 := Lib.hid (fun W (h : VmAt W v X) => (show Calls Try.prog 36 #[ptr v, .int .i64 2] W fun e w' => e = .returned (.int .i64 (low r0)) ∧ W = w' by have := vReg_in h 2 (by decide); rwa [x72] at this))
            have h3' : ((nl : Int) == 3) = false := beq_eq_false_iff_ne.2 (by omega)
            have h3'' : ((nl : Int) != 3) = true := bne_iff_ne.2 (by omega)
            clear hd x7w x7p x70 x72 x73 x74 h3 kb k1 k2
            generalize low r0 = lo0 at *
            go_wp2_with (first
              | (go_at_call 33; refine HA.out.mono ?_; clear HA; rintro e w8 ⟨rfl, rfl⟩)
              | fail)
            have hd := (Hd.out.to (Fr.refl [] _).drew).vm
            go_region_held3 (fun W => W.cell? ⟨w.heap.size, 0, none⟩ = some (.int .i64 r0)) (first | exact k0 | exact kk) (first
              | (go_at_call 35; refine (HWt.out _ hd).mono ?_; rintro e w3 ⟨rfl, rfl⟩)
              | (go_at_call 36; (with_reducible refine (HR0.out _ hd).mono ?_); rintro e w3 ⟨rfl, rfl⟩)
              | (go_at_call 36; (with_reducible refine (HR2.out _ hd).mono ?_); rintro e w3 ⟨rfl, rfl⟩)
              | (go_at_call 28; refine (HL0.out _).mono ?_; rintro e w3 ⟨rfl, rfl⟩)
              | (go_at_call 37; refine (HFx.out _).mono ?_; rintro e w9 ⟨rfl, hf9⟩; have kk := hf9.cell_some k0 (by simp)))
            go_wp2_with fail
            go_ret
            exact ⟨rfl, ((H0.out.trans Hd.out.fr).drew).trans hf9⟩
end Go.Proofs.Ytonongaakieciaa
