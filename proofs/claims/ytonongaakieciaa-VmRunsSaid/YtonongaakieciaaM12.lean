/- The document's machine: its step, whatever it has fetched. The document's machine: Answer; the law's tells, same; both machines in one world. The program's machine and the document's in one world, each with its memory, and one table. -/
import Derived.Test.YtonongaakieciaaM9
import Derived.Test.YtonongaakieciaaM6
import Derived.Test.YtonongaakieciaaM8
import Derived.Test.YtonongaakieciaaD1
import Derived.Test.YtonongaakieciaaA1
import Derived.Test.YtonongaakieciaaV15
namespace Go.Proofs.Ytonongaakieciaa
open Go.RowKit
set_option linter.unusedVariables false
set_option linter.unusedSimpArgs false
set_option maxRecDepth 100000
theorem rstepI_any (y q G bt mm cap : Nat) (x : Vm) (st : St) (A : Option Addr) (t : List Pg) (w : World) (h : RPre w y q G bt mm cap A t x st) (k a b : Nat) (m : Int) (hf : fetI x st t = (⟨k, a, b, m⟩, 0)) :
    Calls Try.prog 44 #[ptr y, ptr q, .slice A mm cap] w (RStepQ w y q G (stepI x st t k a b m).1 (stepI x st t k a b m).2.1 (stepI x st t k a b m).2.2) := by
  obtain ⟨hk, -⟩ := dec_okI (fet_parts hf).2.2
  rcases (by omega : k = 0 ∨ k = 1 ∨ k = 2 ∨ k = 3 ∨ k = 4 ∨ k = 5 ∨ k = 6 ∨ k = 7 ∨ k = 8 ∨ k = 9 ∨ k = 10 ∨ k = 11 ∨ k = 12 ∨ k = 13 ∨ k = 14 ∨ k = 15 ∨ k = 16 ∨ k = 17 ∨ k = 18 ∨ k = 19 ∨ k = 20 ∨ k = 21 ∨ k = 22 ∨ k = 23 ∨ k = 24 ∨ k = 25 ∨ k = 26 ∨ k = 27 ∨ k = 28 ∨ k = 29) with rfl | rfl | rfl | rfl | rfl | rfl | rfl | rfl | rfl | rfl | rfl | rfl | rfl | rfl | rfl | rfl | rfl | rfl | rfl | rfl | rfl | rfl | rfl | rfl | rfl | rfl | rfl | rfl | rfl | rfl
  · exact rs_0 y q G bt mm cap x st A t w h a b m hf
  · exact rs_1 y q G bt mm cap x st A t w h a b m hf
  · exact rs_2 y q G bt mm cap x st A t w h a b m hf
  · exact rs_3 y q G bt mm cap x st A t w h a b m hf
  · exact rs_sum y q G bt mm cap x st A t w h a b m 4 (by unfold isSum; simp) hf
  · exact rs_sum y q G bt mm cap x st A t w h a b m 5 (by unfold isSum; simp) hf
  · exact rs_sum y q G bt mm cap x st A t w h a b m 6 (by unfold isSum; simp) hf
  · exact rs_sum y q G bt mm cap x st A t w h a b m 7 (by unfold isSum; simp) hf
  · by_cases hz : x.r b = 0
    · have e : stepI x st t 8 a b m = ((2, 5), x, st) := by show (if x.r b = 0 then _ else _) = _; rw [if_pos hz]
      rw [e]
      exact rs_8_z y q G bt mm cap x st A t w h a b m hz hf
    · have e : stepI x st t 8 a b m = ((0, 0), putP (putR x a (x.r a / x.r b)) ((x.pl + 4) % 4294967296), st) := by show (if x.r b = 0 then _ else _) = _; rw [if_neg hz]
      rw [e]
      exact rs_8 y q G bt mm cap x st A t w h a b m hz hf
  · by_cases hz : x.r b = 0
    · have e : stepI x st t 9 a b m = ((2, 5), x, st) := by show (if x.r b = 0 then _ else _) = _; rw [if_pos hz]
      rw [e]
      exact rs_9_z y q G bt mm cap x st A t w h a b m hz hf
    · have e : stepI x st t 9 a b m = ((0, 0), putP (putR x a (x.r a % x.r b)) ((x.pl + 4) % 4294967296), st) := by show (if x.r b = 0 then _ else _) = _; rw [if_neg hz]
      rw [e]
      exact rs_9 y q G bt mm cap x st A t w h a b m hz hf
  · exact rs_sum y q G bt mm cap x st A t w h a b m 10 (by unfold isSum; simp) hf
  · exact rs_sum y q G bt mm cap x st A t w h a b m 11 (by unfold isSum; simp) hf
  · exact rs_sum y q G bt mm cap x st A t w h a b m 12 (by unfold isSum; simp) hf
  · exact rs_sum y q G bt mm cap x st A t w h a b m 13 (by unfold isSum; simp) hf
  · exact rs_sum y q G bt mm cap x st A t w h a b m 14 (by unfold isSum; simp) hf
  · exact rs_sum y q G bt mm cap x st A t w h a b m 15 (by unfold isSum; simp) hf
  · exact rs_sum y q G bt mm cap x st A t w h a b m 16 (by unfold isSum; simp) hf
  · exact rs_sum y q G bt mm cap x st A t w h a b m 17 (by unfold isSum; simp) hf
  · exact rs_sum y q G bt mm cap x st A t w h a b m 18 (by unfold isSum; simp) hf
  · exact rs_19 y q G bt mm cap x st A t w h a b m hf
  · by_cases he : (ldR st t ((x.r b + m) % 4294967296) 1 1).2 = 0
    · have e : stepI x st t 20 a b m = ((0, 0), putP (putR x a ((ldR st t ((x.r b + m) % 4294967296) 1 1).1 % 4294967296)) ((x.pl + 4) % 4294967296), st) := by
        show touchV 20 x st t a ((x.r b + m) % 4294967296) 1 ((x.pl + 4) % 4294967296) = _
        unfold touchV
        rw [if_pos (by simp), if_neg (by simpa using he)]
      rw [e]
      exact rs_20 y q G bt mm cap x st A t w h a b m he hf
    · have e : stepI x st t 20 a b m = ((2, 3), x, st) := by
        show touchV 20 x st t a ((x.r b + m) % 4294967296) 1 ((x.pl + 4) % 4294967296) = _
        unfold touchV
        rw [if_pos (by simp), if_pos he]
      rw [e]
      exact rs_20_e y q G bt mm cap x st A t w h a b m he hf
  · by_cases he : (ldR st t ((x.r b + m) % 4294967296) 4 1).2 = 0
    · have e : stepI x st t 21 a b m = ((0, 0), putP (putR x a ((ldR st t ((x.r b + m) % 4294967296) 4 1).1 % 4294967296)) ((x.pl + 4) % 4294967296), st) := by
        show touchV 21 x st t a ((x.r b + m) % 4294967296) 4 ((x.pl + 4) % 4294967296) = _
        unfold touchV
        rw [if_pos (by simp), if_neg (by simpa using he)]
      rw [e]
      exact rs_21 y q G bt mm cap x st A t w h a b m he hf
    · have e : stepI x st t 21 a b m = ((2, 3), x, st) := by
        show touchV 21 x st t a ((x.r b + m) % 4294967296) 4 ((x.pl + 4) % 4294967296) = _
        unfold touchV
        rw [if_pos (by simp), if_pos he]
      rw [e]
      exact rs_21_e y q G bt mm cap x st A t w h a b m he hf
  · by_cases he : stE st t ((x.r b + m) % 4294967296) 1 (x.r a) = 0
    · have e : stepI x st t 22 a b m = ((0, 0), putP x ((x.pl + 4) % 4294967296), stS st t ((x.r b + m) % 4294967296) 1 (x.r a)) := by
        show touchV 22 x st t a ((x.r b + m) % 4294967296) 1 ((x.pl + 4) % 4294967296) = _
        unfold touchV
        rw [if_neg (by simp), if_neg (by simpa using he)]
      rw [e]
      exact rs_22 y q G bt mm cap x st A t w h a b m he hf
    · have e : stepI x st t 22 a b m = ((2, 4), x, st) := by
        show touchV 22 x st t a ((x.r b + m) % 4294967296) 1 ((x.pl + 4) % 4294967296) = _
        unfold touchV
        rw [if_neg (by simp), if_pos he]
      rw [e]
      exact rs_22_e y q G bt mm cap x st A t w h a b m he hf
  · by_cases he : stE st t ((x.r b + m) % 4294967296) 4 (x.r a) = 0
    · have e : stepI x st t 23 a b m = ((0, 0), putP x ((x.pl + 4) % 4294967296), stS st t ((x.r b + m) % 4294967296) 4 (x.r a)) := by
        show touchV 23 x st t a ((x.r b + m) % 4294967296) 4 ((x.pl + 4) % 4294967296) = _
        unfold touchV
        rw [if_neg (by simp), if_neg (by simpa using he)]
      rw [e]
      exact rs_23 y q G bt mm cap x st A t w h a b m he hf
    · have e : stepI x st t 23 a b m = ((2, 4), x, st) := by
        show touchV 23 x st t a ((x.r b + m) % 4294967296) 4 ((x.pl + 4) % 4294967296) = _
        unfold touchV
        rw [if_neg (by simp), if_pos he]
      rw [e]
      exact rs_23_e y q G bt mm cap x st A t w h a b m he hf
  · exact rs_24 y q G bt mm cap x st A t w h a b m hf
  · by_cases hz : x.r a = 0
    · have e : stepI x st t 25 a b m = ((0, 0), putP x ((((x.pl + 4) % 4294967296) + 4 * m) % 4294967296), st) := by show ((0, 0), putP x (if x.r a = 0 then _ else _), st) = _; rw [if_pos hz]
      rw [e]
      exact rs_25_0 y q G bt mm cap x st A t w h a b m hz hf
    · have e : stepI x st t 25 a b m = ((0, 0), putP x ((x.pl + 4) % 4294967296), st) := by show ((0, 0), putP x (if x.r a = 0 then _ else _), st) = _; rw [if_neg hz]
      rw [e]
      exact rs_25_1 y q G bt mm cap x st A t w h a b m hz hf
  · by_cases hz : x.r a = 0
    · have e : stepI x st t 26 a b m = ((0, 0), putP x ((x.pl + 4) % 4294967296), st) := by show ((0, 0), putP x (if x.r a = 0 then _ else _), st) = _; rw [if_pos hz]
      rw [e]
      exact rs_26_0 y q G bt mm cap x st A t w h a b m hz hf
    · have e : stepI x st t 26 a b m = ((0, 0), putP x ((((x.pl + 4) % 4294967296) + 4 * m) % 4294967296), st) := by show ((0, 0), putP x (if x.r a = 0 then _ else _), st) = _; rw [if_neg hz]
      rw [e]
      exact rs_26_1 y q G bt mm cap x st A t w h a b m hz hf
  · exact rs_27 y q G bt mm cap x st A t w h a b m hf
  · exact rs_28 y q G bt mm cap x st A t w h a b m hf
  · exact rs_29 y q G bt mm cap x st A t w h a b m hf
/-- The document's step, whatever the machine, the memory and the table. -/
theorem rStep_any (y q G bt mm cap : Nat) (x : Vm) (st : St) (A : Option Addr) (t : List Pg) (w : World) (h : RPre w y q G bt mm cap A t x st) :
    Calls Try.prog 44 #[ptr y, ptr q, .slice A mm cap] w (RStepQ w y q G (stepV x st t).1 (stepV x st t).2.1 (stepV x st t).2.2) := by
  by_cases hh : (fetI x st t).2 = 0
  · obtain ⟨-, k, a, b, h1, h2, h3, hk, ha, hb, -⟩ := fetI_ok hh
    have hf : fetI x st t = (⟨k, a, b, (fetI x st t).1.m⟩, 0) := by
      rw [← h1, ← h2, ← h3, ← hh]
    have e : stepV x st t = stepI x st t k a b (fetI x st t).1.m := by
      unfold stepV
      rw [if_neg (by omega), h1, h2, h3]
      simp
    rw [e]
    exact rstepI_any y q G bt mm cap x st A t w h k a b _ hf
  · have e : stepV x st t = ((2, (fetI x st t).2), x, st) := by
      unfold stepV
      rw [if_pos hh]
    rw [e]
    exact rs_trap y q G bt mm cap x st A t w h _ rfl hh
end Go.Proofs.Ytonongaakieciaa
namespace Go.Proofs.Ytonongaakieciaa
open Go.RowKit
set_option linter.unusedVariables false
set_option linter.unusedSimpArgs false
set_option maxRecDepth 100000
section
variable {w : World} {y : Nat} {x : Vm}
theorem rAnswer_no (h : RvmAt w y x) (A : Option Addr) (n cap : Nat) (hn : x.wt = false ∨ n ≠ 3) : Calls Try.prog 50 #[ptr y, .slice A n cap] w fun e w' => e = .returned (.int .i64 100) ∧ w = w' := by
  have c := h.waits
  clear h
  cases hw : x.wt with
  | false =>
    rw [hw] at c
    clear hn hw
    go_enter Try.func50, Try.ntmps50
    go_wp2
    go_ret
    exact ⟨rfl, rfl⟩
  | true =>
    rw [hw] at c hn
    have h3 : ¬ (n : Int) = 3 := by simp at hn; omega
    have hb : ((n : Int) == 3) = false := beq_eq_false_iff_ne.2 h3
    have hb2 : ((n : Int) != 3) = true := by simpa using h3
    clear hn hw
    go_enter Try.func50, Try.ntmps50
    go_wp2
    go_ret
    exact ⟨rfl, rfl⟩
set_option maxHeartbeats 4000000 in
theorem rAnswer_yes (h : RvmAt w y x) (b off cap : Nat) (l : Nat → Int) (hw : x.wt = true) (hl : ∀ j, j < 3 → w.cell? ⟨b, off + j, none⟩ = some (.int .i64 (l j))) (hbv : b ≠ y) : Calls Try.prog 50 #[ptr y, .slice (some ⟨b, off, none⟩) 3 cap] w fun e w' => e = .returned (.int .i64 0) ∧ RvmAt w' y (ansV x l) ∧ Fr [y] w w' := by
  have c := h.waits
  rw [hw] at c
  have Hh := Lib.hid h
  have Hl := Lib.hid hl
  have hvl := h.lt
  have HLow := Lib.hid rLow_any
  clear h hl hw
  go_enter Try.func50, Try.ntmps50
  go_wp2_with fail
  go_loopg [5] 3 (fun gg i wr => ∃ j : Nat, j + gg = 3 ∧ i = .int .i64 (j : Int) ∧ RvmAt wr y (ansP x l j) ∧ Fr [y] w wr)
  case atStart => exact ⟨0, by omega, rfl, Hh.out, Fr.refl _ _⟩
  case round =>
    obtain ⟨j, hj, rfl, hv, hf⟩ := hrel
    have Hj := Lib.hid hj
    have Hv := Lib.hid hv
    have Hf := Lib.hid hf
    by_cases hlt : j < 3
    · have hlt' : (j : Int) < 3 := by omega
      have hj0 : (0 : Int) ≤ (j : Int) := by omega
      have hj16 : (j : Int) < 16 := by omega
      have hwk : IntKind.i64.wrap ((j : Int) + 1) = (j : Int) + 1 := IntWalk.i64_in _ (by omega)
      have k0 := hf.cell_some (Hl.out j hlt) (by simpa using hbv)
      have k1 := hv.reg (k := j) (by omega)
      have kf := hv.frozen
      have HN := Lib.hid (fun W (hh : RvmAt W y (ansP x l j)) => hh.setR (k := j) (by omega) (n := l j % 4294967296) (by unfold u32b; omega))
      clear hj hv hf
      go_wp2_with fail
      go_region_law (first | (go_simp; go_at_call 28; refine (HLow.out _ _).mono ?_; unfold low; rintro e w3 ⟨rfl, rfl⟩) | fail)
      go_wp2_with fail
      go_roundg (3 - (j + 1))
      case measure => have := Hj.out; omega
      case rel => exact ⟨j + 1, by have := Hj.out; omega, by go_num, HN.out _ (Hv.out.fr ((Fr.refl [] wr).drew) (by simp)), (Hf.out.drew).setCell (p := ⟨y, j, none⟩) (.inl (by simp)) _⟩
    · have hlt' : ¬ (j : Int) < 3 := by omega
      obtain rfl : j = 3 := by omega
      have k1 := hv.waits
      have kf := hv.frozen
      have HN := Lib.hid (hv.setW false)
      have HG := Lib.hid (hf.setCell (p := ⟨y, 17, none⟩) (.inl (by simp)) (.bool false))
      clear hj hv hf
      go_wp2_with fail
      go_ret
      exact ⟨rfl, HN.out, HG.out⟩
end
set_option maxHeartbeats 4000000 in
theorem tells_any {w : World} {v y : Nat} {x : Vm} (h : VmAt w v x) (hr : RvmAt w y x) : Calls Try.prog 45 #[ptr v, ptr y] w fun e w' => e = .returned (.bool true) ∧ Fr [] w w' := by
  have HR := Lib.hid (fun W (hf : Fr [] w W) (k : Nat) (hk : k < 16) => vReg_in (h.fr hf (by simp)) k hk)
  have HC := Lib.hid (fun W (hf : Fr [] w W) (k : Nat) (hk : k < 16) => (hr.fr hf (by simp)).reg hk)
  have HP := Lib.hid (fun W (hf : Fr [] w W) => vPlace_any (h.fr hf (by simp)))
  have HWt := Lib.hid (fun W (hf : Fr [] w W) => vWaits_any (h.fr hf (by simp)))
  have HO := Lib.hid (fun W => (show Calls Try.prog 36 #[ptr v, .int .i64 (-1)] W fun e w' => e = .returned (.int .i64 0) ∧ W = w' from vReg_out (-1) (.inl (by decide))))
  have HE := Lib.hid (fun W (hf : Fr [] w W) => (show W.cell? ⟨y, 16, none⟩ = some (.int .i64 x.pl) ∧ W.cell? ⟨y, 17, none⟩ = some (.bool x.wt) from ⟨(hr.fr hf (by simp)).place, (hr.fr hf (by simp)).waits⟩)
  )
  clear h hr
  generalize x.pl = pl at *
  generalize x.wt = bw at *
  · go_enter Try.func45, Try.ntmps45
    go_wp2_with fail
    go_loopg [5] 16 (fun gg vi wr => ∃ k : Nat, k + gg = 16 ∧ vi = .int .i64 (k : Int) ∧ Fr [] w wr)
    case atStart => exact ⟨0, by omega, rfl, Fr.refl _ _⟩
    case round =>
      obtain ⟨k, hk, rfl, hf⟩ := hrel
      have Hk := Lib.hid hk
      have Hf := Lib.hid hf
      by_cases hlt : k < 16
      · have hlt1 : (k : Int) < 16 := by omega
        have hk0 : (0 : Int) ≤ (k : Int) := by omega
        have hwk : IntKind.i64.wrap ((k : Int) + 1) = (k : Int) + 1 := IntWalk.i64_in _ (by omega)
        have k1 := HC.out wr hf k hlt
        have HRk := Lib.hid (HR.out _ hf.drew k hlt)
        generalize x.r k = xk at *
        clear hk hf
        go_wp2_with fail
        go_region_held3 (fun W => W.cell? ⟨y, k, none⟩ = some (.int .i64 xk)) (exact k1) (first
          | (go_at_call 36; refine HRk.out.mono ?_; rintro e w3 ⟨rfl, rfl⟩))
        go_wp2_with fail
        go_roundg (16 - (k + 1))
        case measure => have := Hk.out; omega
        case rel => exact ⟨k + 1, by have := Hk.out; omega, by go_num, Hf.out.drew⟩
      · have hlt1 : ¬ (k : Int) < 16 := by omega
        obtain ⟨k1, k2⟩ := HE.out wr hf
        have HPk := Lib.hid (HP.out _ hf.drew)
        have HWk := Lib.hid (HWt.out _ hf.drew)
        clear hk hf hlt
        go_wp2_with fail
        go_region_held3 (fun W => W.cell? ⟨y, 16, none⟩ = some (.int .i64 pl) ∧ W.cell? ⟨y, 17, none⟩ = some (.bool bw)) (exact ⟨k1, k2⟩) (first
          | (go_at_call 38; refine HPk.out.mono ?_; rintro e w3 ⟨rfl, rfl⟩)
          | (go_at_call 35; refine HWk.out.mono ?_; rintro e w3 ⟨rfl, rfl⟩)
          | (go_at_call 36; refine (HO.out _).mono ?_; rintro e w3 ⟨rfl, rfl⟩))
        go_wp2_with fail
        go_ret
        exact ⟨rfl, Hf.out.drew⟩
set_option maxHeartbeats 4000000 in
theorem same_any {w : World} {p F q G : Nat} {st : St} (h : MemAt w p F st) (hr : RMem w q G st) : Calls Try.prog 46 #[ptr p, ptr q, .int .i64 (st.n : Int)] w fun e w' => e = .returned (.bool true) ∧ w = w' := by
  have H1 := Lib.hid (fun (k : Nat) (hk : k < st.n) => Frame_ok p F st w k h hk)
  have H2 := Lib.hid (fun (k : Nat) (hk : k < st.n) => rFrame_ok q G st w k hr hk)
  have hn : st.n ≤ 160 := h.hd.n2
  clear h hr
  generalize hN : st.n = N at *
  go_enter Try.func46, Try.ntmps46
  go_wp2_with fail
  go_loopg [7] N (fun gg vi wr => ∃ k : Nat, k + gg = N ∧ vi = .int .i64 (k : Int) ∧ w = wr)
  case atStart => exact ⟨0, by omega, rfl, rfl⟩
  case round =>
    obtain ⟨k, hk, rfl, rfl⟩ := hrel
    have Hk := Lib.hid hk
    by_cases hlt : k < N
    · have hlt1 : (k : Int) < (N : Int) := by omega
      have hk0 : (0 : Int) ≤ (k : Int) := by omega
      have hwk : IntKind.i64.wrap ((k : Int) + 1) = (k : Int) + 1 := IntWalk.i64_in _ (by omega)
      have HF1 := Lib.hid (H1.out k hlt)
      have HF2 := Lib.hid (H2.out k hlt)
      generalize frS st k = V at *
      clear hk
      go_wp2_with (first
        | (go_at_call 48; refine HF1.out.mono ?_; rintro e w3 ⟨rfl, rfl⟩)
        | (go_at_call 71; refine HF2.out.mono ?_; rintro e w3 ⟨rfl, rfl⟩)
        | fail)
      go_roundg (N - (k + 1))
      case measure => have := Hk.out; omega
      case rel => exact ⟨k + 1, by have := Hk.out; omega, by go_num, rfl⟩
    · have hlt1 : ¬ (k : Int) < (N : Int) := by omega
      clear hk
      go_wp2_with fail
      go_ret
      exact ⟨rfl, rfl⟩
end Go.Proofs.Ytonongaakieciaa
namespace Go.Proofs.Ytonongaakieciaa
open Go.RowKit
set_option linter.unusedVariables false
set_option linter.unusedSimpArgs false
set_option maxRecDepth 100000
/-- Both, made since w. -/
structure Pr (w W : World) (v p F y q G b mm cap : Nat) (A : Option Addr) (t : List Pg) (x : Vm) (st : St) (x' : Vm) (st' : St) : Prop where
  vm : VmAt W v x
  mem : MemAt W p F st
  rv : RvmAt W y x'
  rm : RMem W q G st'
  tb : Tb W b (.slice A mm cap) t
  lt : b < W.heap.size
  nb : b ≠ v ∧ b ≠ F ∧ b ≠ y ∧ b ≠ G
  fr : Fr [] w W
  g : w.heap.size ≤ v ∧ w.heap.size ≤ F ∧ w.heap.size ≤ y ∧ w.heap.size ≤ G
section
variable {w W W' : World} {v p F y q G b mm cap : Nat} {A : Option Addr} {t : List Pg} {x x' : Vm} {st st' : St}
theorem Pr.to (h : Pr w W v p F y q G b mm cap A t x st x' st') (hf : Fr [] W W') : Pr w W' v p F y q G b mm cap A t x st x' st' :=
  ⟨h.vm.fr hf (by simp), h.mem.to hf (by simp) (by simp), h.rv.fr hf (by simp), h.rm.to hf (by simp) (by simp), h.tb.fr hf (by simp), Nat.lt_of_lt_of_le h.lt hf.size, h.nb, h.fr.trans hf, h.g⟩
theorem Pr.ne (h : Pr w W v p F y q G b mm cap A t x st x' st') : (v ≠ y ∧ v ≠ q ∧ v ≠ G) ∧ (p ≠ y ∧ p ≠ G) ∧ (F ≠ y ∧ F ≠ q ∧ F ≠ G) ∧ (p ≠ v ∧ F ≠ v) ∧ (q ≠ y ∧ G ≠ y) := by
  obtain ⟨⟨⟨c1, h1, -⟩, -, -⟩, ⟨c2, h2, -⟩⟩ := h.mem
  obtain ⟨⟨⟨c3, h3, -⟩, -⟩, c4, h4, -⟩ := h.rm
  have hv := h.vm.hb
  have hy := h.rv.hb
  exact ⟨⟨Blk.ne_ hv hy (by decide), Blk.ne_ hv h3 (by decide), Blk.ne_ hv h4 (by decide)⟩, ⟨Blk.ne_ h1 hy (by decide), Blk.ne_ h1 h4 (by decide)⟩, ⟨Blk.ne_ h2 hy (by decide), Blk.ne_ h2 h3 (by decide), Blk.ne_ h2 h4 (by decide)⟩, ⟨Blk.ne_ h1 hv (by decide), Blk.ne_ h2 hv (by decide)⟩, ⟨Blk.ne_ h3 hy (by decide), Blk.ne_ h4 hy (by decide)⟩⟩
theorem Pr.turnP (h : Pr w W v p F y q G b mm cap A t x st x' st') {S : List Nat} (hS : ∀ k, k ∈ S → k = v ∨ k = F) (hf : Fr S W W') {X : Vm} {T : St} (hv : VmAt W' v X) (hm : MemAt W' p F T) : Pr w W' v p F y q G b mm cap A t X T x' st' := by
  obtain ⟨⟨a1, a2, a3⟩, ⟨b1, b2⟩, ⟨c1, c2, c3⟩, ⟨d1, d2⟩, e1, e2⟩ := h.ne
  obtain ⟨n1, n2, n3, n4⟩ := h.nb
  refine ⟨hv, hm, h.rv.fr hf (fun hk => ?_), h.rm.to hf (fun hk => ?_) (fun hk => ?_), h.tb.fr hf (fun hk => ?_), Nat.lt_of_lt_of_le h.lt hf.size, h.nb, h.fr.step hf (fun k hk => ?_), h.g⟩
  · rcases hS _ hk with e | e; exact a1 e.symm; exact c1 e.symm
  · rcases hS _ hk with e | e; exact a2 e.symm; exact c2 e.symm
  · rcases hS _ hk with e | e; exact a3 e.symm; exact c3 e.symm
  · rcases hS _ hk with e | e; exact n1 e; exact n2 e
  · rcases hS _ hk with rfl | rfl; exact .inr h.g.1; exact .inr h.g.2.1
theorem Pr.turnR (h : Pr w W v p F y q G b mm cap A t x st x' st') {S : List Nat} (hS : ∀ k, k ∈ S → k = y ∨ k = G) (hf : Fr S W W') {X : Vm} {T : St} (hv : RvmAt W' y X) (hm : RMem W' q G T) : Pr w W' v p F y q G b mm cap A t x st X T := by
  obtain ⟨⟨a1, a2, a3⟩, ⟨b1, b2⟩, ⟨c1, c2, c3⟩, ⟨d1, d2⟩, e1, e2⟩ := h.ne
  obtain ⟨n1, n2, n3, n4⟩ := h.nb
  refine ⟨h.vm.fr hf (fun hk => ?_), h.mem.to hf (fun hk => ?_) (fun hk => ?_), hv, hm, h.tb.fr hf (fun hk => ?_), Nat.lt_of_lt_of_le h.lt hf.size, h.nb, h.fr.step hf (fun k hk => ?_), h.g⟩
  · rcases hS _ hk with e | e; exact a1 e; exact a3 e
  · rcases hS _ hk with e | e; exact b1 e; exact b2 e
  · rcases hS _ hk with e | e; exact c1 e; exact c3 e
  · rcases hS _ hk with e | e; exact n3 e; exact n4 e
  · rcases hS _ hk with rfl | rfl; exact .inr h.g.2.2.1; exact .inr h.g.2.2.2
theorem Pr.stepP (h : Pr w W v p F y q G b mm cap A t x st x' st') {E : Int × Int} {X : Vm} {S : St} (hs : stepV x st t = (E, X, S)) : Calls Try.prog 34 #[ptr v, ptr p, .slice A mm cap] W fun e w' => e = .returned (.agg #[.int .i64 E.1, .int .i64 E.2]) ∧ Pr w w' v p F y q G b mm cap A t X S x' st' ∧ Fr [v, F] W w' := by
  refine (Step_any v p F b mm cap x st A t W h.vm h.mem h.tb h.lt).mono ?_
  rw [hs]
  rintro e w' ⟨he, hv, hm, hf⟩
  exact ⟨he, h.turnP (fun k hk => by simpa using hk) hf hv hm, hf⟩
theorem Pr.stepR (h : Pr w W v p F y q G b mm cap A t x st x' st') {E : Int × Int} {X : Vm} {S : St} (hs : stepV x' st' t = (E, X, S)) : Calls Try.prog 44 #[ptr y, ptr q, .slice A mm cap] W fun e w' => e = .returned (.agg #[.int .i64 E.1, .int .i64 E.2]) ∧ Pr w w' v p F y q G b mm cap A t x st X S ∧ Fr [y, G] W w' := by
  refine (rStep_any y q G b mm cap x' st' A t W ⟨h.rv, h.rm, h.tb, h.nb.2.2.2⟩).mono ?_
  rw [hs]
  rintro e w' ⟨he, hv, hm, hf⟩
  exact ⟨he, h.turnR (fun k hk => by simpa using hk) hf hv hm, hf⟩
theorem Pr.tells (h : Pr w W v p F y q G b mm cap A t x st x st') : Calls Try.prog 45 #[ptr v, ptr y] W fun e w' => e = .returned (.bool true) ∧ Pr w w' v p F y q G b mm cap A t x st x st' ∧ Fr [] W w' :=
  (tells_any h.vm h.rv).mono fun e w' ⟨he, hf⟩ => ⟨he, h.to hf, hf⟩
theorem Pr.same (h : Pr w W v p F y q G b mm cap A t x st x' st) : Calls Try.prog 46 #[ptr p, ptr q, .int .i64 (st.n : Int)] W fun e w' => e = .returned (.bool true) ∧ W = w' := same_any h.mem h.rm
theorem Pr.ev (h : Pr w W v p F y q G b mm cap A t x st x' st') {g : Nat} {cs : Array Value} (hb : Blk W g 65 cs) : g ≠ v ∧ g ≠ F ∧ g ≠ y ∧ g ≠ G ∧ g ≠ p ∧ g ≠ q := by
  obtain ⟨m1, m2⟩ := h.mem.ne_ev hb (by decide) (by decide)
  obtain ⟨m3, m4⟩ := h.rm.ne_ev hb (by decide) (by decide)
  exact ⟨(Blk.ne_ h.vm.hb hb (by decide)).symm, m2.symm, h.rv.ne_ hb (by decide), m4.symm, m1.symm, m3.symm⟩
/-- An answer to both: the same, whatever it is. -/
theorem Pr.ansP (h : Pr w W v p F y q G b mm cap A t x st x' st') (L : Option Addr) (n c : Nat) (l : Nat → Int) (hl : NumS W L n l) (hL : ∀ g o, L = some ⟨g, o, none⟩ → 0 < n → g ≠ v) : Calls Try.prog 33 #[ptr v, .slice L n c] W fun e w' => e = .returned (.int .i64 (if x.wt = true ∧ n = 3 then 0 else 100)) ∧ Pr w w' v p F y q G b mm cap A t (if x.wt = true ∧ n = 3 then ansV x l else x) st x' st' ∧ Fr [v] W w' := by
  by_cases hh : x.wt = true ∧ n = 3
  · obtain ⟨hw, rfl⟩ := hh
    obtain ⟨-, b0, o0, rfl, -⟩ := hl.2 0 (by decide)
    obtain ⟨-, -, -, ⟨d1, d2⟩, -⟩ := h.ne
    rw [if_pos ⟨hw, rfl⟩, if_pos ⟨hw, rfl⟩]
    refine (vAnswer_yes h.vm b0 o0 c l hw (fun j hj => ?_) (hL b0 o0 rfl (by decide))).mono fun e w' ⟨he, hv, hf⟩ => ⟨he, h.turnP (fun k hk => by simp at hk; exact .inl hk) hf hv (h.mem.to hf (by simpa using d1) (by simpa using d2)), hf⟩
    obtain ⟨-, b', o', e', hc⟩ := hl.2 j hj
    injection e' with e'
    injection e' with e1 e2
    subst e1 e2
    exact hc
  · rw [if_neg hh, if_neg hh]
    refine (vAnswer_no h.vm L n c ?_).mono fun e w' ⟨he, hw⟩ => by subst hw; exact ⟨he, h, Fr.refl _ _⟩
    cases hw : x.wt with
    | false => exact .inl rfl
    | true => exact .inr (fun e => hh ⟨hw, e⟩)
theorem Pr.ansR (h : Pr w W v p F y q G b mm cap A t x st x' st') (L : Option Addr) (n c : Nat) (l : Nat → Int) (hl : NumS W L n l) (hL : ∀ g o, L = some ⟨g, o, none⟩ → 0 < n → g ≠ y) : Calls Try.prog 50 #[ptr y, .slice L n c] W fun e w' => e = .returned (.int .i64 (if x'.wt = true ∧ n = 3 then 0 else 100)) ∧ Pr w w' v p F y q G b mm cap A t x st (if x'.wt = true ∧ n = 3 then ansV x' l else x') st' ∧ Fr [y] W w' := by
  by_cases hh : x'.wt = true ∧ n = 3
  · obtain ⟨hw, rfl⟩ := hh
    obtain ⟨-, b0, o0, rfl, -⟩ := hl.2 0 (by decide)
    obtain ⟨-, -, -, -, d1, d2⟩ := h.ne
    rw [if_pos ⟨hw, rfl⟩, if_pos ⟨hw, rfl⟩]
    refine (rAnswer_yes h.rv b0 o0 c l hw (fun j hj => ?_) (hL b0 o0 rfl (by decide))).mono fun e w' ⟨he, hv, hf⟩ => ⟨he, h.turnR (fun k hk => by simp at hk; exact .inl hk) hf hv (h.rm.to hf (by simpa using d1) (by simpa using d2)), hf⟩
    obtain ⟨-, b', o', e', hc⟩ := hl.2 j hj
    injection e' with e'
    injection e' with e1 e2
    subst e1 e2
    exact hc
  · rw [if_neg hh, if_neg hh]
    refine (rAnswer_no h.rv L n c ?_).mono fun e w' ⟨he, hw⟩ => by subst hw; exact ⟨he, h, Fr.refl _ _⟩
    cases hw : x'.wt with
    | false => exact .inl rfl
    | true => exact .inr (fun e => hh ⟨hw, e⟩)
/-- A clone of the program's machine takes its place. -/
theorem Pr.clone (h : Pr w W v p F y q G b mm cap A t x st x' st') : Calls Try.prog 49 #[ptr v] W fun e w' => e = .returned (ptr W.heap.size) ∧ Pr w w' W.heap.size p F y q G b mm cap A t x st x' st' ∧ Fr [] W w' :=
  (vClone_any h.vm).mono fun e w' ⟨he, hv, hf⟩ => ⟨he, ⟨hv, h.mem.to hf (by simp) (by simp), h.rv.fr hf (by simp), h.rm.to hf (by simp) (by simp), h.tb.fr hf (by simp), Nat.lt_of_lt_of_le h.lt hf.size, ⟨Nat.ne_of_lt h.lt, h.nb.2⟩, h.fr.trans hf, ⟨h.fr.size, h.g.2⟩⟩, hf⟩
end
/-- Both, without a table. -/
structure Pm (w W : World) (v p F y q G : Nat) (x : Vm) (st : St) (x' : Vm) (st' : St) : Prop where
  vm : VmAt W v x
  mem : MemAt W p F st
  rv : RvmAt W y x'
  rm : RMem W q G st'
  fr : Fr [] w W
  g : w.heap.size ≤ v ∧ w.heap.size ≤ F ∧ w.heap.size ≤ y ∧ w.heap.size ≤ G
section
variable {w W W' : World} {v p F y q G : Nat} {x x' : Vm} {st st' : St}
theorem Pm.to (h : Pm w W v p F y q G x st x' st') (hf : Fr [] W W') : Pm w W' v p F y q G x st x' st' :=
  ⟨h.vm.fr hf (by simp), h.mem.to hf (by simp) (by simp), h.rv.fr hf (by simp), h.rm.to hf (by simp) (by simp), h.fr.trans hf, h.g⟩
theorem Pm.layP (h : Pm w W v p F y q G x st x' st') (f : Int) (s : ByteArray) (hs : s.size ≤ maxLen) : Calls Try.prog 31 #[ptr p, .int .i64 f, .int .i64 0, .string s] W fun e w' => e = .returned (.int .i64 (layE st.n f 0 s)) ∧ Pm w w' v p F y q G x (layS st f 0 s) x' st' ∧ Fr [F] W w' := by
  obtain ⟨⟨⟨c1, h1, -⟩, -, -⟩, ⟨c2, h2, -⟩⟩ := h.mem
  obtain ⟨⟨⟨c3, h3, -⟩, -⟩, c4, h4, -⟩ := h.rm
  have n1 := Blk.ne_ h2 h.vm.hb (by decide)
  have n2 := Blk.ne_ h2 h.rv.hb (by decide)
  have n3 := Blk.ne_ h2 h3 (by decide)
  have n4 := Blk.ne_ h2 h4 (by decide)
  exact (Lay_law p F st W f s h.mem hs).mono fun e w' ⟨he, hm, hf⟩ => ⟨he, ⟨h.vm.fr hf (by simpa using n1.symm), hm, h.rv.fr hf (by simpa using n2.symm), h.rm.to hf (by simpa using n3.symm) (by simpa using n4.symm), h.fr.step hf (fun k hk => by simp at hk; subst hk; exact .inr h.g.2.1), h.g⟩, hf⟩
theorem Pm.layR (h : Pm w W v p F y q G x st x' st') (f : Int) (s : ByteArray) (hs : s.size ≤ maxLen) : Calls Try.prog 43 #[ptr q, .int .i64 f, .int .i64 0, .string s] W fun e w' => e = .returned (.int .i64 (layE st'.n f 0 s)) ∧ Pm w w' v p F y q G x st x' (layS st' f 0 s) := by
  obtain ⟨⟨⟨c1, h1, -⟩, -, -⟩, ⟨c2, h2, -⟩⟩ := h.mem
  obtain ⟨⟨⟨c3, h3, -⟩, -⟩, c4, h4, -⟩ := h.rm
  have n1 := Blk.ne_ h4 h.vm.hb (by decide)
  have n2 := Blk.ne_ h4 h.rv.hb (by decide)
  have n3 := Blk.ne_ h4 h1 (by decide)
  have n4 := Blk.ne_ h4 h2 (by decide)
  exact (rLay_law q G st' W f s h.rm hs).mono fun e w' ⟨he, hm, hf⟩ => ⟨he, h.vm.fr hf (by simpa using n1.symm), h.mem.to hf (by simpa using n3.symm) (by simpa using n4.symm), h.rv.fr hf (by simpa using n2.symm), hm, h.fr.step hf (fun k hk => by simp at hk; subst hk; exact .inr h.g.2.2.2), h.g⟩
/-- A table of two pages, just made. -/
theorem Pm.two (h : Pm w W v p F y q G x st x' st') {g : Nat} {f0 r0 f1 r1 : Int} (hb : Blk W g 61 #[.int .i64 f0, .int .i64 r0, .int .i64 f1, .int .i64 r1]) : Pr w W v p F y q G g 2 2 (some ⟨g, 0, none⟩) [⟨f0, r0⟩, ⟨f1, r1⟩] x st x' st' :=
  ⟨h.vm, h.mem, h.rv, h.rm, ⟨by simp [maxLen], some ⟨g, 0, none⟩, 2, rfl, fun i q hi => by
    match i, hi with
    | 0, hi => cases hi; exact ⟨0, rfl, hb.lt, hb.cell 0, hb.cell 1⟩
    | 1, hi => cases hi; exact ⟨0, rfl, hb.lt, hb.cell 2, hb.cell 3⟩
    | n + 2, hi => simp at hi⟩, hb.lt, ⟨(Blk.ne_ h.vm.hb hb (by decide)).symm, (h.mem.ne_ev hb (by decide) (by decide)).2.symm, h.rv.ne_ hb (by decide), (h.rm.ne_ev hb (by decide) (by decide)).2.symm⟩, h.fr, h.g⟩
/-- A table that was there at the start. -/
theorem Pm.tab {w0 : World} {b mm cap : Nat} {A : Option Addr} {t : List Pg} (h : Pm w W v p F y q G x st x' st') (ht : Tb w0 b (.slice A mm cap) t) (hb : b < w0.heap.size ∨ b = 0) (hf0 : Fr [] w0 w) (hz : 0 < w.heap.size) : Pr w W v p F y q G b mm cap A t x st x' st' := by
  have h0 := hf0.size
  have h1 := h.fr.size
  have hg := h.g
  exact ⟨h.vm, h.mem, h.rv, h.rm, (ht.fr hf0 (by simp)).fr h.fr (by simp), by omega, by omega, h.fr, h.g⟩
end
theorem rvm_new (w : World) : RvmAt (w.alloc (.cells (rcells vm0) 86)) w.heap.size vm0 := ⟨Blk.new w 86 _, fun k => (show (0 : Int) ≤ 0 ∧ (0 : Int) < 4294967296 from by decide), (show (0 : Int) ≤ 0 ∧ (0 : Int) < 4294967296 from by decide)⟩
end Go.Proofs.Ytonongaakieciaa
