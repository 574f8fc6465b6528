/- runsFixed, walked; rest. TopRuns: the two spaces' tables, and whether the program fits (no program in sight). TopRuns, walked. -/
import Derived.Test.YtbmaecdlkchkeaaGreatDoorT2
import Derived.Test.YtbmaecdlkchkeaaGreatDoorTP
import Derived.Test.YtbmaecdlkchkeaaGreatDoorI21
import Derived.Test.YtbmaecdlkchkeaaGreatDoorI22
import Derived.Deep.LoopGhost
import Derived.Deep.RegionHeld3
import Derived.Deep.QuietTactic
namespace Go.Proofs.YtbmaecdlkchkeaaGreatDoor
open Go.RowKit
set_option linter.unusedVariables false
set_option linter.unusedSimpArgs false
set_option maxRecDepth 100000
def pR : ByteArray := ⟨#[2, 16, 0, 7, 1, 0, 0, 0]⟩
def tR : List Pg := [⟨0, 1⟩]
def uR : List Pg := [⟨0, 5⟩]
def xR0 : Sp := spNew tR
def xR : Sp := ldS xR0 0 pR
theorem r0 : ptsE tR = 0 := by kernel_rfl
theorem r1 : ldE xR0 0 pR = 0 := by kernel_rfl
def q1 := stepV vm0 xR.st uR
def q2 := stepV q1.2.1 q1.2.2 uR
theorem q1_1 : q1.1 = (0, 0) := by kernel_rfl
theorem q2_1 : q2.1 = (1, 0) := by kernel_rfl
theorem q2_r : q2.2.1.r 1 = 7 := by kernel_rfl
def rx (k : Nat) : Sp := match k with | 0 => xR0 | 1 => xR | 2 => ⟨q1.2.2, xR.tb⟩ | _ => ⟨q2.2.2, xR.tb⟩
def ry (k : Nat) : Vm := match k with | 0 => vm0 | 1 => vm0 | 2 => q1.2.1 | _ => q2.2.1
theorem r2 (st : St) : hasP ⟨st, xR.tb⟩ 0 = true ∧ tbOf ⟨st, xR.tb⟩ 0 = uR := by
  have e : xR.tb = [uR] := by kernel_rfl
  rw [e]
  exact ⟨rfl, rfl⟩
theorem r3 (k : Nat) (hk : 1 ≤ k) : hasP (rx k) 0 = true ∧ tbOf (rx k) 0 = uR := by
  match k, hk with
  | 1, _ => exact r2 xR.st
  | 2, _ => exact r2 _
  | k + 3, _ => exact r2 _
/-- The fixed run, at its stage k. -/
structure Rs (w0 W : World) (s p F g v k : Nat) : Prop where
  m : Sm w0 W s p F g v (rx k) (ry k)
section
variable {w0 W W' : World} {s p F g v k : Nat}
theorem Rs.to (h : Rs w0 W s p F g v k) (hf : Fr [] W W') : Rs w0 W' s p F g v k := ⟨h.m.to hf⟩
theorem Rs.fr (h : Rs w0 W s p F g v k) : Fr [] w0 W := h.m.d.fr
theorem Rs.load (h : Rs w0 W s p F g v 0) : Calls Tryz.prog 8 #[ptr s, .int .i64 0, .string pR] W fun e w' => e = .returned (.int .i64 0) ∧ Rs w0 w' s p F g v 1 := by
  have hh := SLoad_any s p F g xR0 0 pR W h.m.d.at_ h.m.d.ok.n1
  rw [r1] at hh
  exact hh.mono fun e w' ⟨he, ht⟩ => ⟨he, ⟨h.m.turn ht (h.m.d.ok.ld 0 pR)⟩⟩
theorem Rs.mem (h : Rs w0 W s p F g v k) : Calls Tryz.prog 12 #[ptr s] W fun e w' => e = .returned (ptr p) ∧ Rs w0 w' s p F g v k :=
  (Memory_any s p F g (rx k) W h.m.d.at_).mono fun e w' ⟨he, hf⟩ => ⟨he, hf ▸ h⟩
theorem Rs.table (h : Rs w0 W s p F g v k) (hk : 1 ≤ k) : Calls Tryz.prog 13 #[ptr s, .int .i64 0] W fun e w' => ∃ b, e = .returned (.slice (some ⟨b, 0, none⟩) 1 1) ∧ PB w' b uR ∧ Rs w0 w' s p F g v k := by
  obtain ⟨h1, h2⟩ := r3 k hk
  have hh := Table_any s p F g (rx k) 0 W h.m.d.at_ h.m.d.ok.n1
  unfold TableP at hh
  rw [h2] at hh
  exact hh.mono fun e w' hT => by
    rcases hT with ⟨h0, -⟩ | ⟨-, b, he, hB, hf, hb⟩
    · exact absurd (h0.symm.trans h1) (by decide)
    · exact ⟨b, he, hB, h.to hf⟩
theorem Rs.step1 (h : Rs w0 W s p F g v 1) {b : Nat} (hB : PB W b uR) : Calls Tryz.prog 11 #[ptr v, ptr p, .slice (some ⟨b, 0, none⟩) 1 1] W fun e w' => e = .returned (.agg #[.int .i64 0, .int .i64 0]) ∧ Rs w0 w' s p F g v 2 := by
  have hh := h.m.stepX (r3 1 (by decide)).1 (r3 1 (by decide)).2 hB
  have e1 : stepV (ry 1) (rx 1).st uR = q1 := rfl
  rw [e1, q1_1] at hh
  exact hh.mono fun e w' ⟨he, hm, hf⟩ => ⟨he, ⟨hm⟩⟩
theorem Rs.step2 (h : Rs w0 W s p F g v 2) {b : Nat} (hB : PB W b uR) : Calls Tryz.prog 11 #[ptr v, ptr p, .slice (some ⟨b, 0, none⟩) 1 1] W fun e w' => e = .returned (.agg #[.int .i64 1, .int .i64 0]) ∧ Rs w0 w' s p F g v 3 := by
  have hh := h.m.stepX (r3 2 (by decide)).1 (r3 2 (by decide)).2 hB
  have e1 : stepV (ry 2) (rx 2).st uR = q2 := rfl
  rw [e1, q2_1] at hh
  exact hh.mono fun e w' ⟨he, hm, hf⟩ => ⟨he, ⟨hm⟩⟩
theorem Rs.reg (h : Rs w0 W s p F g v 3) : Calls Tryz.prog 16 #[ptr v, .int .i64 1] W fun e w' => e = .returned (.int .i64 7) ∧ W = w' := by
  have hh := vReg_in h.m.vm 1 (by decide)
  have e1 : (ry 3).r 1 = 7 := q2_r
  rw [e1] at hh
  exact hh
end
theorem Sd.run {w0 w : World} {s p F g : Nat} (h : Sd w0 w s p F g xR0) : Calls Tryz.prog 10 #[] w fun e w' => ∃ v, e = .returned (ptr v) ∧ Rs w0 w' s p F g v 0 :=
  (h.machine).mono fun e w' ⟨v, he, hm⟩ => ⟨v, he, ⟨hm⟩⟩
theorem part_1 (w : World) (k : Int) : Tb (w.alloc (.cells #[.int .i64 0, .int .i64 k] 31)) w.heap.size (.slice (some ⟨w.heap.size, 0, none⟩) 1 1) [⟨0, k⟩] := by
  have hb := Blk.new w 31 #[.int .i64 0, .int .i64 k]
  refine ⟨by show 1 ≤ maxLen; unfold maxLen; decide, _, 1, rfl, fun i p hi => ?_⟩
  refine ⟨0, rfl, by simp, ?_⟩
  rw [hb.cell, hb.cell]
  match i, hi with
  | 0, hi => cases hi; exact ⟨rfl, rfl⟩
  | i + 1, hi => cases hi
theorem part_2 (w : World) (k : Int) : Tb (w.alloc (.cells #[.int .i64 0, .int .i64 3, .int .i64 0, .int .i64 k] 31)) w.heap.size (.slice (some ⟨w.heap.size, 0, none⟩) 2 2) [⟨0, 3⟩, ⟨0, k⟩] := by
  have hb := Blk.new w 31 #[.int .i64 0, .int .i64 3, .int .i64 0, .int .i64 k]
  refine ⟨by show 2 ≤ maxLen; unfold maxLen; decide, _, 2, rfl, fun i p hi => ?_⟩
  refine ⟨0, rfl, by simp, ?_⟩
  rw [hb.cell, hb.cell]
  match i, hi with
  | 0, hi => cases hi; exact ⟨rfl, rfl⟩
  | 1, hi => cases hi; exact ⟨rfl, rfl⟩
  | i + 2, hi => cases hi
set_option maxHeartbeats 4000000 in
theorem runs_any (w : World) (hw : Std w) : Calls Tryz.prog 5 #[] w fun e w' => e = .returned (.bool true) ∧ Fr [] w w' := by
  have HS := Lib.hid hw
  have HA : Hid (∀ W, Std W → Calls Tryz.prog 4 #[.string ⟨#[115, 101, 116, 32, 114, 49, 32, 55, 10, 115, 116, 111, 112, 10]⟩] W fun e w' => e = .returned (.tuple #[.string pR, .int .i64 0, .int .i64 0]) ∧ Fr [] W w') := Lib.hid (fun W hW => by
    have h := Assemble_any ⟨#[115, 101, 116, 32, 114, 49, 32, 55, 10, 115, 116, 111, 112, 10]⟩ W hW
    have e : (⟨#[115, 101, 116, 32, 114, 49, 32, 55, 10, 115, 116, 111, 112, 10]⟩ : ByteArray).data.toList = runT := rfl
    rw [e, fx_run] at h
    exact h)
  have HN : Hid (∀ W, Fr [] w W → Calls Tryz.prog 7 #[.slice (some ⟨W.heap.size, 0, none⟩) 1 1] (W.alloc (.cells #[.int .i64 0, .int .i64 1] 31)) fun e w' => ∃ s p F g, e = .returned (.tuple #[ptr s, .int .i64 0]) ∧ Sd w w' s p F g xR0) := Lib.hid (fun W h => (Sd.new W.heap.size 1 1 _ tR w _ (part_1 W 1) r0 (h.alloc _)).mono fun e w' ⟨s, p, F, g, he, hd, _⟩ => ⟨s, p, F, g, he, hd⟩)
  have HV : Hid (∀ s p F g W, Sd w W s p F g xR0 → Calls Tryz.prog 10 #[] W fun e w' => ∃ v, e = .returned (ptr v) ∧ Rs w w' s p F g v 0) := Lib.hid (fun s p F g W h => h.run)
  have HL : Hid (∀ s p F g v W, Rs w W s p F g v 0 → Calls Tryz.prog 8 #[ptr s, .int .i64 0, .string pR] W fun e w' => e = .returned (.int .i64 0) ∧ Rs w w' s p F g v 1) := Lib.hid (fun s p F g v W h => h.load)
  have HM : Hid (∀ s p F g v k W, Rs w W s p F g v k → Calls Tryz.prog 12 #[ptr s] W fun e w' => e = .returned (ptr p) ∧ Rs w w' s p F g v k) := Lib.hid (fun s p F g v k W h => h.mem)
  have HT : Hid (∀ s p F g v k W, 1 ≤ k → Rs w W s p F g v k → Calls Tryz.prog 13 #[ptr s, .int .i64 0] W fun e w' => ∃ b, e = .returned (.slice (some ⟨b, 0, none⟩) 1 1) ∧ PB w' b uR ∧ Rs w w' s p F g v k) := Lib.hid (fun s p F g v k W hk h => h.table hk)
  have H1 : Hid (∀ s p F g v b W, Rs w W s p F g v 1 → PB W b uR → Calls Tryz.prog 11 #[ptr v, ptr p, .slice (some ⟨b, 0, none⟩) 1 1] W fun e w' => e = .returned (.agg #[.int .i64 0, .int .i64 0]) ∧ Rs w w' s p F g v 2) := Lib.hid (fun s p F g v b W h hB => h.step1 hB)
  have H2 : Hid (∀ s p F g v b W, Rs w W s p F g v 2 → PB W b uR → Calls Tryz.prog 11 #[ptr v, ptr p, .slice (some ⟨b, 0, none⟩) 1 1] W fun e w' => e = .returned (.agg #[.int .i64 1, .int .i64 0]) ∧ Rs w w' s p F g v 3) := Lib.hid (fun s p F g v b W h hB => h.step2 hB)
  have HG : Hid (∀ s p F g v W, Rs w W s p F g v 3 → Calls Tryz.prog 16 #[ptr v, .int .i64 1] W fun e w' => e = .returned (.int .i64 7) ∧ W = w') := Lib.hid (fun s p F g v W h => h.reg)
  have hpz : pR.size = 8 := rfl
  generalize pR = P at *
  clear hw
  go_enter Tryz.func5, Tryz.ntmps5
  go_wp2_with (first
    | (go_at_call 4; refine (HA.out _ HS.out).mono ?_; clear HA; rintro e w1 ⟨rfl, hf1⟩; have HN1 := Lib.hid (HN.out w1 hf1); clear HN hf1)
    | (go_at_call 7; refine HN1.out.mono ?_; clear HN1; rintro e w2 ⟨s, p, F, g, rfl, hd⟩)
    | (go_at_call 10; refine (HV.out _ _ _ _ _ hd).mono ?_; clear HV hd; rintro e w3 ⟨v, rfl, hd⟩)
    | (go_at_call 8; refine (HL.out _ _ _ _ _ _ hd).mono ?_; clear HL hd; rintro e w4 ⟨rfl, hd⟩)
    | (go_at_call 12; refine (HM.out _ _ _ _ _ _ _ hd).mono ?_; clear hd; rintro e w5 ⟨rfl, hd⟩)
    | (go_at_call 13; refine (HT.out _ _ _ _ _ _ _ (by decide) hd).mono ?_; clear hd; rintro e w6 ⟨b, rfl, hB, hd⟩)
    | (go_at_call 11; refine (H1.out _ _ _ _ _ _ _ hd hB).mono ?_; clear hd hB H1; rintro e w7 ⟨rfl, hd⟩)
    | (go_at_call 11; refine (H2.out _ _ _ _ _ _ _ hd hB).mono ?_; clear hd hB H2; rintro e w8 ⟨rfl, hd⟩)
    | (go_at_call 16; refine (HG.out _ _ _ _ _ _ ((hd.to ((Fr.refl [] _).alloc _)).to ((Fr.refl [] _).alloc _))).mono ?_; rintro e w9 ⟨rfl, rfl⟩)
    | fail)
  go_ret
  exact ⟨rfl, (hd.fr.alloc _).alloc _⟩
end Go.Proofs.YtbmaecdlkchkeaaGreatDoor
namespace Go.Proofs.YtbmaecdlkchkeaaGreatDoor
open Go.RowKit
set_option linter.unusedVariables false
set_option linter.unusedSimpArgs false
set_option maxRecDepth 100000
theorem rowN_len (t : List Pg) (j : Nat) : (rowN t j).length = rN t j := by simp [rowN]
def tA (K : Nat) : List Pg := [⟨0, 3⟩, ⟨0, (K : Int)⟩]
def tB (K : Nat) : List Pg := [⟨0, (K : Int)⟩]
theorem ptok {K : Nat} (h1 : 1 ≤ K) (h2 : K ≤ 16) : ptOk ⟨0, (K : Int)⟩ = true := by
  unfold ptOk
  simp only [Bool.and_eq_true, decide_eq_true_eq]
  omega
theorem ptsA {K : Nat} (h1 : 1 ≤ K) (h2 : K ≤ 16) : ptsE (tA K) = 0 := by
  unfold ptsE tA
  rw [if_pos]
  refine ⟨⟨by simp, by simp⟩, ?_⟩
  simp only [List.all_cons, List.all_nil, Bool.and_true, ptok h1 h2]
  decide
theorem ptsB {K : Nat} (h1 : 1 ≤ K) (h2 : K ≤ 16) : ptsE (tB K) = 0 := by
  unfold ptsE tB
  rw [if_pos]
  refine ⟨⟨by simp, by simp⟩, ?_⟩
  simp only [List.all_cons, List.all_nil, Bool.and_true, ptok h1 h2]
theorem tabA (K : Nat) : ∃ t, (spNew (tA K)).tb[1]? = some t ∧ t.length = K := ⟨rowN (tA K) 1, by simp [spNew, tA], by rw [rowN_len]; simp [rN, tA]⟩
theorem tabB (K : Nat) : ∃ t, (spNew (tB K)).tb[0]? = some t ∧ t.length = K := ⟨rowN (tB K) 0, by simp [spNew, tB], by rw [rowN_len]; simp [rN, tB]⟩
theorem ld_long {x : Sp} {k : Nat} {t : List Pg} (hk : x.tb[k]? = some t) {pr : ByteArray} (h : t.length * 256 < pr.size) : ldE x (k : Int) pr = 122 := by
  obtain ⟨h1, h2⟩ := tbOf_some hk
  unfold ldE
  rw [if_neg (by rw [h1]; simp), h2, if_pos h]
/-- Both spaces behind the loads, where the program fits. -/
theorem top_fits {K : Nat} (h1 : 1 ≤ K) (h2 : K ≤ 16) {pr : ByteArray} (hs : pr.size ≤ K * 256) : ldE (spNew (tA K)) 1 pr = 0 ∧ ldE (spNew (tB K)) 0 pr = 0 ∧ ∃ u1 u2, Twin (ldS (spNew (tA K)) 1 pr) (ldS (spNew (tB K)) 0 pr) 1 0 u1 u2 pr := by
  obtain ⟨ta, ha, la⟩ := tabA K
  obtain ⟨tb, hb, lb⟩ := tabB K
  obtain ⟨e1, e2, hT⟩ := twin_made (SpOk.new (ptsA h1 h2)) (SpOk.new (ptsB h1 h2)) ha hb (by rw [la, lb]) (pr := pr) (by rw [la]; exact hs)
  exact ⟨e1, e2, _, _, hT⟩
theorem top_long {K : Nat} {pr : ByteArray} (hs : K * 256 < pr.size) : ldE (spNew (tA K)) 1 pr = 122 ∧ ldE (spNew (tB K)) 0 pr = 122 := by
  obtain ⟨ta, ha, la⟩ := tabA K
  obtain ⟨tb, hb, lb⟩ := tabB K
  exact ⟨ld_long ha (by rw [la]; exact hs), ld_long hb (by rw [lb]; exact hs)⟩
end Go.Proofs.YtbmaecdlkchkeaaGreatDoor
namespace Go.Proofs.YtbmaecdlkchkeaaGreatDoor
open Go.RowKit
set_option linter.unusedVariables false
set_option linter.unusedSimpArgs false
set_option maxRecDepth 100000
set_option maxHeartbeats 16000000 in
theorem top_walk (s0 : ByteArray) (n1 n2 : Int) (hn1 : -9223372036854775808 ≤ n1 ∧ n1 ≤ 9223372036854775807) (hn2 : -9223372036854775808 ≤ n2 ∧ n2 ≤ 9223372036854775807) (w : World) (hw : Std w) : Calls Tryz.prog 3 #[.string s0, .int .i64 n1, .int .i64 n2] w fun e w' => e = .returned (.bool true) ∧ Fr [] w w' := by
  have HS := Lib.hid hw
  have HR := Lib.hid (fun W hW => runs_any W hW)
  rcases asm_cases s0.data.toList with ⟨n, e, he, hne⟩ | ⟨P, hP, hl, h4⟩
  · have HA : Hid (∀ W, Std W → Calls Tryz.prog 4 #[.string s0] W fun e' w' => e' = .returned (.tuple #[.string ⟨#[]⟩, .int .i64 ((n : Nat) : Int), .int .i64 e]) ∧ Fr [] W w') := Lib.hid (fun W hW => by
      have h := Assemble_any s0 W hW
      rw [he] at h
      exact h)
    have hq : (e != 0) = true := by simpa using hne
    have hq2 : (e == 0) = false := by simpa using hne
    clear he hw
    go_enter Tryz.func3, Tryz.ntmps3
    go_wp2_with (first
      | (go_at_call 4; refine (HA.out _ HS.out).mono ?_; rintro e1 w1 ⟨rfl, hf⟩; have G1 := Lib.hid hf; clear hf)
      | (go_at_call 5; refine (HR.out _ (HS.out.fr G1.out)).mono ?_; rintro e2 w2 ⟨rfl, hf⟩; have G2 := Lib.hid (G1.out.trans hf); clear hf)
      | fail)
    go_ret
    exact ⟨rfl, G2.out⟩
  · obtain ⟨pr, hpr⟩ : ∃ pr : ByteArray, pr = ⟨P.toArray⟩ := ⟨_, rfl⟩
    have hps : pr.size = P.length := by rw [hpr]; rfl
    have hpd : pr.data.toList = P := by rw [hpr]
    have hp4 : pr.size ≤ 4096 := by omega
    have HP4 := Lib.hid hp4
    have HA : Hid (∀ W, Std W → Calls Tryz.prog 4 #[.string s0] W fun e' w' => e' = .returned (.tuple #[.string pr, .int .i64 0, .int .i64 0]) ∧ Fr [] W w') := Lib.hid (fun W hW => by
      have h := Assemble_any s0 W hW
      rw [hP, ← hpr] at h
      exact h)
    obtain ⟨l1, l2⟩ := list_ok hl h4
    obtain ⟨L, hL⟩ : ∃ L : ByteArray, L = ⟨(listP P).1.toArray⟩ := ⟨_, rfl⟩
    have HLs : Hid (∀ W, Std W → Calls Tryz.prog 9 #[.string pr] W fun e' w' => e' = .returned (.tuple #[.string L, .int .i64 0]) ∧ Fr [] W w') := Lib.hid (fun W hW => by
      have h := List_any pr W hW
      rw [hpd, l1, ← hL] at h
      exact h)
    have HA2 : Hid (∀ W, Std W → Calls Tryz.prog 4 #[.string L] W fun e' w' => e' = .returned (.tuple #[.string pr, .int .i64 0, .int .i64 0]) ∧ Fr [] W w') := Lib.hid (fun W hW => by
      have h := Assemble_any L W hW
      have e1 : L.data.toList = (listP P).1 := by rw [hL]
      rw [e1, l2, ← hpr] at h
      exact h)
    obtain ⟨k0, hk0, hk0l⟩ := place_nat n1 16 (by decide)
    obtain ⟨N3, hN3, hN3l⟩ := place_nat n2 300 (by decide)
    have HR1 : Hid (∀ W, Calls Tryz.prog 6 #[.int .i64 n1, .int .i64 16] W fun e w' => e = .returned (.int .i64 (k0 : Int)) ∧ W = w') := Lib.hid (fun W => by
      have h := place_any n1 16 (by decide) (by decide) hn1.1 hn1.2 W
      rw [hk0] at h
      exact h)
    have HR2 : Hid (∀ W, Calls Tryz.prog 6 #[.int .i64 n2, .int .i64 300] W fun e w' => e = .returned (.int .i64 (N3 : Int)) ∧ W = w') := Lib.hid (fun W => by
      have h := place_any n2 300 (by decide) (by decide) hn2.1 hn2.2 W
      rw [hN3] at h
      exact h)
    obtain ⟨K, hK⟩ : ∃ K, K = k0 + 1 := ⟨_, rfl⟩
    have hK1 : 1 ≤ K := by omega
    have hK16 : K ≤ 16 := by omega
    have hKw : IntKind.i64.wrap (1 + (k0 : Int)) = (K : Int) := by
      rw [show (1 : Int) + (k0 : Int) = (K : Int) by omega]
      exact IntWalk.i64_in _ (by omega)
    have hKm : IntKind.i64.wrap (256 * (K : Int)) = 256 * (K : Int) := IntWalk.i64_in _ (by omega)
    obtain ⟨xa, hxa⟩ : ∃ xa, xa = spNew (tA K) := ⟨_, rfl⟩
    obtain ⟨xb, hxb⟩ : ∃ xb, xb = spNew (tB K) := ⟨_, rfl⟩
    have HN1 : Hid (∀ W, Fr [] w W → Calls Tryz.prog 7 #[.slice (some ⟨W.heap.size, 0, none⟩) 2 2] (W.alloc (.cells #[.int .i64 0, .int .i64 3, .int .i64 0, .int .i64 (K : Int)] 31)) fun e w' => ∃ s p F g, e = .returned (.tuple #[ptr s, .int .i64 0]) ∧ Sd w w' s p F g xa) := Lib.hid (fun W h => (Sd.new W.heap.size 2 2 _ (tA K) w _ (part_2 W K) (ptsA hK1 hK16) (h.alloc _)).mono fun e w' ⟨s, p, F, g, he, hd, _⟩ => ⟨s, p, F, g, he, by rw [hxa]; exact hd⟩)
    have HN2 : Hid (∀ s p F g W, Sd w W s p F g xa → Calls Tryz.prog 7 #[.slice (some ⟨W.heap.size, 0, none⟩) 1 1] (W.alloc (.cells #[.int .i64 0, .int .i64 (K : Int)] 31)) fun e w' => ∃ s2 p2 F2 g2, e = .returned (.tuple #[ptr s2, .int .i64 0]) ∧ Td w w' s p F g s2 p2 F2 g2 xa xb) := Lib.hid (fun s p F g W h => by
      rw [hxb]
      exact (h.to ((Fr.refl [] W).alloc _)).second W.heap.size 1 1 _ (tB K) (part_1 W K) (ptsB hK1 hK16))
    have hpp : (pr.toList == pr.toList) = true := by simp
    have hpn : (pr.toList != pr.toList) = false := by simp
    by_cases hfit : pr.size ≤ K * 256
    · obtain ⟨e1, e2, u1, u2, hT⟩ := top_fits hK1 hK16 hfit
      rw [← hxa] at e1
      rw [← hxb] at e2
      rw [← hxa, ← hxb] at hT
      obtain ⟨ya, hya⟩ : ∃ ya, ya = ldS xa 1 pr := ⟨_, rfl⟩
      obtain ⟨yb, hyb⟩ : ∃ yb, yb = ldS xb 0 pr := ⟨_, rfl⟩
      rw [← hya, ← hyb] at hT
      have HT0 := Lib.hid hT
      have HL1 : Hid (∀ s p F g s2 p2 F2 g2 W, Td w W s p F g s2 p2 F2 g2 xa xb → Calls Tryz.prog 8 #[ptr s, .int .i64 1, .string pr] W fun e w' => e = .returned (.int .i64 0) ∧ Td w w' s p F g s2 p2 F2 g2 ya xb) := Lib.hid (fun s p F g s2 p2 F2 g2 W h => by
        have hh := h.load1 1 pr
        rw [e1, ← hya] at hh
        exact hh)
      have HL2 : Hid (∀ s p F g s2 p2 F2 g2 W, Td w W s p F g s2 p2 F2 g2 ya xb → Calls Tryz.prog 8 #[ptr s2, .int .i64 0, .string pr] W fun e w' => e = .returned (.int .i64 0) ∧ Td w w' s p F g s2 p2 F2 g2 ya yb) := Lib.hid (fun s p F g s2 p2 F2 g2 W h => by
        have hh := h.load2 0 pr
        rw [e2, ← hyb] at hh
        exact hh)
      have HV1 : Hid (∀ s p F g s2 p2 F2 g2 W, Td w W s p F g s2 p2 F2 g2 ya yb → Calls Tryz.prog 10 #[] W fun e w' => ∃ v, e = .returned (ptr v) ∧ Tv w w' s p F g v s2 p2 F2 g2 ya yb vm0) := Lib.hid (fun s p F g s2 p2 F2 g2 W h => h.vm1)
      have HV2 : Hid (∀ s p F g v s2 p2 F2 g2 W, Tv w W s p F g v s2 p2 F2 g2 ya yb vm0 → Calls Tryz.prog 10 #[] W fun e w' => ∃ v2, e = .returned (ptr v2) ∧ Tp w w' s p F g v s2 p2 F2 g2 v2 ya yb vm0 vm0) := Lib.hid (fun s p F g v s2 p2 F2 g2 W h => h.vm2)
      clear hw hP hl h4 hpr hps hpd hp4 l1 l2 hL hk0 hN3 hk0l hxa hxb hya hyb hT e1 e2 hfit hK1 hK16 hK
      go_enter Tryz.func3, Tryz.ntmps3
      go_wp2_with (first
        | (go_at_call 4; refine (HA.out _ HS.out).mono ?_; clear HA; rintro e1 w1 ⟨rfl, hf⟩; have HN1 := Lib.hid (HN1.out w1 hf); clear hf)
        | (go_at_call 6; refine (HR1.out _).mono ?_; clear HR1; rintro e1 w1 ⟨rfl, rfl⟩)
        | (go_at_call 7; refine (HN1.out).mono ?_; clear HN1; rintro e2 w2 ⟨s, p, F, g, rfl, hd⟩; have HN2 := Lib.hid (HN2.out s p F g w2 hd); clear hd)
        | (go_at_call 7; refine (HN2.out).mono ?_; clear HN2; rintro e2 w3 ⟨s2, p2, F2, g2, rfl, hd⟩)
        | (go_at_call 8; refine (HL1.out _ _ _ _ _ _ _ _ _ hd).mono ?_; clear HL1 hd; rintro e2 w4 ⟨rfl, hd⟩)
        | (go_at_call 8; refine (HL2.out _ _ _ _ _ _ _ _ _ hd).mono ?_; clear HL2 hd; rintro e2 w5 ⟨rfl, hd⟩)
        | (go_at_call 9; refine (HLs.out _ (HS.out.fr hd.d1.fr)).mono ?_; clear HLs; rintro e2 w6 ⟨rfl, hf⟩; have hd2 := hd.to hf; clear hd hf; have hd := hd2; clear hd2)
        | (go_at_call 4; refine (HA2.out _ (HS.out.fr hd.d1.fr)).mono ?_; clear HA2; rintro e2 w7 ⟨rfl, hf⟩; have hd2 := hd.to hf; clear hd hf; have hd := hd2; clear hd2)
        | (go_at_call 10; refine (HV1.out _ _ _ _ _ _ _ _ _ hd).mono ?_; clear HV1 hd; rintro e2 w8 ⟨v, rfl, hd⟩)
        | (go_at_call 10; refine (HV2.out _ _ _ _ _ _ _ _ _ _ hd).mono ?_; clear HV2 hd; rintro e2 w9 ⟨v2, rfl, hd⟩)
        | fail)
      have HD0 := Lib.hid hd
      have HN3l := Lib.hid hN3l
      clear hd hN3l
      go_loopg [23] N3 (fun gg v23 wr => ∃ (k : Nat) (x x2 : Sp) (y : Vm), k + gg = N3 ∧ v23 = .int .i64 (k : Int) ∧ Tp w wr s p F g v s2 p2 F2 g2 v2 x x2 y y ∧ Twin x x2 1 0 u1 u2 pr)
      case atStart => exact ⟨0, ya, yb, vm0, by omega, rfl, HD0.out, HT0.out⟩
      case round =>
        obtain ⟨k, x, x2, y, hk, rfl, hd, htw⟩ := hrel
        have Hk := Lib.hid hk
        have hN3 := HN3l.out
        by_cases hlt : k < N3
        · have hlt1 : (k : Int) < (N3 : Int) := by omega
          have hwk : IntKind.i64.wrap ((k : Int) + 1) = (k : Int) + 1 := IntWalk.i64_in _ (by omega)
          obtain ⟨t1, t2, htw2⟩ := htw.step y
          have hev := (stepV_ok y x.st u1).1
          obtain ⟨E, hE⟩ : ∃ E, E = (stepV y x.st u1).1 := ⟨_, rfl⟩
          obtain ⟨Y, hY⟩ : ∃ Y, Y = (stepV y x.st u1).2.1 := ⟨_, rfl⟩
          obtain ⟨z, hz⟩ : ∃ z, z = (⟨(stepV y x.st u1).2.2, x.tb⟩ : Sp) := ⟨_, rfl⟩
          obtain ⟨z2, hz2⟩ : ∃ z2, z2 = (⟨(stepV y x2.st u2).2.2, x2.tb⟩ : Sp) := ⟨_, rfl⟩
          rw [← hE, ← hY] at hev
          rw [← hE] at t1
          rw [← hY] at t2
          rw [← hz, ← hz2] at htw2
          have HTw2 := Lib.hid htw2
          have HM1 : Hid (∀ W, Tp w W s p F g v s2 p2 F2 g2 v2 x x2 y y → Calls Tryz.prog 12 #[ptr s] W fun e w' => e = .returned (ptr p) ∧ W = w') := Lib.hid (fun W h => h.mem1)
          have HT1 : Hid (∀ W, Tp w W s p F g v s2 p2 F2 g2 v2 x x2 y y → Calls Tryz.prog 13 #[ptr s, .int .i64 1] W fun e w' => ∃ b, e = .returned (.slice (some ⟨b, 0, none⟩) u1.length u1.length) ∧ PB w' b u1 ∧ Tp w w' s p F g v s2 p2 F2 g2 v2 x x2 y y) := Lib.hid (fun W h => h.table1 (k := 1) htw.l1.has)
          have HS1 : Hid (∀ W b, Tp w W s p F g v s2 p2 F2 g2 v2 x x2 y y → PB W b u1 → Calls Tryz.prog 11 #[ptr v, ptr p, .slice (some ⟨b, 0, none⟩) u1.length u1.length] W fun e w' => e = .returned (.agg #[.int .i64 E.1, .int .i64 E.2]) ∧ Tp w w' s p F g v s2 p2 F2 g2 v2 z x2 Y y) := Lib.hid (fun W b h hB => by
            have hh := h.step1 (k := 1) htw.l1.has hB
            rw [← hE, ← hY, ← hz] at hh
            exact hh)
          have HM2 : Hid (∀ W, Tp w W s p F g v s2 p2 F2 g2 v2 z x2 Y y → Calls Tryz.prog 12 #[ptr s2] W fun e w' => e = .returned (ptr p2) ∧ W = w') := Lib.hid (fun W h => h.mem2)
          have HT2 : Hid (∀ W, Tp w W s p F g v s2 p2 F2 g2 v2 z x2 Y y → Calls Tryz.prog 13 #[ptr s2, .int .i64 0] W fun e w' => ∃ b, e = .returned (.slice (some ⟨b, 0, none⟩) u2.length u2.length) ∧ PB w' b u2 ∧ Tp w w' s p F g v s2 p2 F2 g2 v2 z x2 Y y) := Lib.hid (fun W h => h.table2 (k := 0) htw.l2.has)
          have HS2 : Hid (∀ W b, Tp w W s p F g v s2 p2 F2 g2 v2 z x2 Y y → PB W b u2 → Calls Tryz.prog 11 #[ptr v2, ptr p2, .slice (some ⟨b, 0, none⟩) u2.length u2.length] W fun e w' => e = .returned (.agg #[.int .i64 E.1, .int .i64 E.2]) ∧ Tp w w' s p F g v s2 p2 F2 g2 v2 z z2 Y Y) := Lib.hid (fun W b h hB => by
            have hh := h.step2 (k := 0) htw.l2.has hB
            rw [t1, t2, ← hz2] at hh
            exact hh)
          have HP1 : Hid (∀ W, Tp w W s p F g v s2 p2 F2 g2 v2 z z2 Y Y → Calls Tryz.prog 14 #[ptr v] W fun e w' => e = .returned (.int .i64 Y.pl) ∧ W = w') := Lib.hid (fun W h => h.place1)
          have HP2 : Hid (∀ W, Tp w W s p F g v s2 p2 F2 g2 v2 z z2 Y Y → Calls Tryz.prog 14 #[ptr v2] W fun e w' => e = .returned (.int .i64 Y.pl) ∧ W = w') := Lib.hid (fun W h => h.place2)
          obtain ⟨E1, E2⟩ := E
          obtain ⟨PL, hPL⟩ : ∃ PL, Y.pl = PL := ⟨_, rfl⟩
          rw [hPL] at HP1 HP2
          have q1 : (E1 == E1) = true := by simp
          have q2 : (E2 == E2) = true := by simp
          have q3 : (PL == PL) = true := by simp
          have q4 : (PL != PL) = false := by simp
          simp only at HS1 HS2
          clear t1 t2 htw2 hE hY hz hz2 htw hk hlt hPL hN3
          by_cases h3 : E1 = 3
          · have hy3 : Y.wt = true := by
              rcases hev with h | ⟨h, -⟩ | ⟨h, -⟩ | ⟨-, h⟩
              · simp only at h; omega
              · simp only at h; omega
              · simp only at h; omega
              · exact h
            have HQ1 : Hid (∀ W, Tp w W s p F g v s2 p2 F2 g2 v2 z z2 Y Y → Calls Tryz.prog 15 #[ptr v, .slice (some ⟨W.heap.size, 0, none⟩) 3 3] (W.alloc (.cells #[.int .i64 (k : Int), .int .i64 0, .int .i64 0] 3)) fun e w' => e = .returned (.int .i64 0) ∧ Tp w w' s p F g v s2 p2 F2 g2 v2 z z2 (ansV Y (fun j => if j = 0 then (k : Int) else 0)) Y) := Lib.hid (fun W h => (h.to ((Fr.refl [] W).alloc _)).answer1 W.heap.size (k : Int) hy3 (Blk.new W 3 _))
            have HQ2 : Hid (∀ W V, Tp w W s p F g v s2 p2 F2 g2 v2 z z2 V Y → Calls Tryz.prog 15 #[ptr v2, .slice (some ⟨W.heap.size, 0, none⟩) 3 3] (W.alloc (.cells #[.int .i64 (k : Int), .int .i64 0, .int .i64 0] 3)) fun e w' => e = .returned (.int .i64 0) ∧ Tp w w' s p F g v s2 p2 F2 g2 v2 z z2 V (ansV Y (fun j => if j = 0 then (k : Int) else 0))) := Lib.hid (fun W V h => (h.to ((Fr.refl [] W).alloc _)).answer2 W.heap.size (k : Int) hy3 (Blk.new W 3 _))
            generalize ansV Y (fun j => if j = 0 then (k : Int) else 0) = V at *
            subst h3
            clear hev hy3
            go_upto_region 27 with (first
              | (go_at_call 6; refine (HR2.out _).mono ?_; rintro e1 w1 ⟨rfl, rfl⟩)
              | (go_at_call 12; refine (HM1.out _ hd).mono ?_; clear HM1; rintro e1 w1 ⟨rfl, rfl⟩)
              | (go_at_call 13; refine (HT1.out _ hd).mono ?_; clear HT1 hd; rintro e1 w2 ⟨b, rfl, hB, hd⟩)
              | (go_at_call 11; refine (HS1.out _ _ hd hB).mono ?_; clear HS1 hd hB; rintro e1 w3 ⟨rfl, hd⟩)
              | (go_at_call 12; refine (HM2.out _ hd).mono ?_; clear HM2; rintro e1 w4 ⟨rfl, rfl⟩)
              | (go_at_call 13; refine (HT2.out _ hd).mono ?_; clear HT2 hd; rintro e1 w5 ⟨b, rfl, hB, hd⟩)
              | (go_at_call 11; refine (HS2.out _ _ hd hB).mono ?_; clear HS2 hd hB; rintro e1 w6 ⟨rfl, hd⟩)
              | (go_at_call 14; refine (HP1.out _ ((hd.to ((Fr.refl [] _).alloc _)).to ((Fr.refl [] _).alloc _))).mono ?_; clear HP1; rintro e1 w7 ⟨rfl, rfl⟩)
              | (go_at_call 14; refine (HP2.out _ ((hd.to ((Fr.refl [] _).alloc _)).to ((Fr.refl [] _).alloc _))).mono ?_; clear HP2; rintro e1 w8 ⟨rfl, rfl⟩)
              | fail)
            have hd7 := (hd.to ((Fr.refl [] w6).alloc (.cells #[.int .i64 3, .int .i64 E2] 39))).to ((Fr.refl [] _).alloc (.cells #[.int .i64 3, .int .i64 E2] 39))
            have c7 : ((w6.alloc (.cells #[.int .i64 3, .int .i64 E2] 39)).alloc (.cells #[.int .i64 3, .int .i64 E2] 39)).cell? ⟨w6.heap.size, 0, none⟩ = some (.int .i64 3) := ((Blk.new w6 39 #[.int .i64 3, .int .i64 E2]).fr ((Fr.refl [] _).alloc _) (by simp)).cell 0
            generalize (w6.alloc (.cells #[.int .i64 3, .int .i64 E2] 39)).alloc (.cells #[.int .i64 3, .int .i64 E2] 39) = W7 at *
            clear hd
            go_wp2_with (first
              | (go_at_call 15; refine (HQ1.out _ hd7).mono ?_; clear HQ1 hd7; rintro e1 w9 ⟨rfl, hd⟩)
              | (go_at_call 15; refine (HQ2.out _ _ hd).mono ?_; clear HQ2 hd; rintro e1 w10 ⟨rfl, hd⟩)
              | fail)
            go_roundg (N3 - (k + 1))
            case measure => have := Hk.out; omega
            case rel => exact ⟨k + 1, z, z2, V, by have := Hk.out; omega, by go_num, hd, HTw2.out⟩
          · have h4 : (E1 == 3) = false := beq_eq_false_iff_ne.2 h3
            clear hev h3
            go_wp2_with (first
              | (go_at_call 6; refine (HR2.out _).mono ?_; rintro e1 w1 ⟨rfl, rfl⟩)
              | (go_at_call 12; refine (HM1.out _ hd).mono ?_; clear HM1; rintro e1 w1 ⟨rfl, rfl⟩)
              | (go_at_call 13; refine (HT1.out _ hd).mono ?_; clear HT1 hd; rintro e1 w2 ⟨b, rfl, hB, hd⟩)
              | (go_at_call 11; refine (HS1.out _ _ hd hB).mono ?_; clear HS1 hd hB; rintro e1 w3 ⟨rfl, hd⟩)
              | (go_at_call 12; refine (HM2.out _ hd).mono ?_; clear HM2; rintro e1 w4 ⟨rfl, rfl⟩)
              | (go_at_call 13; refine (HT2.out _ hd).mono ?_; clear HT2 hd; rintro e1 w5 ⟨b, rfl, hB, hd⟩)
              | (go_at_call 11; refine (HS2.out _ _ hd hB).mono ?_; clear HS2 hd hB; rintro e1 w6 ⟨rfl, hd⟩)
              | (go_at_call 14; refine (HP1.out _ ((hd.to ((Fr.refl [] _).alloc _)).to ((Fr.refl [] _).alloc _))).mono ?_; clear HP1; rintro e1 w7 ⟨rfl, rfl⟩)
              | (go_at_call 14; refine (HP2.out _ ((hd.to ((Fr.refl [] _).alloc _)).to ((Fr.refl [] _).alloc _))).mono ?_; clear HP2; rintro e1 w8 ⟨rfl, rfl⟩)
              | fail)
            go_roundg (N3 - (k + 1))
            case measure => have := Hk.out; omega
            case rel => exact ⟨k + 1, z, z2, Y, by have := Hk.out; omega, by go_num, (hd.to ((Fr.refl [] _).alloc _)).to ((Fr.refl [] _).alloc _), HTw2.out⟩
        · have hlt1 : ¬ (k : Int) < (N3 : Int) := by omega
          have HTw := Lib.hid htw
          have HDk := Lib.hid hd
          clear hk hN3 htw hd
          go_wp2_with (first
            | (go_at_call 6; refine (HR2.out _).mono ?_; rintro e1 w1 ⟨rfl, rfl⟩)
            | fail)
          obtain ⟨Wk, rfl⟩ : ∃ W, W = wr := ⟨_, rfl⟩
          obtain ⟨U6, rfl⟩ : ∃ U, U = u6 := ⟨_, rfl⟩
          go_loopg [26] 16 (fun gg v26 wr => ∃ (j : Nat), j + gg = 16 ∧ v26 = .int .i64 (j : Int) ∧ Tp w wr s p F g v s2 p2 F2 g2 v2 x x2 y y)
          case atStart => exact ⟨0, rfl, rfl, HDk.out⟩
          case round =>
            obtain ⟨j, hj, rfl, hd⟩ := hrel
            have Hj := Lib.hid hj
            by_cases hlt : j < 16
            · have hj1 : (j : Int) < 16 := by omega
              have hwj : IntKind.i64.wrap ((j : Int) + 1) = (j : Int) + 1 := IntWalk.i64_in _ (by omega)
              have HG1 : Hid (∀ W, Tp w W s p F g v s2 p2 F2 g2 v2 x x2 y y → Calls Tryz.prog 16 #[ptr v, .int .i64 (j : Int)] W fun e w' => e = .returned (.int .i64 (y.r j)) ∧ W = w') := Lib.hid (fun W h => h.reg1 j hlt)
              have HG2 : Hid (∀ W, Tp w W s p F g v s2 p2 F2 g2 v2 x x2 y y → Calls Tryz.prog 16 #[ptr v2, .int .i64 (j : Int)] W fun e w' => e = .returned (.int .i64 (y.r j)) ∧ W = w') := Lib.hid (fun W h => h.reg2 j hlt)
              generalize y.r j = RG at *
              have q1 : (RG == RG) = true := by simp
              have q2 : (RG != RG) = false := by simp
              clear hlt hj
              go_wp2_with (first
                | (go_at_call 16; refine (HG1.out _ hd).mono ?_; clear HG1; rintro e1 w1 ⟨rfl, rfl⟩)
                | (go_at_call 16; refine (HG2.out _ hd).mono ?_; clear HG2; rintro e1 w1 ⟨rfl, rfl⟩)
                | fail)
              go_roundg (16 - (j + 1))
              case measure => have := Hj.out; omega
              case rel => exact ⟨j + 1, by have := Hj.out; omega, by go_num, hd⟩
            · have hj1 : ¬ (j : Int) < 16 := by omega
              have HDj := Lib.hid hd
              clear hj hd
              go_wp2_with fail
              obtain ⟨J, hJ⟩ : ∃ J, J = (pr.size + 199) / 200 := ⟨_, rfl⟩
              have HJ := Lib.hid hJ
              clear hJ
              obtain ⟨Wj, rfl⟩ : ∃ W, W = wr := ⟨_, rfl⟩
              obtain ⟨V6, rfl⟩ : ∃ U, U = u6 := ⟨_, rfl⟩
              go_loopg [27] J (fun gg v27 wr => ∃ (i : Nat), i + gg = J ∧ v27 = .int .i64 ((200 * i : Nat) : Int) ∧ Tp w wr s p F g v s2 p2 F2 g2 v2 x x2 y y)
              case atStart => exact ⟨0, by omega, rfl, HDj.out⟩
              case round =>
                obtain ⟨i, hi, rfl, hd⟩ := hrel
                have Hi := Lib.hid hi
                obtain ⟨A, hA⟩ : ∃ A, A = 200 * i := ⟨_, rfl⟩
                rw [← hA]
                have HA3 := Lib.hid hA
                have h4 := HP4.out
                have hJ := HJ.out
                by_cases hlt : A < pr.size
                · obtain ⟨n, hn⟩ : ∃ n, n = min 200 (pr.size - A) := ⟨_, rfl⟩
                  have hn2 : n ≤ 200 := by omega
                  have hn3 : A + n ≤ pr.size := by omega
                  obtain ⟨M, hM⟩ : ∃ M, M = A + n := ⟨_, rfl⟩
                  have HI1 : Hid (∀ W, Tp w W s p F g v s2 p2 F2 g2 v2 x x2 y y → Calls Tryz.prog 17 #[ptr s, .int .i64 1, .int .i64 (A : Int), .int .i64 (n : Int)] W fun e w' => e = .returned (.tuple #[.string (pr.extract A M), .int .i64 0]) ∧ Tp w w' s p F g v s2 p2 F2 g2 v2 x x2 y y) := Lib.hid (fun W h => by rw [hM]; exact h.in1 (k := 1) HTw.out.l1 hn2 hn3 h4)
                  have HI2 : Hid (∀ W, Tp w W s p F g v s2 p2 F2 g2 v2 x x2 y y → Calls Tryz.prog 17 #[ptr s2, .int .i64 0, .int .i64 (A : Int), .int .i64 (n : Int)] W fun e w' => e = .returned (.tuple #[.string (pr.extract A M), .int .i64 0]) ∧ Tp w w' s p F g v s2 p2 F2 g2 v2 x x2 y y) := Lib.hid (fun W h => by rw [hM]; exact h.in2 (k := 0) HTw.out.l2 hn2 hn3 h4)
                  have a0 : (0 : Int) ≤ (A : Int) := Int.natCast_nonneg A
                  have a1 : (A : Int) < (pr.size : Int) := by omega
                  have a2 : IntKind.i64.wrap ((pr.size : Int) - (A : Int)) = (pr.size : Int) - (A : Int) := IntWalk.i64_in _ (by omega)
                  have a3 : min (200 : Int) ((pr.size : Int) - (A : Int)) = (n : Int) := by omega
                  have a4 : (A : Int) + (n : Int) = (M : Int) := by omega
                  have a5 : IntKind.i64.wrap (M : Int) = (M : Int) := IntWalk.i64_in _ (by omega)
                  have a6 : (A : Int) ≤ (M : Int) := by omega
                  have a7 : (M : Int) ≤ (pr.size : Int) := by omega
                  have a8 : IntKind.i64.wrap ((A : Int) + 200) = (A : Int) + 200 := IntWalk.i64_in _ (by omega)
                  have a9 : (0 : Int) ≤ (M : Int) := Int.natCast_nonneg M
                  obtain ⟨X, hX⟩ : ∃ X, pr.extract A M = X := ⟨_, rfl⟩
                  rw [hX] at HI1 HI2
                  have q1 : (X.toList == X.toList) = true := by simp
                  have q2 : (X.toList != X.toList) = false := by simp
                  clear hn hn2 hn3 hM hi hA h4 hlt hJ
                  go_wp2_with (first
                    | (go_at_call 17; refine (HI1.out _ hd).mono ?_; clear HI1 hd; rintro e1 w1 ⟨rfl, hd⟩)
                    | (go_at_call 17; refine (HI2.out _ hd).mono ?_; clear HI2 hd; rintro e1 w1 ⟨rfl, hd⟩)
                    | fail)
                  go_roundg (J - (i + 1))
                  case measure => have := Hi.out; have := HJ.out; have := HA3.out; omega
                  case rel => exact ⟨i + 1, by have := Hi.out; have := HJ.out; have := HA3.out; omega, by have := HA3.out; go_num, hd⟩
                · have a1 : ¬ (A : Int) < (pr.size : Int) := by omega
                  clear hi hA h4 hlt hJ
                  go_wp2_with (first
                    | (go_at_call 5; refine (HR.out _ (HS.out.fr hd.m1.d.fr)).mono ?_; rintro e2 w6 ⟨rfl, hf⟩; have G6 := Lib.hid (hd.m1.d.fr.trans hf); clear hf)
                    | fail)
                  go_ret
                  exact ⟨rfl, G6.out⟩
    · obtain ⟨e1, e2⟩ := top_long (K := K) (pr := pr) (by omega)
      rw [← hxa] at e1
      rw [← hxb] at e2
      have HL1 : Hid (∀ s p F g s2 p2 F2 g2 W, Td w W s p F g s2 p2 F2 g2 xa xb → Calls Tryz.prog 8 #[ptr s, .int .i64 1, .string pr] W fun e w' => e = .returned (.int .i64 122) ∧ Td w w' s p F g s2 p2 F2 g2 (ldS xa 1 pr) xb) := Lib.hid (fun s p F g s2 p2 F2 g2 W h => by
        have hh := h.load1 1 pr
        rw [e1] at hh
        exact hh)
      have HL2 : Hid (∀ s p F g s2 p2 F2 g2 W y, Td w W s p F g s2 p2 F2 g2 y xb → Calls Tryz.prog 8 #[ptr s2, .int .i64 0, .string pr] W fun e w' => e = .returned (.int .i64 122) ∧ Td w w' s p F g s2 p2 F2 g2 y (ldS xb 0 pr)) := Lib.hid (fun s p F g s2 p2 F2 g2 W y h => by
        have hh := h.load2 0 pr
        rw [e2] at hh
        exact hh)
      generalize ldS xa 1 pr = ya at *
      generalize ldS xb 0 pr = yb at *
      have hgt : 256 * (K : Int) < (pr.size : Int) := by omega
      clear hw hP hl h4 hpr hps hpd hp4 l1 l2 hL hk0 hN3 hk0l hxa hxb e1 e2 hfit hK1 hK16 hK HLs HA2 HR2
      go_enter Tryz.func3, Tryz.ntmps3
      go_wp2_with (first
        | (go_at_call 4; refine (HA.out _ HS.out).mono ?_; clear HA; rintro e1 w1 ⟨rfl, hf⟩; have HN1 := Lib.hid (HN1.out w1 hf); clear hf)
        | (go_at_call 6; refine (HR1.out _).mono ?_; clear HR1; rintro e1 w1 ⟨rfl, rfl⟩)
        | (go_at_call 7; refine (HN1.out).mono ?_; clear HN1; rintro e2 w2 ⟨s, p, F, g, rfl, hd⟩; have HN2 := Lib.hid (HN2.out s p F g w2 hd); clear hd)
        | (go_at_call 7; refine (HN2.out).mono ?_; clear HN2; rintro e2 w3 ⟨s2, p2, F2, g2, rfl, hd⟩)
        | (go_at_call 8; refine (HL1.out _ _ _ _ _ _ _ _ _ hd).mono ?_; clear HL1 hd; rintro e2 w4 ⟨rfl, hd⟩)
        | (go_at_call 8; refine (HL2.out _ _ _ _ _ _ _ _ _ _ hd).mono ?_; clear HL2 hd; rintro e2 w5 ⟨rfl, hd⟩)
        | (go_at_call 5; refine (HR.out _ (HS.out.fr hd.d1.fr)).mono ?_; rintro e2 w6 ⟨rfl, hf⟩; have G6 := Lib.hid (hd.d1.fr.trans hf); clear hf)
        | fail)
      go_ret
      exact ⟨rfl, G6.out⟩
end Go.Proofs.YtbmaecdlkchkeaaGreatDoor
