/- The machine: New, Place, Waits, Register, Answer. -/
import Derived.Test.YtonongaakieciaaV2
import Derived.Deep.LoopGhost
namespace Go.Proofs.Ytonongaakieciaa
open Go.RowKit
set_option linter.unusedVariables false
set_option linter.unusedSimpArgs false
set_option maxRecDepth 100000
def vm0 : Vm := ⟨fun _ => 0, 0, false⟩
set_option maxHeartbeats 2000000 in
theorem vNew_any (w : World) : Calls Try.prog 30 #[] w fun e w' => e = .returned (ptr w.heap.size) ∧ VmAt w' w.heap.size vm0 ∧ Fr [] w w' := by
  have HF := Lib.hid (fun cs (h : cs = vcells vm0) => (show VmAt (w.alloc (.cells cs 134)) w.heap.size vm0 ∧ Fr [] w (w.alloc (.cells cs 134)) from ⟨⟨h ▸ Blk.new w 134 _, fun k => (show (0 : Int) ≤ 0 ∧ (0 : Int) < 4294967296 from by decide), (show (0 : Int) ≤ 0 ∧ (0 : Int) < 4294967296 from by decide)⟩, (Fr.refl [] w).alloc _⟩))
  go_enter Try.func30, Try.ntmps30
  go_wp2
  go_ret
  exact ⟨rfl, HF.out _ rfl⟩
section
variable {w : World} {v : Nat} {x : Vm}
theorem vPlace_any (h : VmAt w v x) : Calls Try.prog 38 #[ptr v] w fun e w' => e = .returned (.int .i64 x.pl) ∧ w = w' := by
  have c := h.place
  have k : 0 ≤ x.pl ∧ x.pl < 4294967296 := h.p
  clear h
  go_enter Try.func38, Try.ntmps38
  go_wp2
  go_ret
  exact ⟨rfl, rfl⟩
theorem vWaits_any (h : VmAt w v x) : Calls Try.prog 35 #[ptr v] w fun e w' => e = .returned (.bool x.wt) ∧ w = w' := by
  have c := h.waits
  clear h
  go_enter Try.func35, Try.ntmps35
  go_wp2
  go_ret
  exact ⟨rfl, rfl⟩
theorem vReg_in (h : VmAt w v x) (k : Nat) (hk : k < 16) : Calls Try.prog 36 #[ptr v, .int .i64 (k : Int)] w fun e w' => e = .returned (.int .i64 (x.r k)) ∧ w = w' := by
  have c := h.reg hk
  have kb : 0 ≤ x.r k ∧ x.r k < 4294967296 := h.r k
  have h1 : ¬ (k : Int) < 0 := by omega
  have h2 : ¬ (16 : Int) ≤ (k : Int) := by omega
  clear h
  go_enter Try.func36, Try.ntmps36
  go_wp2
  go_ret
  exact ⟨rfl, rfl⟩
theorem vReg_out (k : Int) (hk : k < 0 ∨ 16 ≤ k) : Calls Try.prog 36 #[ptr v, .int .i64 k] w fun e w' => e = .returned (.int .i64 0) ∧ w = w' := by
  by_cases h1 : k < 0
  · clear hk
    go_enter Try.func36, Try.ntmps36
    go_wp2
    go_ret
    exact ⟨rfl, rfl⟩
  · have h2 : (16 : Int) ≤ k := by omega
    clear hk
    go_enter Try.func36, Try.ntmps36
    go_wp2
    go_ret
    exact ⟨rfl, rfl⟩
/-- An answer: the first three registers. -/
def ansP (x : Vm) (l : Nat → Int) : Nat → Vm
  | 0 => x
  | j + 1 => putR (ansP x l j) j (l j % 4294967296)
def ansV (x : Vm) (l : Nat → Int) : Vm := putW (ansP x l 3) false
theorem vAnswer_no (h : VmAt w v x) (A : Option Addr) (n cap : Nat) (hn : x.wt = false ∨ n ≠ 3) : Calls Try.prog 33 #[ptr v, .slice A n cap] w fun e w' => e = .returned (.int .i64 100) ∧ w = w' := by
  have c := h.waits
  clear h
  cases hw : x.wt with
  | false =>
    rw [hw] at c
    clear hn hw
    go_enter Try.func33, Try.ntmps33
    go_wp2
    go_ret
    exact ⟨rfl, rfl⟩
  | true =>
    rw [hw] at c hn
    have h3 : ¬ (n : Int) = 3 := by simp at hn; omega
    have hb : ((n : Int) == 3) = false := beq_eq_false_iff_ne.2 h3
    have hb2 : ((n : Int) != 3) = true := by simpa using h3
    clear hn hw
    go_enter Try.func33, Try.ntmps33
    go_wp2
    go_ret
    exact ⟨rfl, rfl⟩
theorem vAnswer_yes (h : VmAt w v x) (b off cap : Nat) (l : Nat → Int) (hw : x.wt = true) (hl : ∀ j, j < 3 → w.cell? ⟨b, off + j, none⟩ = some (.int .i64 (l j))) (hbv : b ≠ v) : Calls Try.prog 33 #[ptr v, .slice (some ⟨b, off, none⟩) 3 cap] w fun e w' => e = .returned (.int .i64 0) ∧ VmAt w' v (ansV x l) ∧ Fr [v] w w' := by
  have c := h.waits
  rw [hw] at c
  have Hh := Lib.hid h
  have Hl := Lib.hid hl
  have hvl := h.lt
  clear h hl hw
  go_enter Try.func33, Try.ntmps33
  go_wp2
  go_loopg [19] 3 (fun gg i wr => ∃ j : Nat, j + gg = 3 ∧ i = .int .i64 (j : Int) ∧ VmAt wr v (ansP x l j) ∧ Fr [v] w wr)
  case atStart => exact ⟨0, by omega, rfl, Hh.out, Fr.refl _ _⟩
  case round =>
    obtain ⟨j, hj, rfl, hv, hf⟩ := hrel
    have Hj := Lib.hid hj
    have Hv := Lib.hid hv
    have Hf := Lib.hid hf
    by_cases hlt : j < 3
    · have hlt' : (j : Int) < 3 := by omega
      have hj0 : (0 : Int) ≤ (j : Int) := by omega
      have hj16 : (j : Int) < 16 := by omega
      have hwk : IntKind.i64.wrap ((j : Int) + 1) = (j : Int) + 1 := IntWalk.i64_in _ (by omega)
      have k0 := hf.cell_some (Hl.out j hlt) (by simpa using hbv)
      have k1 := hv.reg (k := j) (by omega)
      have kf := hv.frozen
      have HN := Lib.hid (hv.setR (k := j) (by omega) (n := l j % 4294967296) (by unfold u32b; omega))
      have HG := Lib.hid (hf.setCell (p := ⟨v, j, none⟩) (.inl (by simp)) (.int .u32 (l j % 4294967296)))
      clear hj hv hf
      go_wp2
      go_roundg (3 - (j + 1))
      case measure => have := Hj.out; omega
      case rel => exact ⟨j + 1, by have := Hj.out; omega, by go_num, HN.out, HG.out⟩
    · have hlt' : ¬ (j : Int) < 3 := by omega
      obtain rfl : j = 3 := by omega
      have k1 := hv.waits
      have kf := hv.frozen
      have HN := Lib.hid (hv.setW false)
      have HG := Lib.hid (hf.setCell (p := ⟨v, 17, none⟩) (.inl (by simp)) (.bool false))
      clear hj hv hf
      go_wp2
      go_ret
      exact ⟨rfl, HN.out, HG.out⟩
end
end Go.Proofs.Ytonongaakieciaa
