/- four, of the program. word, of the program. -/
import Derived.Test.YtbmaecdlkchkeaaGreatDoorI4
import Derived.Test.YtbmaecdlkchkeaaGreatDoorI6
import Derived.Test.YtbmaecdlkchkeaaGreatDoorLb
namespace Go.Proofs.YtbmaecdlkchkeaaGreatDoor
open Go.RowKit
set_option linter.unusedVariables false
set_option linter.unusedSimpArgs false
set_option maxRecDepth 100000
theorem four_of (n : Nat) : bs4 ((n : Int) / 16777216 % 256) ((n : Int) / 65536 % 256) ((n : Int) / 256 % 256) ((n : Int) % 256) = ⟨(fourB n).toArray⟩ := by
  have e0 : ∀ c0 c1 c2 c3 : Int, bs4 c0 c1 c2 c3 = ⟨#[UInt8.ofNat c0.toNat, UInt8.ofNat c1.toNat, UInt8.ofNat c2.toNat, UInt8.ofNat c3.toNat]⟩ := fun _ _ _ _ => rfl
  have h1 : ((n : Int) / 16777216 % 256).toNat = n / 16777216 % 256 := by omega
  have h2 : ((n : Int) / 65536 % 256).toNat = n / 65536 % 256 := by omega
  have h3 : ((n : Int) / 256 % 256).toNat = n / 256 % 256 := by omega
  have h4 : ((n : Int) % 256).toNat = n % 256 := by omega
  rw [e0, h1, h2, h3, h4]
  rfl
theorem four_any (n : Nat) (hn : n < 9223372036854775808) (w : World) : Calls Tryz.prog 24 #[.int .i64 (n : Int)] w fun e w' => e = .returned (.string ⟨(fourB n).toArray⟩) ∧ Fr [] w w' := by
  have hE := four_of n
  have H0 := Lib.hid (fun o => (Fr.refl [] w).alloc o)
  go_enter Tryz.func24, Tryz.ntmps24
  go_wp2_with fail
  rw [run_str4 (Blk.new w 5 _)]
  rw [hE]
  go_wp2_with fail
  go_ret
  exact ⟨rfl, H0.out _⟩
end Go.Proofs.YtbmaecdlkchkeaaGreatDoor
namespace Go.Proofs.YtbmaecdlkchkeaaGreatDoor
open Go.RowKit
set_option linter.unusedVariables false
set_option linter.unusedSimpArgs false
set_option maxRecDepth 100000
def preW : List UInt8 := [119, 111, 114, 100, 32]
theorem pre_take (s : List UInt8) : Lib.hasPrefix s preW = decide (s.take 5 = preW) := by
  have h : Lib.hasPrefix s preW = true ↔ s.take 5 = preW := by
    unfold Lib.hasPrefix
    rw [List.isPrefixOf_iff_prefix, List.prefix_iff_eq_take]
    exact eq_comm
  cases hc : Lib.hasPrefix s preW with
  | true => rw [decide_eq_true (h.1 hc)]
  | false => rw [decide_eq_false (fun e => by rw [h.2 e] at hc; cases hc)]
theorem word_fin {B : Bool} {N : Option Int} {R : Option Nat} {v : Int} (hK : R = if B = true then (match N with | some n => if 0 ≤ n ∧ n < 4294967296 then some n.toNat else none | none => none) else none) (hV : ∀ n, N = some n → v = n) : R.isSome = (B && (N.isSome && (decide (0 ≤ v) && decide (v < 4294967296)))) ∧ ∀ n : Nat, R = some n → v = n := by
  subst hK
  cases B with
  | false => exact ⟨rfl, fun n h => by simp at h⟩
  | true =>
    cases N with
    | none => exact ⟨rfl, fun n h => by simp at h⟩
    | some m =>
      obtain rfl := hV m rfl
      by_cases h : 0 ≤ v ∧ v < 4294967296
      · refine ⟨?_, fun n e => ?_⟩
        · simp [h.1, h.2]
        · simp [h.1, h.2] at e
          omega
      · refine ⟨?_, fun n e => ?_⟩
        · simp only [if_true, if_neg h]
          by_cases h1 : 0 ≤ v
          · have h2 : ¬ v < 4294967296 := fun e => h ⟨h1, e⟩
            simp [h1, h2]
          · simp [h1]
        · simp only [if_true, if_neg h] at e
          cases e
set_option maxHeartbeats 4000000 in
theorem word_any (s : ByteArray) (hs : s.size ≤ 281474976710656) (w : World) (hw : Std w) : Calls Tryz.prog 20 #[.string s] w fun e w' => Fr [] w w' ∧ ∃ v : Int, e = .returned (.tuple #[.int .i64 v, .bool (wordK s.data.toList).isSome]) ∧ (∀ n, wordK s.data.toList = some n → v = n) := by
  have hC := Tryz.strings_CutPrefix s ⟨#[119, 111, 114, 100, 32]⟩
  have hdl : (⟨(Lib.trimPrefix s.data.toList preW).toArray⟩ : ByteArray).size ≤ 281474976710656 := by
    show (Lib.trimPrefix s.data.toList preW).length ≤ _
    have hl : s.data.toList.length = s.size := rfl
    unfold Lib.trimPrefix
    split
    · rw [List.length_drop]
      omega
    · omega
  have hK : ∀ b, Lib.hasPrefix s.data.toList preW = b → wordK s.data.toList = if b = true then (match numP (Lib.trimPrefix s.data.toList preW) with | some n => if 0 ≤ n ∧ n < 4294967296 then some n.toNat else none | none => none) else none := by
    intro b hb
    have hb2 := hb
    rw [pre_take] at hb2
    unfold wordK Lib.trimPrefix
    rw [hb]
    cases b with
    | true =>
      have := of_decide_eq_true hb2
      rw [show s.data.toList.take 5 = [119, 111, 114, 100, 32] from this]
      rfl
    | false =>
      have := of_decide_eq_false hb2
      rw [if_neg (show ¬ s.data.toList.take 5 = [119, 111, 114, 100, 32] from this)]
      simp
  have HS := Lib.hid hw
  change ∀ w, Calls _ _ _ w (fun e w' => e = .returned (.tuple #[.string ⟨(Lib.trimPrefix s.data.toList preW).toArray⟩, .bool (Lib.hasPrefix s.data.toList preW)]) ∧ w' = w) at hC
  have HN := Lib.hid (number_any ⟨(Lib.trimPrefix s.data.toList preW).toArray⟩ hdl)
  have HC := Lib.hid hC
  have HK := Lib.hid (hK _ rfl)
  clear hC hK hdl
  generalize Lib.hasPrefix s.data.toList preW = B at *
  generalize hD : Lib.trimPrefix s.data.toList preW = D at *
  generalize wordK s.data.toList = R at *
  clear hD
  change Hid (∀ w, Std w → Calls _ _ _ w (fun e w' => Fr [] w w' ∧ ∃ v : Int, e = .returned (.tuple #[.int .i64 v, .bool (numP D).isSome]) ∧ (∀ n, numP D = some n → v = n))) at HN
  generalize numP D = N at *
  go_enter Tryz.func20, Tryz.ntmps20
  go_wp2_with (first
    | (go_at_call 50; refine (HC.out _).mono ?_; rintro e w1 ⟨rfl, rfl⟩)
    | (go_at_call 51; refine (HN.out _ HS.out).mono ?_; rintro e w2 ⟨hf, v, rfl, hv⟩; have HV := Lib.hid hv; have HF := Lib.hid hf; clear hv hf)
    | fail)
  all_goals
    go_ret2
    have hf := word_fin HK.out HV.out
    refine ⟨HF.out, v, ?_, hf.2⟩
    rw [hf.1]
    simp_all
    try (intros; omega)
end Go.Proofs.YtbmaecdlkchkeaaGreatDoor
