/- label, of the program: the walk. -/
import Derived.Test.YtjijhjdemkgpgaaGreatDoorI11
namespace Go.Proofs.YtjijhjdemkgpgaaGreatDoor
open Go.RowKit
set_option linter.unusedVariables false
set_option linter.unusedSimpArgs false
set_option maxRecDepth 100000
theorem Idx_lc (b : UInt8) (w : World) : Calls Tryz.prog 54 #[.string ⟨#[97, 98, 99, 100, 101, 102, 103, 104, 105, 106, 107, 108, 109, 110, 111, 112, 113, 114, 115, 116, 117, 118, 119, 120, 121, 122]⟩, .int .u8 (b.toNat : Int)] w fun e w' => e = .returned (.int .i64 (Lib.indexByte lcL b)) ∧ w' = w := by
  refine (Tryz.strings_IndexByte ⟨#[97, 98, 99, 100, 101, 102, 103, 104, 105, 106, 107, 108, 109, 110, 111, 112, 113, 114, 115, 116, 117, 118, 119, 120, 121, 122]⟩ (b.toNat : Int) w).mono ?_
  rintro e w' ⟨rfl, rfl⟩
  have h : ((b.toNat : Int)).toNat.toUInt8 = b := by simp
  rw [h]
  exact ⟨rfl, rfl⟩
set_option maxHeartbeats 4000000 in
theorem label_any (s : ByteArray) (hs : s.size ≤ 281474976710656) (w : World) : Calls Tryz.prog 36 #[.string s] w fun e w' => e = .returned (.bool (isLab s.data.toList)) ∧ Fr [] w w' := by
  cases hl : s.data.toList with
  | nil =>
    obtain rfl : s = ⟨#[]⟩ := by
      cases s with
      | mk x => congr 1; exact Array.toList_inj.1 hl
    go_enter Tryz.func36, Tryz.ntmps36
    go_wp2
    go_ret
    exact ⟨rfl, Fr.refl _ _⟩
  | cons b r =>
    have hsz : s.data.toList.length = s.size := rfl
    have h0 : 0 < s.size := by rw [← hsz, hl]; simp
    have h0i : (0 : Int) < (s.size : Int) := by omega
    have hz : ¬ s.toList = [] := by rw [ByteArray.toList_eq, hl]; simp
    have hb0 : ∀ h, (s[0]'h) = b := fun h => by
      have e : s.data.toList[0]? = some (s[0]'h) := List.getElem?_eq_getElem (by exact h)
      rw [hl] at e
      injection e with e
      exact e.symm
    have E := Lib.hid (isLab_is b r)
    rw [← hl, hsz] at E
    have e12 : decide (s.size ≤ 12) = decide ((s.size : Int) ≤ 12) := by
      rw [decide_eq_decide]
      omega
    rw [e12] at E
    have HI := Lib.hid (fun W => Idx_lc b W)
    have HT := Lib.hid (fun W => Trim_ld s hs W)
    have hR : isLab (b :: r) = isLab s.data.toList := by rw [hl]
    rw [hR]
    clear hR
    have HZ : Hid (s.toList.isEmpty = false) := Lib.hid (by simpa using hz)
    generalize isLab s.data.toList = R at *
    generalize Lib.indexByte lcL b = I at *
    generalize Lib.trimS s.data.toList ldL = T at *
    clear hl
    go_enter Tryz.func36, Tryz.ntmps36
    go_wp2_with (first
      | (go_at_call 54; refine (HI.out _).mono ?_; rintro e w1 ⟨rfl, rfl⟩)
      | (go_at_call 55; refine (HT.out _).mono ?_; rintro e w2 ⟨rfl, hf⟩; have HF := Lib.hid hf; clear hf)
      | fail)
    all_goals
      go_ret
      refine ⟨?_, by first | exact HF.out | exact Fr.refl _ _⟩
      have hz9 := HZ.out
      rw [E.out]
      cases T <;> simp_all <;> (try (intros; omega))
end Go.Proofs.YtjijhjdemkgpgaaGreatDoor
