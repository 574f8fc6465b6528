/- The document's Label. -/
import Derived.Test.YtjijhjdemkgpgaaGreatDoorStr
import Derived.Test.YtjijhjdemkgpgaaGreatDoorL1
namespace Go.Proofs.YtjijhjdemkgpgaaGreatDoor
open Go.RowKit
set_option linter.unusedVariables false
set_option linter.unusedSimpArgs false
set_option maxRecDepth 100000
def labP : List UInt8 → Bool
  | [] => true
  | b :: r => isLc b && r.all isLd
def LbB (d : UInt8) (j : Nat) : Prop := ((97 : Int) ≤ (d.toNat : Int) ∧ (d.toNat : Int) ≤ 122) ∨ ((0 : Int) < (j : Int) ∧ (48 : Int) ≤ (d.toNat : Int) ∧ (d.toNat : Int) ≤ 57)
theorem isLc_iff (d : UInt8) : isLc d = true ↔ (97 ≤ d.toNat ∧ d.toNat ≤ 122) := by
  unfold isLc
  simp
theorem isLd_iff (d : UInt8) : isLd d = true ↔ (97 ≤ d.toNat ∧ d.toNat ≤ 122) ∨ (48 ≤ d.toNat ∧ d.toNat ≤ 57) := by
  unfold isLd
  rw [Bool.or_eq_true, isLc_iff]
  simp
theorem labP_snoc (x : List UInt8) (d : UInt8) : labP (x ++ [d]) = true ↔ labP x = true ∧ LbB d x.length := by
  unfold LbB
  cases x with
  | nil =>
    simp only [List.nil_append, labP, List.all_nil, Bool.and_true, isLc_iff, List.length_nil, true_and]
    omega
  | cons b r =>
    simp only [List.cons_append, labP, List.all_append, List.all_cons, List.all_nil, Bool.and_true, Bool.and_eq_true, isLd_iff, List.length_cons]
    constructor
    · rintro ⟨h1, h2, h3⟩
      exact ⟨⟨h1, h2⟩, by omega⟩
    · rintro ⟨⟨h1, h2⟩, h3⟩
      exact ⟨h1, h2, by omega⟩
theorem labP_take (l : List UInt8) (j : Nat) (h : labP (l.take j) = false) : labP l = false := by
  cases l with
  | nil => simp [labP] at h
  | cons b r =>
    cases j with
    | zero => simp [labP] at h
    | succ n =>
      simp only [List.take_succ_cons, labP, Bool.and_eq_false_iff] at h ⊢
      rcases h with h | h
      · exact .inl h
      · refine .inr ?_
        rw [List.all_eq_false] at h ⊢
        obtain ⟨x, hx, hp⟩ := h
        exact ⟨x, List.mem_of_mem_take hx, hp⟩
theorem isLab_iff (l : List UInt8) : isLab l = (labP l && decide (l ≠ []) && decide (l.length ≤ 12)) := by
  cases l with
  | nil => rfl
  | cons b r =>
    simp only [isLab, labP, List.length_cons]
    have h1 : decide (b :: r ≠ []) = true := by simp
    have h2 : decide (r.length + 1 ≤ 12) = decide (r.length ≤ 11) := by
      rw [decide_eq_decide]
      omega
    rw [h1, h2, Bool.and_true]
set_option maxHeartbeats 8000000 in
theorem rLabel_any (s : ByteArray) (hs : s.size ≤ 281474976710656) (w : World) : Calls Tryz.prog 42 #[.string s] w fun e w' => e = .returned (.bool (isLab s.data.toList)) ∧ w = w' := by
  have E : Hid (isLab s.data.toList = (labP s.data.toList && decide (s.data.toList ≠ []) && decide (s.data.toList.length ≤ 12))) := Lib.hid (isLab_iff _)
  have hsz : s.data.toList.length = s.size := rfl
  generalize isLab s.data.toList = R at *
  have HS := Lib.hid hs
  clear hs
  go_enter Tryz.func42, Tryz.ntmps42
  go_wp2
  go_loopg [3] s.size (fun gg i wr => ∃ j : Nat, j + gg = s.size ∧ i = .int .i64 (j : Int) ∧ labP (s.data.toList.take j) = true ∧ w = wr)
  case atStart => exact ⟨0, by omega, rfl, by simp [labP], rfl⟩
  case round =>
    obtain ⟨j, hj, rfl, hall, rfl⟩ := hrel
    have Hj := Lib.hid hj
    by_cases hlt : j < s.size
    · have hlt1 : (j : Int) < (s.size : Int) := by omega
      have hj0 : (0 : Int) ≤ (j : Int) := by omega
      have hwk : IntKind.i64.wrap ((j : Int) + 1) = (j : Int) + 1 := IntWalk.i64_in _ (by have := HS.out; omega)
      have hget : s.data.toList[j]? = some (s[j]'hlt) := List.getElem?_eq_getElem (by rw [hsz]; exact hlt)
      obtain ⟨d, hd⟩ : ∃ d, (s[j]'hlt) = d := ⟨_, rfl⟩
      have hdc : ∀ h, (s[j]'h) = d := fun _ => hd
      rw [hd] at hget
      have htk : s.data.toList.take (j + 1) = s.data.toList.take j ++ [d] := by
        rw [List.take_add_one, hget]
        rfl
      have hln : (s.data.toList.take j).length = j := by
        rw [List.length_take, hsz]
        omega
      have HX : Hid (labP (s.data.toList.take (j + 1)) = true ↔ LbB d j) := Lib.hid (by
        rw [htk, labP_snoc, hln]
        exact ⟨fun h => h.2, fun h => ⟨hall, h⟩⟩)
      have HR : Hid (¬ LbB d j → R = false) := Lib.hid (fun hn => by
        have h1 : labP (s.data.toList.take (j + 1)) = false := by
          cases hc : labP (s.data.toList.take (j + 1)) with
          | false => rfl
          | true => exact absurd (HX.out.1 hc) hn
        rw [E.out, labP_take _ _ h1]
        rfl)
      clear hj hall hget hd htk hln
      by_cases q1 : (97 : Int) ≤ (d.toNat : Int) <;> by_cases q2 : (d.toNat : Int) ≤ 122 <;> by_cases q3 : (48 : Int) ≤ (d.toNat : Int) <;> by_cases q4 : (d.toNat : Int) ≤ 57 <;> by_cases q5 : (0 : Int) < (j : Int) <;> first
        | (exfalso; omega)
        | (have HL : Hid (LbB d j) := Lib.hid (by unfold LbB; omega)
           go_wp2
           go_roundg (s.size - (j + 1))
           case measure => have := Hj.out; omega
           case rel => exact ⟨j + 1, by have := Hj.out; omega, by go_num, HX.out.2 HL.out, rfl⟩)
        | (have HL : Hid (¬ LbB d j) := Lib.hid (by unfold LbB; omega)
           go_wp2
           go_ret
           exact ⟨by rw [HR.out HL.out]; rfl, rfl⟩)
    · have hlt1 : ¬ (j : Int) < (s.size : Int) := by omega
      have hP : labP s.data.toList = true := by
        rw [List.take_of_length_le (by rw [hsz]; omega)] at hall
        exact hall
      have HP := Lib.hid hP
      have e1 : (true && decide (s.data.toList ≠ []) && decide (s.data.toList.length ≤ 12)) = (!s.toList.isEmpty && decide ((s.size : Int) ≤ 12)) := by
        rw [ByteArray.toList_eq, hsz]
        have a1 : decide (s.data.toList ≠ []) = !s.data.toList.isEmpty := by
          cases s.data.toList <;> simp
        have a2 : decide (s.size ≤ 12) = decide ((s.size : Int) ≤ 12) := by
          rw [decide_eq_decide]
          omega
        rw [a1, a2, Bool.true_and]
      have E1 := Lib.hid e1
      clear hP hall hj e1
      go_wp2
      · rename_i hq
        have hq' : s.toList.isEmpty = true := by simpa using hq
        go_ret
        refine ⟨?_, rfl⟩
        rw [E.out, HP.out, E1.out, hq']
        rfl
      · go_ret
        refine ⟨?_, rfl⟩
        rw [E.out, HP.out, E1.out]
        rfl
end Go.Proofs.YtjijhjdemkgpgaaGreatDoor
