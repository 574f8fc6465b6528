/- The document's Number. -/
import Derived.Test.YtjijhjdemkgpgaaGreatDoorZ6
namespace Go.Proofs.YtjijhjdemkgpgaaGreatDoor
open Go.RowKit
set_option linter.unusedVariables false
set_option linter.unusedSimpArgs false
set_option maxRecDepth 100000
/-- So far a number. -/
def NPre (l : List UInt8) (j : Nat) : Prop := (∀ b ∈ l.take j, isDig b) ∧ j ≤ 10 ∧ (2 ≤ j → l.head?.map (·.toNat) ≠ some 48)
theorem npre_step {l : List UInt8} {j : Nat} {d : UInt8} (hd : l[j]? = some d) (h : NPre l j) : NPre l (j + 1) ↔ isDig d ∧ j ≤ 9 ∧ ¬ (j = 1 ∧ l.head?.map (·.toNat) = some 48) := by
  have e : l.take (j + 1) = l.take j ++ [d] := by rw [List.take_add_one, hd]; rfl
  unfold NPre at *
  rw [e]
  obtain ⟨h1, h2, h3⟩ := h
  constructor
  · rintro ⟨a, b, c⟩
    exact ⟨a d (by simp), by omega, fun ⟨k, k2⟩ => c (by omega) k2⟩
  · rintro ⟨a, b, c⟩
    refine ⟨fun x hx => ?_, by omega, fun k k2 => ?_⟩
    · rcases List.mem_append.1 hx with hx | hx
      · exact h1 x hx
      · rw [List.mem_singleton] at hx
        rw [hx]
        exact a
    · by_cases hj : j = 1
      · exact c ⟨hj, k2⟩
      · exact h3 (by omega) k2
theorem npre_no {l : List UInt8} {j : Nat} (hj : j ≤ l.length) (h : ¬ NPre l j) : numR l = none := by
  unfold numR
  rw [if_neg]
  rintro ⟨h1, h2, h3, h4⟩
  apply h
  refine ⟨fun b hb => ?_, by omega, fun k => h4 (by omega)⟩
  simpa using List.all_eq_true.1 h3 b (List.mem_of_mem_take hb)
theorem npre_yes {l : List UInt8} (h : NPre l l.length) : numR l = if l = [] then none else some (dval 0 l) := by
  obtain ⟨h1, h2, h3⟩ := h
  rw [List.take_length] at h1
  unfold numR
  by_cases hl : l = []
  · rw [if_pos hl, if_neg (fun h => h.1 hl)]
  · rw [if_neg hl, if_pos ⟨hl, h2, List.all_eq_true.2 (fun b hb => by simpa using h1 b hb), h3⟩]
theorem npre_val {l : List UInt8} {j : Nat} (h : NPre l j) : dval 0 (l.take j) < 10000000000 := by
  obtain ⟨h1, h2, -⟩ := h
  have a := dval_lt (l.take j) 0 h1
  have b : (l.take j).length ≤ 10 := by rw [List.length_take]; omega
  have c : 10 ^ (l.take j).length ≤ 10 ^ 10 := Nat.pow_le_pow_right (by omega) b
  have d : (10 : Nat) ^ 10 = 10000000000 := by decide
  rw [d] at c
  omega
set_option maxHeartbeats 8000000 in
theorem rNumber_any (s : ByteArray) (hs : s.size ≤ 281474976710656) (w : World) : Calls Tryz.prog 41 #[.string s] w fun e w' => e = .returned (.tuple #[.int .i64 (((numR s.data.toList).getD 0 : Nat) : Int), .bool (numR s.data.toList).isSome]) ∧ w = w' := by
  have hsz : s.data.toList.length = s.size := rfl
  have HN : Hid (∀ j, j ≤ s.size → ¬ NPre s.data.toList j → numR s.data.toList = none) := Lib.hid (fun j hj => npre_no (by omega))
  have HY : Hid (NPre s.data.toList s.size → numR s.data.toList = if s.data.toList = [] then none else some (dval 0 s.data.toList)) := Lib.hid (fun h => npre_yes h)
  generalize numR s.data.toList = R at *
  have HS := Lib.hid hs
  clear hs
  go_enter Tryz.func41, Tryz.ntmps41
  go_wp2_with fail
  go_loopg [4, 5] s.size (fun gg v4 v5 wr => ∃ j : Nat, j + gg = s.size ∧ v5 = .int .i64 (j : Int) ∧ v4 = .int .i64 ((dval 0 (s.data.toList.take j) : Nat) : Int) ∧ NPre s.data.toList j ∧ w = wr)
  case atStart => exact ⟨0, by omega, rfl, rfl, ⟨by simp, by omega, by omega⟩, rfl⟩
  case round =>
    obtain ⟨j, hj, rfl, rfl, hp, rfl⟩ := hrel
    have Hj := Lib.hid hj
    have hv := npre_val hp
    have HP := Lib.hid hp
    by_cases hlt : j < s.size
    · have hlt1 : (j : Int) < (s.size : Int) := by omega
      have hj0 : (0 : Int) ≤ (j : Int) := by omega
      have h00 : 0 < s.size := by omega
      have h01 : (0 : Int) < (s.size : Int) := by omega
      have hwk : IntKind.i64.wrap ((j : Int) + 1) = (j : Int) + 1 := IntWalk.i64_in _ (by have := HS.out; omega)
      obtain ⟨d, hd⟩ : ∃ d, s.data.toList[j]? = some d := ⟨_, List.getElem?_eq_getElem (by omega)⟩
      obtain ⟨c, hc⟩ : ∃ c, s.data.toList[0]? = some c := ⟨_, List.getElem?_eq_getElem (by omega)⟩
      have hdc := bget (S := s) rfl hd
      have hcc := bget (S := s) rfl hc
      have hhd : s.data.toList.head?.map (·.toNat) = some c.toNat := by rw [List.head?_eq_getElem?, hc]; rfl
      have hst := npre_step hd hp
      rw [hhd] at hst
      have hdv : dval 0 (s.data.toList.take (j + 1)) = 10 * dval 0 (s.data.toList.take j) + (d.toNat - 48) := by
        rw [List.take_add_one, hd]
        exact dval_snoc _ _ _
      have HDv := Lib.hid hdv
      have hdb := d.toNat_lt
      by_cases hq : NPre s.data.toList (j + 1)
      · have HQ := Lib.hid hq
        obtain ⟨⟨g1, g2⟩, g3, g4⟩ := hst.1 hq
        have hvn := npre_val hq
        rw [hdv] at hvn
        have q1 : (48 : Int) ≤ (d.toNat : Int) := by omega
        have q2 : (d.toNat : Int) ≤ 57 := by omega
        have q3 : (j : Int) ≤ 9 := by omega
        generalize dval 0 (s.data.toList.take j) = V at *
        have w1 : IntKind.i64.wrap (10 * (V : Int)) = 10 * (V : Int) := IntWalk.i64_in _ (by omega)
        have w2 : IntKind.i64.wrap (10 * (V : Int) + ((d.toNat : Int) - 48)) = 10 * (V : Int) + ((d.toNat : Int) - 48) := IntWalk.i64_in _ (by omega)
        have w3 : ((d.toNat : Int) - 48) % 256 = (d.toNat : Int) - 48 := by omega
        have hz : (10 * (V : Int) + ((d.toNat : Int) - 48)) = ((10 * V + (d.toNat - 48) : Nat) : Int) := by omega
        have HZ := Lib.hid hz
        by_cases hj1 : j = 1
        · have hj1' : (j : Int) = 1 := by omega
          have hc48 : ¬ c.toNat = 48 := fun h => g4 ⟨hj1, by rw [h]⟩
          have hc49 : ¬ (c.toNat : Int) = 48 := by omega
          have hc50 : ((c.toNat : Int) == 48) = false := beq_eq_false_iff_ne.2 hc49
          clear hj hp hst hhd hd hc hdv hq g1 g2 g3 g4 hvn hv hdb hc48 hz
          subst hj1
          go_wp2_with fail
          go_roundg (s.size - (1 + 1))
          case measure => have := Hj.out; omega
          case rel => exact ⟨1 + 1, by have := Hj.out; omega, by go_num, by rw [HDv.out, ← HZ.out], HQ.out, rfl⟩
        · have hj1' : ((j : Int) == 1) = false := beq_eq_false_iff_ne.2 (by omega)
          have hj2' : ¬ (j : Int) = 1 := by omega
          clear hj hp hst hhd hd hc hdv hq g1 g2 g3 g4 hvn hv hdb hz
          go_wp2_with fail
          go_roundg (s.size - (j + 1))
          case measure => have := Hj.out; omega
          case rel => exact ⟨j + 1, by have := Hj.out; omega, by go_num, by rw [HDv.out, ← HZ.out], HQ.out, rfl⟩
      · have hR : R = none := HN.out (j + 1) (by omega) hq
        subst hR
        have hno : ¬ (isDig d ∧ j ≤ 9 ∧ ¬ (j = 1 ∧ some c.toNat = some 48)) := fun h => hq (hst.2 h)
        unfold isDig at hno
        clear hst hhd hd hc hdv hq hv hp hj HN HY
        have hv0 : True := trivial
        by_cases q1 : (48 : Int) ≤ (d.toNat : Int)
        · by_cases q2 : (d.toNat : Int) ≤ 57
          · by_cases q3 : (j : Int) ≤ 9
            · have hj1 : j = 1 := by
                apply Decidable.byContradiction
                intro h
                exact hno ⟨⟨by omega, by omega⟩, by omega, fun h2 => h h2.1⟩
              have hc1 : (c.toNat : Int) = 48 := by
                apply Decidable.byContradiction
                intro h
                refine hno ⟨⟨by omega, by omega⟩, by omega, fun h2 => h ?_⟩
                have := Option.some.inj h2.2
                omega
              subst hj1
              clear hno
              go_wp2_with fail
              go_ret2
              exact ⟨rfl, rfl⟩
            · clear hno
              go_wp2_with fail
              go_ret2
              exact ⟨rfl, rfl⟩
          · clear hno
            go_wp2_with fail
            go_ret2
            exact ⟨rfl, rfl⟩
        · clear hno
          go_wp2_with fail
          go_ret2
          exact ⟨rfl, rfl⟩
    · obtain rfl : j = s.size := by omega
      have hlt1 : ¬ (s.size : Int) < (s.size : Int) := by omega
      have hR := HY.out hp
      have htk : s.data.toList.take s.size = s.data.toList := List.take_of_length_le (by omega)
      rw [htk]
      have hE : s.toList = s.data.toList := ByteArray.toList_eq _
      cases hl : s.data.toList with
      | nil =>
        rw [hl, if_pos rfl] at hR
        subst hR
        rw [hl] at hE
        have hE2 : s.toList.isEmpty = true := by rw [hE]; rfl
        have hE3 : (s.toList != []) = false := by rw [hE]; rfl
        clear HN HY hp hv hl htk hj hlt
        go_wp2_with fail
        go_ret2
        exact ⟨rfl, rfl⟩
      | cons a r =>
        rw [hl, if_neg (by simp)] at hR
        subst hR
        have hE2 : s.toList.isEmpty = false := by rw [hE, hl]; rfl
        have hE3 : (s.toList != []) = true := by rw [hE, hl]; rfl
        clear HN HY hp hv hl htk hj hlt hE
        go_wp2_with fail
        go_ret2
        exact ⟨rfl, rfl⟩
end Go.Proofs.YtjijhjdemkgpgaaGreatDoor
