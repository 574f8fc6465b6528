/- The document's Digits. -/
import Derived.Test.YtjijhjdemkgpgaaGreatDoorZ2
import Derived.Test.YtjijhjdemkgpgaaGreatDoorN1
import Derived.Test.YtjijhjdemkgpgaaGreatDoorI22
namespace Go.Proofs.YtjijhjdemkgpgaaGreatDoor
open Go.RowKit
set_option linter.unusedVariables false
set_option linter.unusedSimpArgs false
set_option maxRecDepth 100000
def ddI (m : Nat) : List UInt8 := if m = 0 then [] else Lib.decDigits m
theorem dec_step (u : Nat) : Lib.decDigits u = ddI (u / 10) ++ [UInt8.ofNat (48 + u % 10)] := by
  unfold ddI
  by_cases h : u < 10
  · rw [decDigits_small h, if_pos (by omega), Nat.mod_eq_of_lt h]
    rfl
  · rw [decDigits_big h, if_neg (by omega)]
def DInv (N : Nat) (m : Int) (s : List UInt8) : Prop := (s = [] ∧ m.natAbs = N) ∨ (s ≠ [] ∧ Lib.decDigits N = ddI m.natAbs ++ s)
theorem dinv_step {N : Nat} {m : Int} {s : List UInt8} (h : DInv N m s) (hc : m ≠ 0 ∨ s = []) : DInv N (m.tdiv 10) (UInt8.ofNat (48 + m.natAbs % 10) :: s) := by
  refine .inr ⟨by simp, ?_⟩
  have e : (m.tdiv 10).natAbs = m.natAbs / 10 := Int.natAbs_tdiv m 10
  rw [e]
  rcases h with ⟨rfl, hN⟩ | ⟨hs, hN⟩
  · rw [← hN, dec_step]
  · have hm : m ≠ 0 := by
      rcases hc with h | h
      · exact h
      · exact absurd h hs
    have h2 : ddI m.natAbs = Lib.decDigits m.natAbs := by
      unfold ddI
      rw [if_neg (by omega)]
    rw [hN, h2, dec_step m.natAbs, List.append_assoc]
    rfl
theorem dinv_len {N : Nat} {m : Int} {s : List UInt8} (h : DInv N m s) (hN : N < 10000000000000000000) : s.length ≤ 19 := by
  have h1 := (decDigits_len (u := N) (k := 19) (by omega)).2 (by omega)
  rcases h with ⟨rfl, -⟩ | ⟨-, h⟩
  · exact Nat.zero_le _
  · have h2 := congrArg List.length h
    rw [List.length_append] at h2
    omega
theorem run_str1 {w : World} {g : Nat} {n0 : Int} (hb : Blk w g 5 #[.int .u8 n0]) : (convert 37 9 (.slice (some ⟨g, 0, none⟩) 1 1)).run Tryz.prog w = .ok (.string ⟨#[UInt8.ofNat n0.toNat]⟩) w := by
  rw [run_convert_bytes_string w 37 9 5 _ 1 1 Tryz.underlying37 Tryz.underlying5 Tryz.underlying9]
  have h := run_bytesToString w ⟨g, 0, none⟩ 1 1 [n0] (P := Tryz.prog) ?_
  · rw [h]
    rfl
  refine run_loadCells_list w _ [Value.int .u8 n0] ?_
  intro j v h
  match j, h with
  | 0, h => cases h; exact hb.cell 0
  | n + 1, h => simp at h
set_option maxHeartbeats 4000000 in
theorem rDigits_any (n : Int) (h0 : -9223372036854775808 ≤ n) (h1 : n ≤ 9223372036854775807) (w : World) : Calls Tryz.prog 45 #[.int .i64 n] w fun e w' => e = .returned (.string ⟨(Lib.itoa n).toArray⟩) ∧ Fr [] w w' := by
  obtain ⟨N, hN⟩ : ∃ N, N = n.natAbs := ⟨_, rfl⟩
  have HN := Lib.hid hN
  have hNb : N < 10000000000000000000 := by omega
  have HNb := Lib.hid hNb
  have HI : Hid (Lib.itoa n = if n < 0 then 45 :: Lib.decDigits N else Lib.decDigits N) := Lib.hid (by
    unfold Lib.itoa
    rw [hN]
    by_cases h : n < 0
    · rw [if_pos h, if_pos h]
    · rw [if_neg h, if_neg h, show n.toNat = n.natAbs by omega])
  generalize Lib.itoa n = R at *
  have HR0 := Lib.hid (Fr.refl [] w)
  clear hN hNb
  have Hb := Lib.hid (And.intro h0 h1)
  clear h0 h1
  go_enter Tryz.func45, Tryz.ntmps45
  go_wp2_with fail
  go_loopg [3, 4, 5] (N + 1) (fun gg v3 v4 v5 wr => ∃ (m : Int) (s : List UInt8), m.natAbs + (if s = [] then 1 else 0) = gg ∧ v4 = .int .i64 m ∧ v3 = .string ⟨s.toArray⟩ ∧ -9223372036854775808 ≤ m ∧ m ≤ 9223372036854775807 ∧ DInv N m s ∧ Fr [] w wr)
  case atStart => exact ⟨n, [], by rw [if_pos rfl, HN.out], rfl, rfl, Hb.out.1, Hb.out.2, .inl ⟨rfl, HN.out.symm⟩, HR0.out⟩
  case round =>
    obtain ⟨m, s, hm, rfl, rfl, hm0, hm1, hd, hf⟩ := hrel
    have Hm := Lib.hid hm
    have Hf := Lib.hid hf
    have Hd := Lib.hid hd
    have hln := dinv_len hd HNb.out
    clear hm hf
    by_cases hc : m ≠ 0 ∨ s = []
    · have HC := Lib.hid hc
      have HS := Lib.hid (dinv_step hd hc)
      obtain ⟨d, hd2⟩ : ∃ d : Int, m.tmod 10 = d := ⟨_, rfl⟩
      have hda : d.natAbs = m.natAbs % 10 := by rw [← hd2]; exact Int.natAbs_tmod m 10
      obtain ⟨q, hq⟩ : ∃ q : Int, m.tdiv 10 = q := ⟨_, rfl⟩
      have hqa : q.natAbs = m.natAbs / 10 := by rw [← hq]; exact Int.natAbs_tdiv m 10
      have hqb : -9223372036854775808 ≤ q ∧ q ≤ 9223372036854775807 := by omega
      have hqw : IntKind.i64.wrap q = q := IntWalk.i64_in _ (by omega)
      rw [hq, ← hda] at HS
      have hM : q.natAbs + (if (UInt8.ofNat (48 + d.natAbs) :: s) = [] then 1 else 0) < m.natAbs + (if s = [] then 1 else 0) := by
        rw [if_neg (by simp)]
        rcases hc with h | h
        · split <;> omega
        · rw [if_pos h]; omega
      have HM := Lib.hid hM
      have hdb : d.natAbs < 10 := by omega
      obtain ⟨S, hS⟩ : ∃ S : ByteArray, S = ⟨s.toArray⟩ := ⟨_, rfl⟩
      have hSs : S.size = s.length := by rw [hS]; rfl
      have hcat : (⟨#[UInt8.ofNat (48 + d.natAbs)]⟩ : ByteArray) ++ S = ⟨(UInt8.ofNat (48 + d.natAbs) :: s).toArray⟩ := by
        rw [hS]
        exact bcat [UInt8.ofNat (48 + d.natAbs)] s
      have HCat := Lib.hid hcat
      have l1 : ¬ 9223372036854775807 < 1 + S.size := by omega
      have hSe : S.toList.isEmpty = decide (s = []) := by
        rw [hS, Lib.toList_data]
        cases s <;> simp
      have Hq := Lib.hid (And.intro hqb hqa)
      rw [← hS]
      clear hm0 hm1 hd hS hcat hSs hln hM hqa hqb hda
      by_cases hneg : d < 0
      · skip
        have e1 : (d.natAbs : Int) = -d := by omega
        have e2 : IntKind.i64.wrap (48 + -d) = 48 + -d := IntWalk.i64_in _ (by omega)
        have e3 : IntKind.i64.wrap (-d) = -d := IntWalk.i64_in _ (by omega)
        have HC2 : Hid ((⟨#[UInt8.ofNat (48 + -d).toNat]⟩ : ByteArray) ++ S = ⟨(UInt8.ofNat (48 + d.natAbs) :: s).toArray⟩) := Lib.hid (by
          rw [show (48 + -d).toNat = 48 + d.natAbs by omega]
          exact HCat.out)
        have HF2 := Lib.hid (fun o => Hf.out.alloc o)
        have hz : m ≠ 0 := fun h => by rw [h] at hd2; rw [← hd2] at hneg; exact absurd hneg (by decide)
        have HH := Lib.hid hz
        clear hc hSe
        skip
        · skip
          go_wp2_with fail
          rw [run_str1 (Blk.new wr 5 _)]
          go_wp2_with fail
          rw [HC2.out]
          go_roundg (q.natAbs + (if (UInt8.ofNat (48 + d.natAbs) :: s) = [] then 1 else 0))
          case measure => have := HM.out; have := Hm.out; omega
          case rel => exact ⟨q, UInt8.ofNat (48 + d.natAbs) :: s, rfl, rfl, rfl, Hq.out.1.1, Hq.out.1.2, HS.out, HF2.out _⟩
      · skip
        have e1 : (d.natAbs : Int) = d := by omega
        have e2 : IntKind.i64.wrap (48 + d) = 48 + d := IntWalk.i64_in _ (by omega)
        have HC2 : Hid ((⟨#[UInt8.ofNat (48 + d).toNat]⟩ : ByteArray) ++ S = ⟨(UInt8.ofNat (48 + d.natAbs) :: s).toArray⟩) := Lib.hid (by
          rw [show (48 + d).toNat = 48 + d.natAbs by omega]
          exact HCat.out)
        have HF2 := Lib.hid (fun o => Hf.out.alloc o)
        by_cases hz : m = 0
        · have hs : s = [] := by
            rcases hc with h | h
            · exact absurd hz h
            · exact h
          have z1 : (m != 0) = false := by rw [hz]; rfl
          have z2 : S.toList.isEmpty = true := by rw [hSe, hs]; rfl
          have z3 : S.toList = [] := List.isEmpty_iff.1 z2
          have z4 : (S.toList == []) = true := by rw [z3]; rfl
          have hd0 : d = 0 := by rw [← hd2, hz]; rfl
          have hq0 : q = 0 := by rw [← hq, hz]; rfl
          have HC3 : Hid ((⟨#[48]⟩ : ByteArray) ++ S = ⟨(UInt8.ofNat (48 + d.natAbs) :: s).toArray⟩) := Lib.hid (by
            have h := HC2.out
            rw [hd0] at h ⊢
            exact h)
          have HD0 := Lib.hid hd0
          have HQ0 := Lib.hid hq0
          clear hc hSe hs
          go_wp2_with fail
          rw [run_str1 (Blk.new wr 5 _)]
          go_wp2_with fail
          rw [HC3.out]
          go_roundg (q.natAbs + (if (UInt8.ofNat (48 + d.natAbs) :: s) = [] then 1 else 0))
          case measure => have := HM.out; have := Hm.out; omega
          case rel => exact ⟨q, UInt8.ofNat (48 + d.natAbs) :: s, rfl, by rw [HQ0.out], rfl, Hq.out.1.1, Hq.out.1.2, HS.out, HF2.out _⟩
        · clear hc hSe
          go_wp2_with fail
          rw [run_str1 (Blk.new wr 5 _)]
          go_wp2_with fail
          rw [HC2.out]
          go_roundg (q.natAbs + (if (UInt8.ofNat (48 + d.natAbs) :: s) = [] then 1 else 0))
          case measure => have := HM.out; have := Hm.out; omega
          case rel => exact ⟨q, UInt8.ofNat (48 + d.natAbs) :: s, rfl, rfl, rfl, Hq.out.1.1, Hq.out.1.2, HS.out, HF2.out _⟩
    · have hm0' : m = 0 := by omega
      have hs : s ≠ [] := fun e => hc (.inr e)
      have hD : Lib.decDigits N = s := by
        rcases hd with ⟨h, -⟩ | ⟨-, h⟩
        · exact absurd h hs
        · rw [h, hm0']; rfl
      rw [hD] at HI
      have hSe : (⟨s.toArray⟩ : ByteArray).toList.isEmpty = false := by
        rw [Lib.toList_data]
        cases s with
        | nil => exact absurd rfl hs
        | cons a b => rfl
      have hz : ((⟨s.toArray⟩ : ByteArray).toList == []) = false := by
        rw [Lib.toList_data]
        cases s with
        | nil => exact absurd rfl hs
        | cons a b => rfl
      have hcat : (⟨#[45]⟩ : ByteArray) ++ ⟨s.toArray⟩ = ⟨(45 :: s).toArray⟩ := bcat [45] s
      have l1 : ¬ 9223372036854775807 < 1 + s.length := by omega
      subst hm0'
      have hz2 : (⟨s.toArray⟩ : ByteArray).toList ≠ [] := by
        rw [Lib.toList_data]
        exact hs
      have hz3 : (⟨s.toArray⟩ : ByteArray).size = s.length := rfl
      obtain ⟨S, hS⟩ : ∃ S : ByteArray, S = ⟨s.toArray⟩ := ⟨_, rfl⟩
      rw [← hS] at hSe hz hz2 hz3 hcat
      have l2 : ¬ 9223372036854775807 < 1 + S.size := by rw [hz3]; exact l1
      have HS := Lib.hid hS
      have HCat := Lib.hid hcat
      rw [← hS]
      clear hm0 hm1 hd hD hc hS hcat hz3
      by_cases hn : n < 0
      · have hR : R = 45 :: s := by rw [HI.out, if_pos hn]
        have HR := Lib.hid hR
        clear hR
        go_wp2_with fail
        go_ret
        exact ⟨by rw [HR.out, ← HCat.out]; rfl, Hf.out⟩
      · have hR : R = s := by rw [HI.out, if_neg hn]
        have HR := Lib.hid hR
        clear hR
        go_wp2_with fail
        go_ret
        exact ⟨by rw [HR.out, ← HS.out]; rfl, Hf.out⟩
end Go.Proofs.YtjijhjdemkgpgaaGreatDoor
