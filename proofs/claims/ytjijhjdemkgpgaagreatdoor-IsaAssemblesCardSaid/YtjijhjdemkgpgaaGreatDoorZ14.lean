/- The document's find, four. -/
import Derived.Test.YtjijhjdemkgpgaaGreatDoorZ11
namespace Go.Proofs.YtjijhjdemkgpgaaGreatDoor
open Go.RowKit
set_option linter.unusedVariables false
set_option linter.unusedSimpArgs false
set_option maxRecDepth 100000
theorem four_ofR (n : Nat) : bs4 (bits .and .i64 ((n : Int) / 16777216) 255 % 256) (bits .and .i64 ((n : Int) / 65536) 255 % 256) (bits .and .i64 ((n : Int) / 256) 255 % 256) (bits .and .i64 (n : Int) 255 % 256) = ⟨(fourB n).toArray⟩ := by
  rw [and255, and255, and255, and255]
  exact four_of n
set_option maxHeartbeats 4000000 in
theorem rFour_any (n : Nat) (hn : n < 9223372036854775808) (w : World) : Calls Tryz.prog 44 #[.int .i64 (n : Int)] w fun e w' => e = .returned (.string ⟨(fourB n).toArray⟩) ∧ Fr [] w w' := by
  have hE := Lib.hid (four_ofR n)
  have H0 := Lib.hid (fun o => (Fr.refl [] w).alloc o)
  go_enter Tryz.func44, Tryz.ntmps44
  go_wp2_with fail
  rw [run_str4 (Blk.new w 5 _)]
  rw [hE.out]
  go_wp2_with fail
  go_ret
  exact ⟨rfl, H0.out _⟩
/-- The places, as they lie. -/
def PlAt (W : World) (g : Nat) (pl : Pl) : Prop := ∀ (j : Nat) (p : List UInt8 × Nat), pl[j]? = some p → W.cell? ⟨g, j * 2, none⟩ = some (.string ⟨p.1.toArray⟩) ∧ W.cell? ⟨g, j * 2 + 1, none⟩ = some (.int .i64 (p.2 : Int))
def findI (pl : Pl) (l : List UInt8) : Int := match findP pl l with | some a => (a : Int) | none => -1
theorem findP_skip {pl : Pl} {l : List UInt8} : ∀ {k : Nat}, (∀ j, j < k → ∀ p, pl[j]? = some p → p.1 ≠ l) → findP pl l = findP (pl.drop k) l := by
  intro k
  induction k generalizing pl with
  | zero => intro _; rfl
  | succ k ih =>
    intro h
    cases pl with
    | nil => rfl
    | cons p r =>
      have h0 : p.1 ≠ l := h 0 (by omega) p rfl
      have e : findP (p :: r) l = findP r l := by
        unfold findP
        rw [List.find?_cons_of_neg (by simpa using h0)]
      rw [e]
      exact ih (fun j hj q hq => h (j + 1) (by omega) q hq)
set_option maxHeartbeats 8000000 in
theorem rFind_any (pl : Pl) (l : List UInt8) (g cap : Nat) (w : World) (h : PlAt w g pl) (hn : pl.length ≤ 1000000) : Calls Tryz.prog 43 #[.slice (some ⟨g, 0, none⟩) pl.length cap, .string ⟨l.toArray⟩] w fun e w' => e = .returned (.int .i64 (findI pl l)) ∧ w = w' := by
  have HP := Lib.hid h
  have HN := Lib.hid hn
  obtain ⟨T, hT⟩ : ∃ T : ByteArray, T = ⟨l.toArray⟩ := ⟨_, rfl⟩
  have hTl : T.toList = l := by rw [hT]; exact Lib.toList_data _
  rw [← hT]
  obtain ⟨R, hR⟩ : ∃ R, R = findI pl l := ⟨_, rfl⟩
  rw [← hR]
  have HR := Lib.hid hR
  clear h hn hT hR
  go_enter Tryz.func43, Tryz.ntmps43
  go_wp2_with fail
  go_loopg [5] pl.length (fun gg v5 wr => ∃ k : Nat, k + gg = pl.length ∧ v5 = .int .i64 (k : Int) ∧ (∀ j, j < k → ∀ p, pl[j]? = some p → p.1 ≠ l) ∧ w = wr)
  case atStart => exact ⟨0, by omega, rfl, fun j hj => by omega, rfl⟩
  case round =>
    obtain ⟨k, hk, rfl, hno, rfl⟩ := hrel
    have Hk := Lib.hid hk
    have HNo := Lib.hid hno
    by_cases hlt : k < pl.length
    · obtain ⟨⟨s, a⟩, hp⟩ : ∃ p, pl[k]? = some p := ⟨_, List.getElem?_eq_getElem hlt⟩
      have hp2 := hp
      have hlt1 : (k : Int) < (pl.length : Int) := by omega
      have hk0 : (0 : Int) ≤ (k : Int) := by omega
      have hwk : IntKind.i64.wrap ((k : Int) + 1) = (k : Int) + 1 := IntWalk.i64_in _ (by have := HN.out; omega)
      obtain ⟨c0, c1⟩ := HP.out k (s, a) hp
      simp only at c0 c1
      obtain ⟨S, hS⟩ : ∃ S : ByteArray, S = ⟨s.toArray⟩ := ⟨_, rfl⟩
      rw [← hS] at c0
      have hSl : S.toList = s := by rw [hS]; exact Lib.toList_data _
      have Hp := Lib.hid hp
      clear hk hno hp hp2 hS
      by_cases hq : s = l
      · have hq1 : (s == l) = true := beq_iff_eq.2 hq
        have HF : Hid (R = (a : Int)) := Lib.hid (by
          rw [HR.out]
          unfold findI
          rw [findP_skip HNo.out, List.drop_eq_getElem_cons hlt]
          have e : pl[k] = (s, a) := (List.getElem?_eq_some_iff.1 Hp.out).2
          rw [e]
          unfold findP
          rw [List.find?_cons_of_pos (by simpa using hq)]
          rfl)
        clear hq
        go_wp2_with fail
        go_ret
        exact ⟨by rw [HF.out]; rfl, rfl⟩
      · have hq1 : (s == l) = false := beq_eq_false_iff_ne.2 hq
        have HQ := Lib.hid hq
        clear hq
        go_wp2_with fail
        go_roundg (pl.length - (k + 1))
        case measure => have := Hk.out; omega
        case rel => exact ⟨k + 1, by have := Hk.out; omega, by go_num, fun j hj p hp => by
          by_cases hjk : j = k
          · subst hjk
            have e := Hp.out.symm.trans hp
            injection e with e
            rw [← e]
            exact HQ.out
          · exact HNo.out j (by omega) p hp, rfl⟩
    · have hlt1 : ¬ (k : Int) < (pl.length : Int) := by omega
      have HF : Hid (R = -1) := Lib.hid (by
        rw [HR.out]
        unfold findI
        rw [findP_skip hno, List.drop_eq_nil_of_le (by omega)]
        rfl)
      clear hk hno hlt
      go_wp2_with fail
      go_ret
      exact ⟨by rw [HF.out]; rfl, rfl⟩
end Go.Proofs.YtjijhjdemkgpgaaGreatDoor
