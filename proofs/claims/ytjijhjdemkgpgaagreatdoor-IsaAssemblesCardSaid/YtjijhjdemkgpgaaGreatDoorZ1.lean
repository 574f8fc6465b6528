/- The document's instructions: Form, has, Name, Check. -/
import Derived.Test.YtjijhjdemkgpgaaGreatDoorI3
import Derived.Test.YtjijhjdemkgpgaaGreatDoorI4
import Derived.Deep.LoopGhost
namespace Go.Proofs.YtjijhjdemkgpgaaGreatDoor
open Go.RowKit
set_option linter.unusedVariables false
set_option linter.unusedSimpArgs false
set_option maxRecDepth 100000
theorem ib_cons (b : UInt8) (l : List UInt8) (c : UInt8) : Lib.indexByte (b :: l) c = if b == c then 0 else if Lib.indexByte l c == -1 then -1 else Lib.indexByte l c + 1 := rfl
theorem ib_ge (c : UInt8) : ∀ l : List UInt8, -1 ≤ Lib.indexByte l c := by
  intro l
  induction l with
  | nil => exact Int.le_refl _
  | cons b l ih =>
    rw [ib_cons]
    split
    · omega
    · split <;> omega
theorem ibyte_iff (l : List UInt8) (c : UInt8) : (decide (0 ≤ Lib.indexByte l c)) = l.any (fun b => b == c) := by
  induction l with
  | nil => rfl
  | cons b l ih =>
    rw [List.any_cons, ← ih, ib_cons]
    by_cases h : b = c
    · simp [h]
    · have hb : (b == c) = false := beq_eq_false_iff_ne.2 h
      rw [hb, Bool.false_or]
      have h3 := ib_ge c l
      by_cases h2 : Lib.indexByte l c = -1
      · rw [h2]
        rfl
      · have h4 : (Lib.indexByte l c == -1) = false := beq_eq_false_iff_ne.2 h2
        rw [h4]
        simp only [Bool.false_eq_true, if_false]
        rw [decide_eq_decide]
        omega
theorem rHas_any (s : ByteArray) (c : UInt8) (hs : s.size ≤ 4096) (w : World) : Calls Tryz.prog 27 #[.string s, .int .u8 (c.toNat : Int)] w fun e w' => e = .returned (.bool (hasC s c)) ∧ w = w' := by
  have E : Hid (hasC s c = s.data.toList.any (fun b => b == c)) := Lib.hid (ibyte_iff _ _)
  have hsz : s.data.toList.length = s.size := rfl
  generalize hasC s c = R at *
  go_enter Tryz.func27, Tryz.ntmps27
  go_wp2
  go_loopg [5] s.size (fun gg i wr => ∃ j : Nat, j + gg = s.size ∧ i = .int .i64 (j : Int) ∧ ((s.data.toList.take j).any fun b => b == c) = false ∧ w = wr)
  case atStart => exact ⟨0, by omega, rfl, by simp, rfl⟩
  case round =>
    obtain ⟨j, hj, rfl, hall, rfl⟩ := hrel
    have Hj := Lib.hid hj
    by_cases hlt : j < s.size
    · have hlt1 : (j : Int) < (s.size : Int) := by omega
      have hj0 : (0 : Int) ≤ (j : Int) := by omega
      have hwk : IntKind.i64.wrap ((j : Int) + 1) = (j : Int) + 1 := IntWalk.i64_in _ (by omega)
      have hget : s.data.toList[j]? = some (s[j]'hlt) := List.getElem?_eq_getElem (by rw [hsz]; exact hlt)
      by_cases hb : (s[j]'hlt) = c
      · have HB : Hid (R = true) := Lib.hid (by
          rw [E.out, List.any_eq_true]
          exact ⟨_, List.mem_of_getElem? hget, by simpa using hb⟩)
        have hc : ∀ h, (s[j]'h) = c := fun _ => hb
        clear hj hall hget hb
        go_wp2
        go_ret
        exact ⟨by rw [HB.out]; rfl, rfl⟩
      · have HN : Hid (((s.data.toList.take (j + 1)).any fun b => b == c) = false) := Lib.hid (by
          rw [List.take_add_one, hget]
          simp only [List.any_append, hall, Option.toList_some, List.any_cons, List.any_nil, Bool.or_false, Bool.false_or]
          simpa using hb)
        obtain ⟨d, hd⟩ : ∃ d, (s[j]'hlt) = d := ⟨_, rfl⟩
        have hdc : ∀ h, (s[j]'h) = d := fun _ => hd
        rw [hd] at hb
        have hnn : ¬ (d.toNat : Int) = (c.toNat : Int) := fun e => hb (UInt8.toNat_inj.1 (by omega))
        have hnb : ((d.toNat : Int) == (c.toNat : Int)) = false := beq_eq_false_iff_ne.2 hnn
        clear hj hall hget hb hd
        go_wp2
        go_roundg (s.size - (j + 1))
        case measure => have := Hj.out; omega
        case rel => exact ⟨j + 1, by have := Hj.out; omega, by go_num, HN.out, rfl⟩
    · have hlt1 : ¬ (j : Int) < (s.size : Int) := by omega
      have HB : Hid (R = false) := Lib.hid (by
        rw [List.take_of_length_le (by rw [hsz]; omega)] at hall
        rw [E.out]
        exact hall)
      clear hj hall
      go_wp2
      go_ret
      exact ⟨by rw [HB.out]; rfl, rfl⟩
set_option maxHeartbeats 4000000 in
theorem rForm_any (k : Nat) (hk : k < 30) (w : World) : Calls Tryz.prog 28 #[.int .i64 (k : Int)] w fun e w' => e = .returned (.string (fm k)) ∧ w = w' := by
  rcases (by omega : k = 0 ∨ k = 1 ∨ k = 2 ∨ k = 3 ∨ k = 4 ∨ k = 5 ∨ k = 6 ∨ k = 7 ∨ k = 8 ∨ k = 9 ∨ k = 10 ∨ k = 11 ∨ k = 12 ∨ k = 13 ∨ k = 14 ∨ k = 15 ∨ k = 16 ∨ k = 17 ∨ k = 18 ∨ k = 19 ∨ k = 20 ∨ k = 21 ∨ k = 22 ∨ k = 23 ∨ k = 24 ∨ k = 25 ∨ k = 26 ∨ k = 27 ∨ k = 28 ∨ k = 29) with rfl | rfl | rfl | rfl | rfl | rfl | rfl | rfl | rfl | rfl | rfl | rfl | rfl | rfl | rfl | rfl | rfl | rfl | rfl | rfl | rfl | rfl | rfl | rfl | rfl | rfl | rfl | rfl | rfl | rfl <;> (
    go_enter Tryz.func28, Tryz.ntmps28
    go_wp2
    go_ret
    exact ⟨rfl, rfl⟩)
theorem nm_cell (k : Nat) (hk : k < 30) (w : World) : (w.alloc (.cells #[.string ⟨#[110, 111, 112]⟩, .string ⟨#[115, 116, 111, 112]⟩, .string ⟨#[115, 101, 116]⟩, .string ⟨#[104, 105, 103, 104]⟩, .string ⟨#[109, 111, 118, 101]⟩, .string ⟨#[97, 100, 100]⟩, .string ⟨#[115, 117, 98]⟩, .string ⟨#[109, 117, 108]⟩, .string ⟨#[100, 105, 118]⟩, .string ⟨#[114, 101, 109]⟩, .string ⟨#[97, 110, 100]⟩, .string ⟨#[111, 114]⟩, .string ⟨#[120, 111, 114]⟩, .string ⟨#[110, 111, 116]⟩, .string ⟨#[115, 104, 108]⟩, .string ⟨#[115, 104, 114]⟩, .string ⟨#[108, 101, 115, 115]⟩, .string ⟨#[98, 101, 108, 111, 119]⟩, .string ⟨#[115, 97, 109, 101]⟩, .string ⟨#[112, 108, 117, 115]⟩, .string ⟨#[103, 101, 116, 49]⟩, .string ⟨#[103, 101, 116, 52]⟩, .string ⟨#[112, 117, 116, 49]⟩, .string ⟨#[112, 117, 116, 52]⟩, .string ⟨#[106, 117, 109, 112]⟩, .string ⟨#[122, 101, 114, 111]⟩, .string ⟨#[115, 111, 109, 101]⟩, .string ⟨#[116, 111]⟩, .string ⟨#[99, 97, 108, 108]⟩, .string ⟨#[97, 115, 107]⟩] 9)).cell? ⟨w.heap.size, k, none⟩ = some (.string (nm k)) := by
  rw [(Blk.new w 9 _).cell]
  rcases (by omega : k = 0 ∨ k = 1 ∨ k = 2 ∨ k = 3 ∨ k = 4 ∨ k = 5 ∨ k = 6 ∨ k = 7 ∨ k = 8 ∨ k = 9 ∨ k = 10 ∨ k = 11 ∨ k = 12 ∨ k = 13 ∨ k = 14 ∨ k = 15 ∨ k = 16 ∨ k = 17 ∨ k = 18 ∨ k = 19 ∨ k = 20 ∨ k = 21 ∨ k = 22 ∨ k = 23 ∨ k = 24 ∨ k = 25 ∨ k = 26 ∨ k = 27 ∨ k = 28 ∨ k = 29) with rfl | rfl | rfl | rfl | rfl | rfl | rfl | rfl | rfl | rfl | rfl | rfl | rfl | rfl | rfl | rfl | rfl | rfl | rfl | rfl | rfl | rfl | rfl | rfl | rfl | rfl | rfl | rfl | rfl | rfl <;> rfl
set_option maxHeartbeats 4000000 in
theorem rName_any (k : Nat) (hk : k < 30) (w : World) : Calls Tryz.prog 26 #[.int .i64 (k : Int)] w fun e w' => e = .returned (.string (nm k)) ∧ Fr [] w w' := by
  have hc := nm_cell k hk w
  have HF := Lib.hid (fun o => (Fr.refl [] w).alloc o)
  have h0 : ¬ (k : Int) < 0 := by omega
  have h1 : ¬ (30 : Int) ≤ (k : Int) := by omega
  have h2 : (k : Int) < 30 := by omega
  have h3 : (0 : Int) ≤ (k : Int) := by omega
  generalize nm k = N at *
  go_enter Tryz.func26, Tryz.ntmps26
  go_wp2
  go_ret
  exact ⟨rfl, HF.out _⟩
theorem rName_no (k : Int) (hk : k < 0 ∨ 30 ≤ k) (w : World) : Calls Tryz.prog 26 #[.int .i64 k] w fun e w' => e = .returned (.string ⟨#[]⟩) ∧ Fr [] w w' := by
  have HF := Lib.hid (fun o => (Fr.refl [] w).alloc o)
  by_cases h : k < 0
  · clear hk
    go_enter Tryz.func26, Tryz.ntmps26
    go_wp2
    go_ret
    exact ⟨rfl, HF.out _⟩
  · have h1 : (30 : Int) ≤ k := by omega
    clear hk
    go_enter Tryz.func26, Tryz.ntmps26
    go_wp2
    go_ret
    exact ⟨rfl, HF.out _⟩
theorem ret_int {a b : Int} (h : a = b) : Ending.returned (.int .i64 a) = Ending.returned (.int .i64 b) := by rw [h]
theorem fm_us (k : Nat) (hk : k < 30) : hasU (fm k) = (hasC (fm k) 117 || hasC (fm k) 115) ∧ (hasC (fm k) 117 && hasC (fm k) 115) = false ∧ (fm k).size ≤ 4096 := by
  have : ∀ k, k < 30 → hasU (fm k) = (hasC (fm k) 117 || hasC (fm k) 115) ∧ (hasC (fm k) 117 && hasC (fm k) 115) = false ∧ (fm k).size ≤ 4096 := by decide
  exact this k hk
theorem nm_some (k : Nat) (hk : k < 30) : (nm k).toList.isEmpty = false := by
  have : ∀ k, k < 30 → (nm k).data.toList.isEmpty = false := by decide
  have e : (nm k).toList = (nm k).data.toList := Lib.toList_data _
  rw [e]
  exact this k hk
def okA (C : Bool) (a : Int) : Bool := decide (0 ≤ a) && decide (a ≤ 15) && (C || decide (a = 0))
theorem okA_fits (C : Bool) (a : Int) : okA C a = fitsB C a 0 15 := by
  unfold okA fitsB
  cases C <;> by_cases h : a = 0 <;> by_cases h1 : 0 ≤ a <;> by_cases h2 : a ≤ 15 <;> simp [h, h1, h2] <;> omega
set_option maxHeartbeats 8000000 in
theorem rCheck_in (i : In) (k : Nat) (hk : k < 30) (hop : i.op = (k : Int)) (w : World) : Calls Tryz.prog 16 #[i.v] w fun e w' => e = .returned (.int .i64 (if okI i k then 0 else 90)) ∧ Fr [] w w' := by
  obtain ⟨op, a, b, m⟩ := i
  simp only at hop
  subst hop
  have HN := Lib.hid (fun W => rName_any k hk W)
  have HFo := Lib.hid (fun W => rForm_any k hk W)
  have hne := nm_some k hk
  obtain ⟨u1, u2, u3⟩ := fm_us k hk
  have HH := Lib.hid (fun c W => rHas_any (fm k) c u3 W)
  have HA := Lib.hid (fun W => (show Calls Tryz.prog 27 #[.string (fm k), .int .u8 97] W fun e w' => e = .returned (.bool (hasC (fm k) 97)) ∧ W = w' from HH.out 97 W))
  have HBc := Lib.hid (fun W => (show Calls Tryz.prog 27 #[.string (fm k), .int .u8 98] W fun e w' => e = .returned (.bool (hasC (fm k) 98)) ∧ W = w' from HH.out 98 W))
  have HU := Lib.hid (fun W => (show Calls Tryz.prog 27 #[.string (fm k), .int .u8 117] W fun e w' => e = .returned (.bool (hasC (fm k) 117)) ∧ W = w' from HH.out 117 W))
  have HS := Lib.hid (fun W => (show Calls Tryz.prog 27 #[.string (fm k), .int .u8 115] W fun e w' => e = .returned (.bool (hasC (fm k) 115)) ∧ W = w' from HH.out 115 W))
  have hB1 : BxI w.heap.size ⟨k, a, b, m⟩ (w.alloc (.cells #[.int .i64 (k : Int), .int .i64 a, .int .i64 b, .int .i64 m] 23)) := ⟨by rw [(Blk.new _ _ _).cell]; rfl, by rw [(Blk.new _ _ _).cell]; rfl, by rw [(Blk.new _ _ _).cell]; rfl⟩
  have HB0 := Lib.hid (Blk.new w 23 #[.int .i64 (k : Int), .int .i64 a, .int .i64 b, .int .i64 m])
  have H0 : Hid (Fr [] w (w.alloc (.cells #[.int .i64 (k : Int), .int .i64 a, .int .i64 b, .int .i64 m] 23))) := Lib.hid ((Fr.refl [] w).alloc _)
  unfold okI
  rw [u1, ← okA_fits, ← okA_fits]
  unfold okA fitsB
  simp only
  generalize hasC (fm k) 97 = C1 at *
  generalize hasC (fm k) 98 = C2 at *
  generalize hasC (fm k) 117 = C3 at *
  generalize hasC (fm k) 115 = C4 at *
  generalize fm k = F at *
  generalize nm k = N at *
  clear hB1 HH u1 u3 hk
  cases C3 <;> cases C4 <;> (try (exact absurd u2 (by decide))) <;> cases C1 <;> cases C2 <;> (
    clear u2
    simp only [Bool.or_false, Bool.or_true, Bool.false_or, Bool.true_or, Bool.not_false, Bool.not_true, Bool.true_and, Bool.false_and, if_true, if_false, Bool.false_eq_true, Bool.and_true]
    go_enter Tryz.func16, Tryz.ntmps16
    go_wp2_with (first
      | (go_at_call 26; refine (HN.out _).mono ?_; rintro e w1 ⟨rfl, hf⟩; have H1 := Lib.hid (H0.out.trans hf); have HB1 := Lib.hid (HB0.out.fr hf (by simp)); clear hf; have c0 : w1.cell? ⟨w.heap.size, 0, none⟩ = some (.int .i64 (k : Int)) := HB1.out.cell 0; have c1 : w1.cell? ⟨w.heap.size, 1, none⟩ = some (.int .i64 a) := HB1.out.cell 1; have c2 : w1.cell? ⟨w.heap.size, 2, none⟩ = some (.int .i64 b) := HB1.out.cell 2; have c3 : w1.cell? ⟨w.heap.size, 3, none⟩ = some (.int .i64 m) := HB1.out.cell 3)
      | (go_at_call 28; refine (HFo.out _).mono ?_; rintro e w2 ⟨rfl, rfl⟩)
      | (go_at_call 27; (with_reducible refine (HA.out _).mono ?_); rintro e w2 ⟨rfl, rfl⟩)
      | (go_at_call 27; (with_reducible refine (HBc.out _).mono ?_); rintro e w2 ⟨rfl, rfl⟩)
      | (go_at_call 27; (with_reducible refine (HU.out _).mono ?_); rintro e w2 ⟨rfl, rfl⟩)
      | (go_at_call 27; (with_reducible refine (HS.out _).mono ?_); rintro e w2 ⟨rfl, rfl⟩)
      | fail)
    all_goals
      go_ret
      refine ⟨ret_int ?_, H1.out⟩
      simp_all
      try omega)
end Go.Proofs.YtjijhjdemkgpgaaGreatDoor
