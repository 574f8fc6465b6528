/- The document's instructions: Form, has, Name. The document's instructions: Check. The document's instructions: Encode. The law's own small functions: place. The law's bytes: a program's text from its instructions. -/
import Derived.Test.YtonongaakieciaaI3
import Derived.Deep.LoopGhost
namespace Go.Proofs.Ytonongaakieciaa
open Go.RowKit
set_option linter.unusedVariables false
set_option linter.unusedSimpArgs false
set_option maxRecDepth 100000
theorem ib_cons (b : UInt8) (l : List UInt8) (c : UInt8) : Lib.indexByte (b :: l) c = if b == c then 0 else if Lib.indexByte l c == -1 then -1 else Lib.indexByte l c + 1 := rfl
theorem ib_ge (c : UInt8) : ∀ l : List UInt8, -1 ≤ Lib.indexByte l c := by
  intro l
  induction l with
  | nil => exact Int.le_refl _
  | cons b l ih =>
    rw [ib_cons]
    split
    · omega
    · split <;> omega
theorem ibyte_iff (l : List UInt8) (c : UInt8) : (decide (0 ≤ Lib.indexByte l c)) = l.any (fun b => b == c) := by
  induction l with
  | nil => rfl
  | cons b l ih =>
    rw [List.any_cons, ← ih, ib_cons]
    by_cases h : b = c
    · simp [h]
    · have hb : (b == c) = false := beq_eq_false_iff_ne.2 h
      rw [hb, Bool.false_or]
      have h3 := ib_ge c l
      by_cases h2 : Lib.indexByte l c = -1
      · rw [h2]
        rfl
      · have h4 : (Lib.indexByte l c == -1) = false := beq_eq_false_iff_ne.2 h2
        rw [h4]
        simp only [Bool.false_eq_true, if_false]
        rw [decide_eq_decide]
        omega
theorem rHas_any (s : ByteArray) (c : UInt8) (hs : s.size ≤ 4096) (w : World) : Calls Try.prog 112 #[.string s, .int .u8 (c.toNat : Int)] w fun e w' => e = .returned (.bool (hasC s c)) ∧ w = w' := by
  have E : Hid (hasC s c = s.data.toList.any (fun b => b == c)) := Lib.hid (ibyte_iff _ _)
  have hsz : s.data.toList.length = s.size := rfl
  generalize hasC s c = R at *
  go_enter Try.func112, Try.ntmps112
  go_wp2
  go_loopg [5] s.size (fun gg i wr => ∃ j : Nat, j + gg = s.size ∧ i = .int .i64 (j : Int) ∧ ((s.data.toList.take j).any fun b => b == c) = false ∧ w = wr)
  case atStart => exact ⟨0, by omega, rfl, by simp, rfl⟩
  case round =>
    obtain ⟨j, hj, rfl, hall, rfl⟩ := hrel
    have Hj := Lib.hid hj
    by_cases hlt : j < s.size
    · have hlt1 : (j : Int) < (s.size : Int) := by omega
      have hj0 : (0 : Int) ≤ (j : Int) := by omega
      have hwk : IntKind.i64.wrap ((j : Int) + 1) = (j : Int) + 1 := IntWalk.i64_in _ (by omega)
      have hget : s.data.toList[j]? = some (s[j]'hlt) := List.getElem?_eq_getElem (by rw [hsz]; exact hlt)
      by_cases hb : (s[j]'hlt) = c
      · have HB : Hid (R = true) := Lib.hid (by
          rw [E.out, List.any_eq_true]
          exact ⟨_, List.mem_of_getElem? hget, by simpa using hb⟩)
        have hc : ∀ h, (s[j]'h) = c := fun _ => hb
        clear hj hall hget hb
        go_wp2
        go_ret
        exact ⟨by rw [HB.out]; rfl, rfl⟩
      · have HN : Hid (((s.data.toList.take (j + 1)).any fun b => b == c) = false) := Lib.hid (by
          rw [List.take_add_one, hget]
          simp only [List.any_append, hall, Option.toList_some, List.any_cons, List.any_nil, Bool.or_false, Bool.false_or]
          simpa using hb)
        obtain ⟨d, hd⟩ : ∃ d, (s[j]'hlt) = d := ⟨_, rfl⟩
        have hdc : ∀ h, (s[j]'h) = d := fun _ => hd
        rw [hd] at hb
        have hnn : ¬ (d.toNat : Int) = (c.toNat : Int) := fun e => hb (UInt8.toNat_inj.1 (by omega))
        have hnb : ((d.toNat : Int) == (c.toNat : Int)) = false := beq_eq_false_iff_ne.2 hnn
        clear hj hall hget hb hd
        go_wp2
        go_roundg (s.size - (j + 1))
        case measure => have := Hj.out; omega
        case rel => exact ⟨j + 1, by have := Hj.out; omega, by go_num, HN.out, rfl⟩
    · have hlt1 : ¬ (j : Int) < (s.size : Int) := by omega
      have HB : Hid (R = false) := Lib.hid (by
        rw [List.take_of_length_le (by rw [hsz]; omega)] at hall
        rw [E.out]
        exact hall)
      clear hj hall
      go_wp2
      go_ret
      exact ⟨by rw [HB.out]; rfl, rfl⟩
set_option maxHeartbeats 4000000 in
theorem rForm_any (k : Nat) (hk : k < 30) (w : World) : Calls Try.prog 111 #[.int .i64 (k : Int)] w fun e w' => e = .returned (.string (fm k)) ∧ w = w' := by
  rcases (by omega : k = 0 ∨ k = 1 ∨ k = 2 ∨ k = 3 ∨ k = 4 ∨ k = 5 ∨ k = 6 ∨ k = 7 ∨ k = 8 ∨ k = 9 ∨ k = 10 ∨ k = 11 ∨ k = 12 ∨ k = 13 ∨ k = 14 ∨ k = 15 ∨ k = 16 ∨ k = 17 ∨ k = 18 ∨ k = 19 ∨ k = 20 ∨ k = 21 ∨ k = 22 ∨ k = 23 ∨ k = 24 ∨ k = 25 ∨ k = 26 ∨ k = 27 ∨ k = 28 ∨ k = 29) with rfl | rfl | rfl | rfl | rfl | rfl | rfl | rfl | rfl | rfl | rfl | rfl | rfl | rfl | rfl | rfl | rfl | rfl | rfl | rfl | rfl | rfl | rfl | rfl | rfl | rfl | rfl | rfl | rfl | rfl <;> (
    go_enter Try.func111, Try.ntmps111
    go_wp2
    go_ret
    exact ⟨rfl, rfl⟩)
theorem nm_cell (k : Nat) (hk : k < 30) (w : World) : (w.alloc (.cells #[.string ⟨#[110, 111, 112]⟩, .string ⟨#[115, 116, 111, 112]⟩, .string ⟨#[115, 101, 116]⟩, .string ⟨#[104, 105, 103, 104]⟩, .string ⟨#[109, 111, 118, 101]⟩, .string ⟨#[97, 100, 100]⟩, .string ⟨#[115, 117, 98]⟩, .string ⟨#[109, 117, 108]⟩, .string ⟨#[100, 105, 118]⟩, .string ⟨#[114, 101, 109]⟩, .string ⟨#[97, 110, 100]⟩, .string ⟨#[111, 114]⟩, .string ⟨#[120, 111, 114]⟩, .string ⟨#[110, 111, 116]⟩, .string ⟨#[115, 104, 108]⟩, .string ⟨#[115, 104, 114]⟩, .string ⟨#[108, 101, 115, 115]⟩, .string ⟨#[98, 101, 108, 111, 119]⟩, .string ⟨#[115, 97, 109, 101]⟩, .string ⟨#[112, 108, 117, 115]⟩, .string ⟨#[103, 101, 116, 49]⟩, .string ⟨#[103, 101, 116, 52]⟩, .string ⟨#[112, 117, 116, 49]⟩, .string ⟨#[112, 117, 116, 52]⟩, .string ⟨#[106, 117, 109, 112]⟩, .string ⟨#[122, 101, 114, 111]⟩, .string ⟨#[115, 111, 109, 101]⟩, .string ⟨#[116, 111]⟩, .string ⟨#[99, 97, 108, 108]⟩, .string ⟨#[97, 115, 107]⟩] 9)).cell? ⟨w.heap.size, k, none⟩ = some (.string (nm k)) := by
  rw [(Blk.new w 9 _).cell]
  rcases (by omega : k = 0 ∨ k = 1 ∨ k = 2 ∨ k = 3 ∨ k = 4 ∨ k = 5 ∨ k = 6 ∨ k = 7 ∨ k = 8 ∨ k = 9 ∨ k = 10 ∨ k = 11 ∨ k = 12 ∨ k = 13 ∨ k = 14 ∨ k = 15 ∨ k = 16 ∨ k = 17 ∨ k = 18 ∨ k = 19 ∨ k = 20 ∨ k = 21 ∨ k = 22 ∨ k = 23 ∨ k = 24 ∨ k = 25 ∨ k = 26 ∨ k = 27 ∨ k = 28 ∨ k = 29) with rfl | rfl | rfl | rfl | rfl | rfl | rfl | rfl | rfl | rfl | rfl | rfl | rfl | rfl | rfl | rfl | rfl | rfl | rfl | rfl | rfl | rfl | rfl | rfl | rfl | rfl | rfl | rfl | rfl | rfl <;> rfl
set_option maxHeartbeats 4000000 in
theorem rName_any (k : Nat) (hk : k < 30) (w : World) : Calls Try.prog 110 #[.int .i64 (k : Int)] w fun e w' => e = .returned (.string (nm k)) ∧ Fr [] w w' := by
  have hc := nm_cell k hk w
  have HF := Lib.hid (fun o => (Fr.refl [] w).alloc o)
  have h0 : ¬ (k : Int) < 0 := by omega
  have h1 : ¬ (30 : Int) ≤ (k : Int) := by omega
  have h2 : (k : Int) < 30 := by omega
  have h3 : (0 : Int) ≤ (k : Int) := by omega
  generalize nm k = N at *
  go_enter Try.func110, Try.ntmps110
  go_wp2
  go_ret
  exact ⟨rfl, HF.out _⟩
theorem rName_no (k : Int) (hk : k < 0 ∨ 30 ≤ k) (w : World) : Calls Try.prog 110 #[.int .i64 k] w fun e w' => e = .returned (.string ⟨#[]⟩) ∧ Fr [] w w' := by
  have HF := Lib.hid (fun o => (Fr.refl [] w).alloc o)
  by_cases h : k < 0
  · clear hk
    go_enter Try.func110, Try.ntmps110
    go_wp2
    go_ret
    exact ⟨rfl, HF.out _⟩
  · have h1 : (30 : Int) ≤ k := by omega
    clear hk
    go_enter Try.func110, Try.ntmps110
    go_wp2
    go_ret
    exact ⟨rfl, HF.out _⟩
end Go.Proofs.Ytonongaakieciaa
namespace Go.Proofs.Ytonongaakieciaa
open Go.RowKit
set_option linter.unusedVariables false
set_option linter.unusedSimpArgs false
set_option maxRecDepth 100000
theorem fm_us (k : Nat) (hk : k < 30) : hasU (fm k) = (hasC (fm k) 117 || hasC (fm k) 115) ∧ (hasC (fm k) 117 && hasC (fm k) 115) = false ∧ (fm k).size ≤ 4096 := by
  have : ∀ k, k < 30 → hasU (fm k) = (hasC (fm k) 117 || hasC (fm k) 115) ∧ (hasC (fm k) 117 && hasC (fm k) 115) = false ∧ (fm k).size ≤ 4096 := by decide
  exact this k hk
theorem nm_ne (k : Nat) (hk : k < 30) : (nm k).toList.isEmpty = false := by
  have : ∀ k, k < 30 → (nm k).data.toList.isEmpty = false := by decide
  have e : (nm k).toList = (nm k).data.toList := Lib.toList_data _
  rw [e]
  exact this k hk
def okA (C : Bool) (a : Int) : Bool := decide (0 ≤ a) && decide (a ≤ 15) && (C || decide (a = 0))
theorem okA_fits (C : Bool) (a : Int) : okA C a = fitsB C a 0 15 := by
  unfold okA fitsB
  cases C <;> by_cases h : a = 0 <;> by_cases h1 : 0 ≤ a <;> by_cases h2 : a ≤ 15 <;> simp [h, h1, h2] <;> omega
set_option maxHeartbeats 8000000 in
theorem rCheck_in (i : In) (k : Nat) (hk : k < 30) (hop : i.op = (k : Int)) (w : World) : Calls Try.prog 80 #[i.v] w fun e w' => e = .returned (.int .i64 (if okI i k then 0 else 90)) ∧ Fr [] w w' := by
  obtain ⟨op, a, b, m⟩ := i
  simp only at hop
  subst hop
  have HN := Lib.hid (fun W => rName_any k hk W)
  have HFo := Lib.hid (fun W => rForm_any k hk W)
  have hne := nm_ne k hk
  obtain ⟨u1, u2, u3⟩ := fm_us k hk
  have HH := Lib.hid (fun c W => rHas_any (fm k) c u3 W)
  have HA := Lib.hid (fun W => (show Calls Try.prog 112 #[.string (fm k), .int .u8 97] W fun e w' => e = .returned (.bool (hasC (fm k) 97)) ∧ W = w' from HH.out 97 W))
  have HBc := Lib.hid (fun W => (show Calls Try.prog 112 #[.string (fm k), .int .u8 98] W fun e w' => e = .returned (.bool (hasC (fm k) 98)) ∧ W = w' from HH.out 98 W))
  have HU := Lib.hid (fun W => (show Calls Try.prog 112 #[.string (fm k), .int .u8 117] W fun e w' => e = .returned (.bool (hasC (fm k) 117)) ∧ W = w' from HH.out 117 W))
  have HS := Lib.hid (fun W => (show Calls Try.prog 112 #[.string (fm k), .int .u8 115] W fun e w' => e = .returned (.bool (hasC (fm k) 115)) ∧ W = w' from HH.out 115 W))
  have hB1 : BxI w.heap.size ⟨k, a, b, m⟩ (w.alloc (.cells #[.int .i64 (k : Int), .int .i64 a, .int .i64 b, .int .i64 m] 53)) := ⟨by rw [(Blk.new _ _ _).cell]; rfl, by rw [(Blk.new _ _ _).cell]; rfl, by rw [(Blk.new _ _ _).cell]; rfl⟩
  have HB0 := Lib.hid (Blk.new w 53 #[.int .i64 (k : Int), .int .i64 a, .int .i64 b, .int .i64 m])
  have H0 : Hid (Fr [] w (w.alloc (.cells #[.int .i64 (k : Int), .int .i64 a, .int .i64 b, .int .i64 m] 53))) := Lib.hid ((Fr.refl [] w).alloc _)
  unfold okI
  rw [u1, ← okA_fits, ← okA_fits]
  unfold okA fitsB
  simp only
  generalize hasC (fm k) 97 = C1 at *
  generalize hasC (fm k) 98 = C2 at *
  generalize hasC (fm k) 117 = C3 at *
  generalize hasC (fm k) 115 = C4 at *
  generalize fm k = F at *
  generalize nm k = N at *
  clear hB1 HH u1 u3 hk
  cases C3 <;> cases C4 <;> (try (exact absurd u2 (by decide))) <;> cases C1 <;> cases C2 <;> (
    clear u2
    simp only [Bool.or_false, Bool.or_true, Bool.false_or, Bool.true_or, Bool.not_false, Bool.not_true, Bool.true_and, Bool.false_and, if_true, if_false, Bool.false_eq_true, Bool.and_true]
    go_enter Try.func80, Try.ntmps80
    go_wp2_with (first
      | (go_at_call 110; refine (HN.out _).mono ?_; rintro e w1 ⟨rfl, hf⟩; have H1 := Lib.hid (H0.out.trans hf); have HB1 := Lib.hid (HB0.out.fr hf (by simp)); clear hf; have c0 : w1.cell? ⟨w.heap.size, 0, none⟩ = some (.int .i64 (k : Int)) := HB1.out.cell 0; have c1 : w1.cell? ⟨w.heap.size, 1, none⟩ = some (.int .i64 a) := HB1.out.cell 1; have c2 : w1.cell? ⟨w.heap.size, 2, none⟩ = some (.int .i64 b) := HB1.out.cell 2; have c3 : w1.cell? ⟨w.heap.size, 3, none⟩ = some (.int .i64 m) := HB1.out.cell 3)
      | (go_at_call 111; refine (HFo.out _).mono ?_; rintro e w2 ⟨rfl, rfl⟩)
      | (go_at_call 112; (with_reducible refine (HA.out _).mono ?_); rintro e w2 ⟨rfl, rfl⟩)
      | (go_at_call 112; (with_reducible refine (HBc.out _).mono ?_); rintro e w2 ⟨rfl, rfl⟩)
      | (go_at_call 112; (with_reducible refine (HU.out _).mono ?_); rintro e w2 ⟨rfl, rfl⟩)
      | (go_at_call 112; (with_reducible refine (HS.out _).mono ?_); rintro e w2 ⟨rfl, rfl⟩)
      | fail)
    all_goals
      go_ret
      refine ⟨ret_int ?_, H1.out⟩
      simp_all
      try omega)
end Go.Proofs.Ytonongaakieciaa
namespace Go.Proofs.Ytonongaakieciaa
open Go.RowKit
set_option linter.unusedVariables false
set_option linter.unusedSimpArgs false
set_option maxRecDepth 100000
def bs4 (n0 n1 n2 n3 : Int) : ByteArray := [n0, n1, n2, n3].foldl (fun r n => r.push (UInt8.ofNat n.toNat)) ByteArray.empty
theorem run_str4 {w : World} {g : Nat} {n0 n1 n2 n3 : Int} (hb : Blk w g 5 #[.int .u8 n0, .int .u8 n1, .int .u8 n2, .int .u8 n3]) : (convert 118 9 (.slice (some ⟨g, 0, none⟩) 4 4)).run Try.prog w = .ok (.string (bs4 n0 n1 n2 n3)) w := by
  rw [run_convert_bytes_string w 118 9 5 _ 4 4 Try.underlying118 Try.underlying5 Try.underlying9]
  refine run_bytesToString w _ 4 4 [n0, n1, n2, n3] ?_
  refine run_loadCells_list w _ [Value.int .u8 n0, Value.int .u8 n1, Value.int .u8 n2, Value.int .u8 n3] ?_
  intro j v h
  match j, h with
  | 0, h => cases h; exact hb.cell 0
  | 1, h => cases h; exact hb.cell 1
  | 2, h => cases h; exact hb.cell 2
  | 3, h => cases h; exact hb.cell 3
  | n + 4, h => simp at h
def encB (i : In) : ByteArray := bs4 (i.op % 256) (wrap64 (wrap64 (16 * i.a) + i.b) % 256) (bits .and .i64 (i.m / 256) 255 % 256) (bits .and .i64 i.m 255 % 256)
set_option maxHeartbeats 8000000 in
theorem rEncode_bad (i : In) (k : Nat) (hk : k < 30) (hop : i.op = (k : Int)) (hno : okI i k = false) (w : World) : Calls Try.prog 42 #[i.v] w fun e w' => e = .returned (.tuple #[.string ⟨#[]⟩, .int .i64 90]) ∧ Fr [] w w' := by
  have HC := Lib.hid (fun W => rCheck_in i k hk hop W)
  rw [hno] at HC
  obtain ⟨op, a, b, m⟩ := i
  simp only [Bool.false_eq_true, if_false] at HC
  have HB0 := Lib.hid (Blk.new w 53 #[.int .i64 op, .int .i64 a, .int .i64 b, .int .i64 m])
  have H0 : Hid (Fr [] w (w.alloc (.cells #[.int .i64 op, .int .i64 a, .int .i64 b, .int .i64 m] 53))) := Lib.hid ((Fr.refl [] w).alloc _)
  clear hno hop hk
  go_enter Try.func42, Try.ntmps42
  go_wp2_with (first
    | (go_at_call 80; refine (HC.out _).mono ?_; rintro e w1 ⟨rfl, hf⟩; have H1 := Lib.hid (H0.out.trans hf); clear hf)
    | fail)
  all_goals
    exact bodyPost_ret (v := .tuple #[.string ⟨#[]⟩, .int .i64 90]) (results_tmp2 Try.results42 _ _ _) rfl ⟨rfl, H1.out⟩
set_option maxHeartbeats 8000000 in
theorem rEncode_good (i : In) (k : Nat) (hk : k < 30) (hop : i.op = (k : Int)) (hyes : okI i k = true) (w : World) : Calls Try.prog 42 #[i.v] w fun e w' => e = .returned (.tuple #[.string (encB i), .int .i64 0]) ∧ Fr [] w w' := by
  have HC := Lib.hid (fun W => rCheck_in i k hk hop W)
  rw [hyes] at HC
  obtain ⟨op, a, b, m⟩ := i
  simp only [if_true] at HC
  have HB0 := Lib.hid (Blk.new w 53 #[.int .i64 op, .int .i64 a, .int .i64 b, .int .i64 m])
  have H0 : Hid (Fr [] w (w.alloc (.cells #[.int .i64 op, .int .i64 a, .int .i64 b, .int .i64 m] 53))) := Lib.hid ((Fr.refl [] w).alloc _)
  clear hyes hop hk
  go_enter Try.func42, Try.ntmps42
  go_wp2_with (first
    | (go_at_call 80; refine (HC.out _).mono ?_; rintro e w1 ⟨rfl, hf⟩; have H1 := Lib.hid (H0.out.trans hf); have HB1 := Lib.hid (HB0.out.fr hf (by simp)); clear hf; have c0 : w1.cell? ⟨w.heap.size, 0, none⟩ = some (.int .i64 op) := HB1.out.cell 0; have c1 : w1.cell? ⟨w.heap.size, 1, none⟩ = some (.int .i64 a) := HB1.out.cell 1; have c2 : w1.cell? ⟨w.heap.size, 2, none⟩ = some (.int .i64 b) := HB1.out.cell 2; have c3 : w1.cell? ⟨w.heap.size, 3, none⟩ = some (.int .i64 m) := HB1.out.cell 3)
    | fail)
  rw [run_str4 (Blk.new w1 5 _)]
  have H2 := Lib.hid (H1.out.alloc (.cells #[.int .u8 (op % 256), .int .u8 (wrap64 (wrap64 (16 * a) + b) % 256), .int .u8 (bits .and .i64 (m / 256) 255 % 256), .int .u8 (bits .and .i64 m 255 % 256)] 5))
  go_wp2_with fail
  all_goals
    exact bodyPost_ret (v := .tuple #[.string (encB ⟨op, a, b, m⟩), .int .i64 0]) (results_tmp2 Try.results42 _ _ _) rfl ⟨rfl, H2.out⟩
end Go.Proofs.Ytonongaakieciaa
namespace Go.Proofs.Ytonongaakieciaa
open Go.RowKit
set_option linter.unusedVariables false
set_option linter.unusedSimpArgs false
set_option maxRecDepth 100000
theorem tmod_place (a n : Int) (h : 0 < n) : (if a.tmod n < 0 then a.tmod n + n else a.tmod n) = a % n := by
  have h1 := Int.emod_nonneg a (b := n) (by omega)
  have h2 := Int.emod_lt_of_pos a h
  have h3 := Int.tmod_eq_emod (a := a) (b := n)
  rw [h3]
  split <;> split <;> omega
set_option maxHeartbeats 8000000 in
theorem lPlace_any (a n : Int) (h : 0 < n) (hn : n < 9223372036854775808) (w : World) : Calls Try.prog 39 #[.int .i64 a, .int .i64 n] w fun e w' => e = .returned (.int .i64 (a % n)) ∧ w = w' := by
  go_enter Try.func39, Try.ntmps39
  go_wp2_with fail
  · rename_i hneg
    have e1 : wrap64 (a.tmod n + n) = a % n := by
      rw [← tmod_place a n h, if_pos hneg]
      have := Int.lt_tmod_of_pos a h
      unfold wrap64
      omega
    rw [e1]
    go_ret
    exact ⟨rfl, rfl⟩
  · rename_i hneg
    have e1 : a.tmod n = a % n := by
      rw [← tmod_place a n h, if_neg (by omega)]
    rw [e1]
    go_ret
    exact ⟨rfl, rfl⟩
end Go.Proofs.Ytonongaakieciaa
namespace Go.Proofs.Ytonongaakieciaa
open Go.RowKit
set_option linter.unusedVariables false
set_option linter.unusedSimpArgs false
set_option maxRecDepth 100000
def catE (f : Nat → In) : Nat → ByteArray
  | 0 => ⟨#[]⟩
  | n + 1 => catE f n ++ encB (f n)
theorem bs4_size (a b c d : Int) : (bs4 a b c d).size = 4 := by
  unfold bs4
  simp [ByteArray.size_push]
theorem catE_size (f : Nat → In) : ∀ n, (catE f n).size = 4 * n
  | 0 => rfl
  | n + 1 => by
    show (catE f n ++ encB (f n)).size = _
    rw [ByteArray.size_append, catE_size f n]
    unfold encB
    rw [bs4_size]
    omega
set_option maxHeartbeats 8000000 in
theorem lBytes_4 (f : Nat → In) (g cap : Nat) (w : World) (hb : Blk w g 53 #[.int .i64 (f 0).op, .int .i64 (f 0).a, .int .i64 (f 0).b, .int .i64 (f 0).m, .int .i64 (f 1).op, .int .i64 (f 1).a, .int .i64 (f 1).b, .int .i64 (f 1).m, .int .i64 (f 2).op, .int .i64 (f 2).a, .int .i64 (f 2).b, .int .i64 (f 2).m, .int .i64 (f 3).op, .int .i64 (f 3).a, .int .i64 (f 3).b, .int .i64 (f 3).m])
    (hok : ∀ j, j < 4 → ∃ k : Nat, k < 30 ∧ (f j).op = (k : Int) ∧ okI (f j) k = true) :
    Calls Try.prog 32 #[.slice (some ⟨g, 0, none⟩) 4 cap] w fun e w' => e = .returned (.string (catE f 4)) ∧ Fr [] w w' := by
  have HE := Lib.hid (fun (j : Nat) (hj : j < 4) (W : World) => (show Calls Try.prog 42 #[.agg #[.int .i64 (f j).op, .int .i64 (f j).a, .int .i64 (f j).b, .int .i64 (f j).m]] W fun e w' => e = .returned (.tuple #[.string (encB (f j)), .int .i64 0]) ∧ Fr [] W w' by
    obtain ⟨k, h1, h2, h3⟩ := hok j hj
    exact rEncode_good (f j) k h1 h2 h3 W))
  have HB := Lib.hid (fun (k : Nat) (hk : k < 4) (W : World) (hf : Fr [] w W) => (show W.cell? ⟨g, k * 4, none⟩ = some (.int .i64 (f k).op) ∧ W.cell? ⟨g, k * 4 + 1, none⟩ = some (.int .i64 (f k).a) ∧ W.cell? ⟨g, k * 4 + 2, none⟩ = some (.int .i64 (f k).b) ∧ W.cell? ⟨g, k * 4 + 3, none⟩ = some (.int .i64 (f k).m) by
    have h := hb.fr hf (by simp)
    match k, hk with
    | 0, _ => exact ⟨h.cell 0, h.cell 1, h.cell 2, h.cell 3⟩
    | 1, _ => exact ⟨h.cell 4, h.cell 5, h.cell 6, h.cell 7⟩
    | 2, _ => exact ⟨h.cell 8, h.cell 9, h.cell 10, h.cell 11⟩
    | 3, _ => exact ⟨h.cell 12, h.cell 13, h.cell 14, h.cell 15⟩))
  have H0 := Lib.hid (Fr.refl [] w)
  clear hb hok
  go_enter Try.func32, Try.ntmps32
  go_wp2_with fail
  go_loopg [3, 4] 4 (fun gg vs vi wr => ∃ (k : Nat), k + gg = 4 ∧ vi = .int .i64 (k : Int) ∧ vs = .string (catE f k) ∧ Fr [] w wr)
  case atStart => exact ⟨0, by omega, rfl, rfl, H0.out⟩
  case round =>
    obtain ⟨k, hk, rfl, rfl, hf⟩ := hrel
    have Hk := Lib.hid hk
    have Hf := Lib.hid hf
    clear hk
    by_cases hlt : k < 4
    · have hlt' : (k : Int) < 4 := by omega
      have hk0 : (0 : Int) ≤ (k : Int) := by omega
      have hwk : IntKind.i64.wrap ((k : Int) + 1) = (k : Int) + 1 := IntWalk.i64_in _ (by omega)
      have HEk := Lib.hid (fun W => HE.out k hlt W)
      obtain ⟨k0, k1, k2, k3⟩ := HB.out k hlt wr hf
      have hcat : ¬ 9223372036854775807 < (catE f k).size + (encB (f k)).size := by
        rw [catE_size]
        unfold encB
        rw [bs4_size]
        omega
      clear hf
      go_wp2_with (first
        | (go_at_call 42; refine (HEk.out _).mono ?_; rintro e w3 ⟨rfl, hf3⟩; have H3 := Lib.hid (Hf.out.trans hf3); clear hf3)
        | fail)
      go_roundg (4 - (k + 1))
      case measure => have := Hk.out; omega
      case rel => exact ⟨k + 1, by have := Hk.out; omega, by go_num, rfl, H3.out⟩
    · have hlt' : ¬ (k : Int) < 4 := by omega
      obtain rfl : k = 4 := by have := Hk.out; omega
      have H4 := Lib.hid hf
      clear hf
      go_wp2_with fail
      go_ret
      exact ⟨rfl, H4.out⟩
end Go.Proofs.Ytonongaakieciaa
