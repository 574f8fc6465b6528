/- Numbers: Itoa, Atoi, number. The document's Label. -/
import Derived.Test.YtbmaecdlkchkeaaGreatDoorLib2
import Derived.Test.YtbmaecdlkchkeaaGreatDoorSh
import Derived.Test.YtbmaecdlkchkeaaGreatDoorL1
import Derived.Lib.AtoiAllCases
import Derived.Test.YtbmaecdlkchkeaaGreatDoorStr
namespace Go.Proofs.YtbmaecdlkchkeaaGreatDoor
open Go.RowKit
set_option linter.unusedVariables false
set_option linter.unusedSimpArgs false
set_option maxRecDepth 100000
/-- What the library's numbers want of the world. -/
structure Std (w : World) : Prop where
  tab : Lib.TabIs Tryz.prog w "internal/strconv.uint64pow10" .u64 Lib.pow10Tab
  bad : ∃ tp p, w.var? Tryz.prog "strconv.ErrSyntax" = some #[.iface tp p]
  rng : ∃ tp p, w.var? Tryz.prog "strconv.ErrRange" = some #[.iface tp p]
  mx : ∃ m, w.cell? ⟨0, 0, none⟩ = some (.int .i64 m)
theorem var_fr {P : Program} {w w' : World} {s : String} {cs : Array Value} (h : w.var? P s = some cs) (hf : Fr [] w w') : w'.var? P s = some cs := by
  unfold World.var? at h ⊢
  cases hg : P.globalNamed s with
  | none => rw [hg] at h; exact h
  | some g =>
    rw [hg] at h
    have hlt : g < w.heap.size := by
      apply Classical.byContradiction
      intro hn
      have : w.heap[g]? = none := Array.getElem?_eq_none (by omega)
      simp only [Option.bind_some, this] at h
      cases h
    simp only [Option.bind_some] at h ⊢
    rw [hf.block g hlt (by simp)]
    exact h
theorem Std.fr {w w' : World} (h : Std w) (hf : Fr [] w w') : Std w' := by
  obtain ⟨t1, p1, h1⟩ := h.bad
  obtain ⟨t2, p2, h2⟩ := h.rng
  obtain ⟨m, hm⟩ := h.mx
  exact ⟨var_fr h.tab hf, ⟨t1, p1, var_fr h1 hf⟩, ⟨t2, p2, var_fr h2 hf⟩, m, hf.cell_some hm (by simp)⟩
theorem Fr.grow {S : List Nat} {w w' : World} (h : Fr S w w') (os : Array Obj) : Fr S w (Sort.grow w' os) :=
  ⟨h.os, h.tape, h.output, Nat.le_trans h.size (by show _ ≤ (w'.heap ++ os).size; simp), fun i hi hn => by
    show (w'.heap ++ os)[i]? = _
    rw [Array.getElem?_append_left (Nat.lt_of_lt_of_le hi h.size)]
    exact h.block i hi hn⟩
theorem Itoa_any (n : Int) (h0 : -9223372036854775808 ≤ n) (h1 : n ≤ 9223372036854775807) (w : World) (hs : Std w) : Calls Tryz.prog 38 #[.int .i64 n] w fun e w' => e = .returned (.string ⟨(Lib.itoa n).toArray⟩) ∧ Fr [] w w' := by
  refine (Tryz.strconv_Itoa n h0 h1 w hs.tab).mono ?_
  rintro e w' ⟨rfl, k, os, rfl⟩
  exact ⟨rfl, ((Fr.refl [] w).drewN k).grow os⟩
theorem Fr.bytes (w : World) (e : TypeId) (s : ByteArray) : Fr [] w (Lib.bytesWorld w e s) := by
  refine Fr.of_below (B := w.heap.size) ?_ (Nat.le_refl _)
  unfold Lib.bytesWorld
  exact Lib.below_freeze (((Below.refl _ w).drew).alloc (Nat.le_refl _) _) (Nat.le_refl _) _
theorem Atoi_any (s : ByteArray) (hs : s.size ≤ 281474976710656) (w : World) (hw : Std w) : Calls Tryz.prog 84 #[.string s] w fun e w' => Fr [] w w' ∧ ∃ (v : Int) (E : Value), e = .returned (.tuple #[.int .i64 v, E]) ∧ ((E = .nilIface ∧ Lib.atoiAll s.data.toList = .ok v) ∨ ((∃ N, E = .iface 170 (.pointer (some ⟨N, 0, none⟩))) ∧ ∀ v, Lib.atoiAll s.data.toList ≠ .ok v)) := by
  by_cases h : ∃ v, Lib.atoiAll s.data.toList = .ok v
  · obtain ⟨v, h⟩ := h
    refine (Tryz.strconv_Atoi_ok s (by omega) v h w).mono ?_
    rintro e w' ⟨rfl, hw'⟩
    refine ⟨?_, v, .nilIface, rfl, Or.inl ⟨rfl, h⟩⟩
    rcases hw' with rfl | ⟨t, rfl⟩
    · exact Fr.refl [] _
    · exact Fr.bytes _ _ _
  · have h1 : ∀ v, Lib.atoiAll s.data.toList ≠ .ok v := fun v hv => h ⟨v, hv⟩
    by_cases h2 : Lib.atoiAll s.data.toList = .range
    · obtain ⟨tp, p, hv⟩ := hw.rng
      refine (Tryz.strconv_Atoi_range_var s hs h2 tp p w hv).mono ?_
      rintro e w' ⟨N, rfl, -, -, hb⟩
      exact ⟨Fr.of_below hb (Nat.le_refl _), _, _, rfl, Or.inr ⟨⟨N, rfl⟩, h1⟩⟩
    · obtain ⟨tp, p, hv⟩ := hw.bad
      refine (Tryz.strconv_Atoi_other_var s hs h1 h2 tp p w hv).mono ?_
      rintro e w' ⟨N, rfl, -, -, hb⟩
      exact ⟨Fr.of_below hb (Nat.le_refl _), _, _, rfl, Or.inr ⟨⟨N, rfl⟩, h1⟩⟩
theorem nil_guard (a : Value) (w : World) : (eqGuard .eql 68 (.tmp 12) (.const .nilIface) a .nilIface).run Tryz.prog w = .ok () w := by
  cases a <;> rfl
theorem nil_nil (w : World) : (binOp .eql 68 .nilIface .nilIface).run Tryz.prog w = .ok (.bool true) w := by kernel_rfl
theorem nil_not (N : Nat) (w : World) : (binOp .eql 68 (.iface 170 (.pointer (some ⟨N, 0, none⟩))) .nilIface).run Tryz.prog w = .ok (.bool false) w := by kernel_rfl
theorem str_eq_toArray (s : ByteArray) (l : List UInt8) : (⟨l.toArray⟩ : ByteArray) = s ↔ l = s.data.toList := by
  constructor
  · rintro rfl
    rfl
  · rintro rfl
    rfl
set_option maxHeartbeats 4000000 in
theorem number_any (s : ByteArray) (hs : s.size ≤ 281474976710656) (w : World) (hw : Std w) : Calls Tryz.prog 51 #[.string s] w fun e w' => Fr [] w w' ∧ ∃ v : Int, e = .returned (.tuple #[.int .i64 v, .bool (numP s.data.toList).isSome]) ∧ (∀ n, numP s.data.toList = some n → v = n) := by
  have HA := Lib.hid (fun W hW => Atoi_any s hs W hW)
  have HS := Lib.hid hw
  go_enter Tryz.func51, Tryz.ntmps51
  go_wp2_with (first
    | (go_at_call 84; refine (HA.out _ HS.out).mono ?_; rintro e w1 ⟨hf, v, E, rfl, hE⟩; have HE := Lib.hid hE; have H1 := Lib.hid hf; clear hf hE)
    | fail)
  have hE := HE.out
  clear HE
  have HS1 := Lib.hid (HS.out.fr H1.out)
  rcases hE with ⟨rfl, hE⟩ | ⟨⟨N, rfl⟩, hE⟩
  · have hb := Lib.atoiAll_bounds hE
    have hp : numP s.data.toList = if Lib.itoa v = s.data.toList then some v else none := by
      unfold numP
      rw [hE]
    have HP := Lib.hid hp
    have HI := Lib.hid (fun W hW => Itoa_any v hb.1 hb.2 W hW)
    clear hp hE hb
    rw [nil_guard]
    simp only [nil_nil]
    go_wp2_with (first
      | (go_at_call 38; refine (HI.out _ HS1.out).mono ?_; rintro e w2 ⟨rfl, hf⟩; have H2 := Lib.hid (H1.out.trans hf); clear hf)
      | fail)
    go_ret2
    have hp := HP.out
    refine ⟨H2.out, v, ?_, ?_⟩
    · rw [hp]
      show _ = Ending.returned (.tuple #[.int .i64 v, .bool _])
      have hb : (Lib.itoa v == s.toList) = (if Lib.itoa v = s.data.toList then some v else none).isSome := by
        rw [ByteArray.toList_eq]
        by_cases hq : Lib.itoa v = s.data.toList
        · simp [hq]
        · simp [hq]
      rw [← hb]
      rfl
    · intro n hn
      rw [hp] at hn
      split at hn
      · injection hn
      · cases hn
  · have hp : numP s.data.toList = none := by
      unfold numP
      split
      · next n h => exact absurd h (hE n)
      · rfl
    have HP := Lib.hid hp
    clear hp hE
    rw [nil_guard]
    simp only [nil_not]
    go_wp2_with fail
    go_ret2
    have hp := HP.out
    refine ⟨H1.out, v, ?_, ?_⟩
    · rw [hp]
      rfl
    · intro n hn
      rw [hp] at hn
      cases hn
end Go.Proofs.YtbmaecdlkchkeaaGreatDoor
namespace Go.Proofs.YtbmaecdlkchkeaaGreatDoor
open Go.RowKit
set_option linter.unusedVariables false
set_option linter.unusedSimpArgs false
set_option maxRecDepth 100000
def labP : List UInt8 → Bool
  | [] => true
  | b :: r => isLc b && r.all isLd
def LbB (d : UInt8) (j : Nat) : Prop := ((97 : Int) ≤ (d.toNat : Int) ∧ (d.toNat : Int) ≤ 122) ∨ ((0 : Int) < (j : Int) ∧ (48 : Int) ≤ (d.toNat : Int) ∧ (d.toNat : Int) ≤ 57)
theorem isLc_iff (d : UInt8) : isLc d = true ↔ (97 ≤ d.toNat ∧ d.toNat ≤ 122) := by
  unfold isLc
  simp
theorem isLd_iff (d : UInt8) : isLd d = true ↔ (97 ≤ d.toNat ∧ d.toNat ≤ 122) ∨ (48 ≤ d.toNat ∧ d.toNat ≤ 57) := by
  unfold isLd
  rw [Bool.or_eq_true, isLc_iff]
  simp
theorem labP_snoc (x : List UInt8) (d : UInt8) : labP (x ++ [d]) = true ↔ labP x = true ∧ LbB d x.length := by
  unfold LbB
  cases x with
  | nil =>
    simp only [List.nil_append, labP, List.all_nil, Bool.and_true, isLc_iff, List.length_nil, true_and]
    omega
  | cons b r =>
    simp only [List.cons_append, labP, List.all_append, List.all_cons, List.all_nil, Bool.and_true, Bool.and_eq_true, isLd_iff, List.length_cons]
    constructor
    · rintro ⟨h1, h2, h3⟩
      exact ⟨⟨h1, h2⟩, by omega⟩
    · rintro ⟨⟨h1, h2⟩, h3⟩
      exact ⟨h1, h2, by omega⟩
theorem labP_take (l : List UInt8) (j : Nat) (h : labP (l.take j) = false) : labP l = false := by
  cases l with
  | nil => simp [labP] at h
  | cons b r =>
    cases j with
    | zero => simp [labP] at h
    | succ n =>
      simp only [List.take_succ_cons, labP, Bool.and_eq_false_iff] at h ⊢
      rcases h with h | h
      · exact .inl h
      · refine .inr ?_
        rw [List.all_eq_false] at h ⊢
        obtain ⟨x, hx, hp⟩ := h
        exact ⟨x, List.mem_of_mem_take hx, hp⟩
theorem isLab_iff (l : List UInt8) : isLab l = (labP l && decide (l ≠ []) && decide (l.length ≤ 12)) := by
  cases l with
  | nil => rfl
  | cons b r =>
    simp only [isLab, labP, List.length_cons]
    have h1 : decide (b :: r ≠ []) = true := by simp
    have h2 : decide (r.length + 1 ≤ 12) = decide (r.length ≤ 11) := by
      rw [decide_eq_decide]
      omega
    rw [h1, h2, Bool.and_true]
end Go.Proofs.YtbmaecdlkchkeaaGreatDoor
