/- Go's strings: IndexByte; Index and Contains at one byte; IndexRune, IndexAny, ContainsAny at short texts of plain letters. -/
import Derived.Test.YtbmaecdlkchkeaaGreatDoorOwn
import Derived.Test.YtbmaecdlkchkeaaGreatDoorLib2
import Derived.WalkKit
import Derived.WalkSpells
import Derived.WalkLawsBesides
import Derived.Lib.Hide
import Derived.Deep.LoopGhost
import Derived.Deep.DeepMust
import Derived.Deep.DeepCutAuto
import Derived.Deep.CutBlock
import Derived.Deep.RegionHeld3
import Derived.Deep.RegionLaw
import Derived.Deep.QuietTactic
import Derived.BigQuiet
import Derived.BigRegion
import Derived.StillTailTactics
import Derived.Lib.Strings
import Derived.Lib.Slices
import Derived.Lib.Walk
import Derived.Lib.Bytealg
import Derived.Laws.RangeString
import Derived.Laws.RangeAny
import Derived.LoopTactic
namespace Go.Proofs.YtbmaecdlkchkeaaGreatDoor
open Go.RowKit
set_option linter.unusedVariables false
set_option linter.unusedSimpArgs false
set_option maxRecDepth 100000
set_option maxHeartbeats 2000000 in
theorem IndexByte_any (s : ByteArray) (c : Int) (w : World) :
    Calls Tryz.prog 86 #[.string s, .int .u8 c] w fun e w' => e = .returned (.int .i64 (Lib.indexByte s.data.toList c.toNat.toUInt8)) ∧ w' = w := by
  go_enter Tryz.func86, Tryz.ntmps86
  go_wp2
  rw [run_callFunc_extern Tryz.func107 (by kernel_rfl) (by kernel_rfl) (by kernel_rfl) (e := Extern.BytealgIndexByte.indexByte) (by kernel_rfl), Lib.run_indexByteString]
  simp only [Result.andThen]
  rw [Oper.upon_value]
  go_wp2
  go_ret
  exact ⟨rfl, rfl⟩
theorem sIndexByte_any (s : ByteArray) (c : Int) (w : World) :
    Calls Tryz.prog 53 #[.string s, .int .u8 c] w fun e w' => e = .returned (.int .i64 (Lib.indexByte s.data.toList c.toNat.toUInt8)) ∧ w' = w := by
  go_enter Tryz.func53, Tryz.ntmps53
  go_wp2_with (go_at_call 86; refine (IndexByte_any _ _ _).mono ?_; rintro e w' ⟨rfl, rfl⟩)
  go_ret
  exact ⟨rfl, rfl⟩
set_option maxHeartbeats 2000000 in
theorem Index_one (s : ByteArray) (c : UInt8) (w : World) :
    Calls Tryz.prog 103 #[.string s, .string ⟨#[c]⟩] w fun e w' => e = .returned (.int .i64 (Lib.indexByte s.data.toList c)) ∧ w' = w := by
  go_enter Tryz.func103, Tryz.ntmps103
  go_wp2_with (go_at_call 86; refine (IndexByte_any _ _ _).mono ?_; rintro e w' ⟨rfl, rfl⟩)
  · have h : ([c] == s.toList) = true := by assumption
    go_ret
    refine ⟨?_, rfl⟩
    have e : s.data.toList = [c] := by rw [← Lib.toList_data]; exact (beq_iff_eq.1 h).symm
    rw [e]
    simp [Lib.indexByte]
  · go_ret
    exact ⟨rfl, rfl⟩
theorem sIndex_one (s : ByteArray) (c : UInt8) (w : World) :
    Calls Tryz.prog 82 #[.string s, .string ⟨#[c]⟩] w fun e w' => e = .returned (.int .i64 (Lib.indexByte s.data.toList c)) ∧ w' = w := by
  go_enter Tryz.func82, Tryz.ntmps82
  go_wp2_with (go_at_call 103; refine (Index_one _ _ _).mono ?_; rintro e w' ⟨rfl, rfl⟩)
  go_ret
  exact ⟨rfl, rfl⟩
/-- Does a text have a letter? -/
def hasC (s : ByteArray) (c : UInt8) : Bool := decide (0 ≤ Lib.indexByte s.data.toList c)
theorem Contains_one (s : ByteArray) (c : UInt8) (w : World) :
    Calls Tryz.prog 57 #[.string s, .string ⟨#[c]⟩] w fun e w' => e = .returned (.bool (hasC s c)) ∧ w = w' := by
  have E : Hid (decide (0 ≤ Lib.indexByte s.data.toList c) = hasC s c) := Lib.hid rfl
  go_enter Tryz.func57, Tryz.ntmps57
  go_wp2_with (go_at_call 82; refine (sIndex_one _ _ _).mono ?_; rintro e w' ⟨rfl, rfl⟩)
  go_ret
  exact ⟨by rw [← E.out]; rfl, rfl⟩
theorem IndexRune_us (c : Nat) (hc : c < 128) (w : World) : Calls Tryz.prog 111 #[.string ⟨#[117, 115]⟩, .int .i32 (c : Int)] w fun e w' => e = .returned (.int .i64 (if c = 117 then 0 else if c = 115 then 1 else -1)) ∧ w = w' := by
  have h0 : (0 : Int) ≤ (c : Int) := by omega
  have h1 : (c : Int) < 128 := by omega
  have hw : IntKind.u8.wrap (c : Int) = (c : Int) := IntWalk.u8_in _ (by omega)
  have E : Hid (Lib.indexByte (⟨#[117, 115]⟩ : ByteArray).data.toList (c : Int).toNat.toUInt8 = if c = 117 then 0 else if c = 115 then 1 else -1) := Lib.hid (by
    have key : ∀ c, c < 128 → Lib.indexByte (⟨#[117, 115]⟩ : ByteArray).data.toList (Nat.toUInt8 c) = if c = 117 then 0 else if c = 115 then 1 else -1 := by decide
    exact key c hc)
  obtain ⟨n, hn⟩ : ∃ n : Int, (if c = 117 then 0 else if c = 115 then 1 else -1) = n := ⟨_, rfl⟩
  rw [hn] at E ⊢
  clear hc hn
  go_enter Tryz.func111, Tryz.ntmps111
  go_wp2_with (go_at_call 53; refine (sIndexByte_any _ _ _).mono ?_; rintro e w' ⟨rfl, rfl⟩)
  go_ret
  exact ⟨by rw [← E.out]; rfl, rfl⟩
/-- Does a text have a u or an s? -/
def hasU (s : ByteArray) : Bool := s.data.toList.any fun c => c == 117 || c == 115
set_option maxHeartbeats 4000000 in
theorem IndexAny_us (s : ByteArray) (h8 : s.size ≤ 8) (ha : ∀ (i : Nat) (h : i < s.size), (s[i]'h).toNat < 128) (w : World) :
    Calls Tryz.prog 95 #[.string s, .string ⟨#[117, 115]⟩] w fun e w' => ∃ n : Int, e = .returned (.int .i64 n) ∧ (decide (0 ≤ n)) = hasU s ∧ Fr [] w w' := by
  have h8' : ¬ (8 : Int) < (s.size : Int) := by omega
  have HF := Lib.hid (fun pos => (Fr.refl [] w).alloc (.stringIter s pos))
  have hsz : s.data.toList.length = s.size := rfl
  go_enter Tryz.func95, Tryz.ntmps95
  go_wp2_with (go_at_call 112; go_in)
  go_loopw [] (fun w' => ∃ (pos : Nat), w' = w.iter s pos ∧ pos ≤ s.size ∧ ((s.data.toList.take pos).any fun c => c == 117 || c == 115) = false) (fun w' => s.size - w'.iterPos w.heap.size)
  case atStart => exact ⟨0, rfl, by omega, by simp⟩
  case round =>
    obtain ⟨pos, rfl, hp, hall⟩ := hrel
    by_cases hlt : pos < s.size
    · have hd := decode_ascii s pos hlt (ha pos hlt)
      have hnx : ∀ ty, (Instr.next (.pointer (some ⟨w.heap.size, 0, none⟩)) true ty).run Tryz.prog (w.iter s pos) = .ok (.tuple #[.bool true, .int .i64 pos, .int .i32 ((s[pos]'hlt).toNat : Int)]) (w.iter s (pos + 1)) := fun ty => by
        rw [run_next_any w s pos ty hlt, hd]
      have hget : s.data.toList[pos]? = some (s[pos]'hlt) := List.getElem?_eq_getElem (by rw [hsz]; exact hlt)
      have H := Lib.hid (fun W => IndexRune_us (s[pos]'hlt).toNat (ha pos hlt) W)
      have HN : Hid (¬ ((s[pos]'hlt).toNat = 117 ∨ (s[pos]'hlt).toNat = 115) → ((s.data.toList.take (pos + 1)).any fun c => c == 117 || c == 115) = false) := Lib.hid (fun hn => by
        rw [List.take_add_one, hget]
        simp only [List.any_append, hall, Option.toList_some, List.any_cons, List.any_nil, Bool.or_false, Bool.false_or, Bool.or_eq_false_iff, beq_eq_false_iff_ne, ne_eq]
        exact ⟨fun h => hn (.inl (by rw [h]; rfl)), fun h => hn (.inr (by rw [h]; rfl))⟩)
      have HY : Hid (((s[pos]'hlt).toNat = 117 ∨ (s[pos]'hlt).toNat = 115) → hasU s = true) := Lib.hid (fun hn => by
        unfold hasU
        rw [List.any_eq_true]
        refine ⟨s[pos]'hlt, List.mem_of_getElem? hget, ?_⟩
        simp only [Bool.or_eq_true, beq_iff_eq]
        rcases hn with h | h
        · exact .inl (UInt8.toNat_inj.1 (by rw [h]; rfl))
        · exact .inr (UInt8.toNat_inj.1 (by rw [h]; rfl)))
      generalize (s[pos]'hlt).toNat = c at *
      clear hget hd hsz ha
      have hp0 : (0 : Int) ≤ (pos : Int) := by omega
      by_cases h1 : c = 117
      · have HB := Lib.hid (HY.out (.inl h1))
        rw [if_pos h1] at H
        clear HN HY h1
        go_wp2_with (go_at_call 111; refine (H.out _).mono ?_; rintro e w1 ⟨rfl, rfl⟩)
        go_ret
        exact ⟨_, rfl, by rw [HB.out]; exact decide_eq_true hp0, HF.out _⟩
      · by_cases h2 : c = 115
        · have HB := Lib.hid (HY.out (.inr h2))
          rw [if_neg h1, if_pos h2] at H
          clear HN HY h1 h2
          go_wp2_with (go_at_call 111; refine (H.out _).mono ?_; rintro e w1 ⟨rfl, rfl⟩)
          go_ret
          exact ⟨_, rfl, by rw [HB.out]; exact decide_eq_true hp0, HF.out _⟩
        · have HB := Lib.hid (HN.out (by omega))
          rw [if_neg h1, if_neg h2] at H
          clear HN HY h1 h2
          go_wp2_with (go_at_call 111; refine (H.out _).mono ?_; rintro e w1 ⟨rfl, rfl⟩)
          go_roundw
          case rel => exact ⟨pos + 1, rfl, by omega, HB.out⟩
          case measure => simp; omega
    · have hnx : ∀ ty, (Instr.next (.pointer (some ⟨w.heap.size, 0, none⟩)) true ty).run Tryz.prog (w.iter s pos) = _ := fun ty => run_next_end w s pos ty hlt
      have HB : Hid (hasU s = false) := Lib.hid (by
        rw [List.take_of_length_le (by rw [hsz]; omega)] at hall
        exact hall)
      go_wp2
      go_ret
      exact ⟨_, rfl, by rw [HB.out]; rfl, HF.out _⟩
theorem ContainsAny_us (s : ByteArray) (h8 : s.size ≤ 8) (ha : ∀ (i : Nat) (h : i < s.size), (s[i]'h).toNat < 128) (w : World) :
    Calls Tryz.prog 59 #[.string s, .string ⟨#[117, 115]⟩] w fun e w' => e = .returned (.bool (hasU s)) ∧ Fr [] w w' := by
  have H := Lib.hid (fun W => IndexAny_us s h8 ha W)
  go_enter Tryz.func59, Tryz.ntmps59
  go_wp2_with (go_at_call 95; refine (H.out _).mono ?_; rintro e w' ⟨n, rfl, hn, hf⟩; have HN := Lib.hid hn; have HF := Lib.hid hf; clear hn hf)
  go_ret
  exact ⟨by rw [← HN.out]; rfl, HF.out⟩
end Go.Proofs.YtbmaecdlkchkeaaGreatDoor
