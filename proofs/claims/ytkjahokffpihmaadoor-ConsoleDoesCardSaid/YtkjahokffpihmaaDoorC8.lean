/- What a key does: to a level, to a choice, to the password. -/
import Derived.Test.YtkjahokffpihmaaDoorC7
namespace Go.Proofs.YtkjahokffpihmaaDoor
open Go.RowKit
set_option linter.unusedVariables false
set_option linter.unusedSimpArgs false
set_option maxRecDepth 100000
def appB (s : ByteArray) (b : UInt8) : ByteArray := s ++ ⟨#[b]⟩
theorem appB_size (s : ByteArray) (b : UInt8) : (appB s b).size = s.size + 1 := by simp [appB, ByteArray.size_append]; rfl
def key1 (s : ByteArray) (b : UInt8) : ByteArray := if s.size < 16 then appB s b else s
def toLevel (x : Con) (b : UInt8) : Con := { x with ks := x.ks.set x.fo.toNat (key1 (x.ks.getD x.fo.toNat empty) b) }
theorem toLevel_ok {x : Con} (h : x.Ok) (b : UInt8) : (toLevel x b).Ok := ⟨h.l1, h.l8, h.g1, h.g, h.f0, h.f1, h.t, by simp only [toLevel, List.length_set]; exact h.n, fun s hs => by
  simp only [toLevel] at hs
  rcases List.mem_or_eq_of_mem_set hs with h1 | h1
  · exact h.k s h1
  · rw [h1]
    unfold key1
    split
    · rw [appB_size]; omega
    · rw [List.getD_eq_getElem?_getD]
      cases he : x.ks[x.fo.toNat]? with
      | none => simp [empty, ByteArray.size]
      | some u => exact h.k u (List.mem_of_getElem? he), h.s⟩
/-- One byte's row, to a string. -/
theorem conv_one (W : World) (g : Nat) (b : UInt8) (h : W.cell? ⟨g, 0, none⟩ = some (.int .u8 (b.toNat : Int))) : (convert 40 9 (.slice (some ⟨g, 0, none⟩) 1 1)).run Tryd.prog W = .ok (.string ⟨#[b]⟩) W := by
  have := run_convert_bytes_back (P := Tryd.prog) W 40 9 5 ⟨g, 0, none⟩ 1 [b] Tryd.underlying40 Tryd.underlying5 Tryd.underlying9 (fun i hi => by
    rcases i with _ | i
    · simpa [Addr.add] using h
    · simp at hi)
  simpa using this
set_option maxHeartbeats 4000000 in
theorem toLevel_any (w : World) (c k : Nat) (x : Con) (h : ConAt w c k x) (hf : x.fo ≠ -1) (b : UInt8) : Calls Tryd.prog 49 #[ptr c, .int .u8 (b.toNat : Int)] w fun e w' => e = .returned (.tuple #[]) ∧ ConAt w' c k (toLevel x b) ∧ Fr [k] w w' := by
  have hne := h.ne
  have hl := h.lt
  have hok := h.ok
  obtain ⟨f, hfo⟩ : ∃ f : Nat, x.fo = (f : Int) := Int.eq_ofNat_of_zero_le (by have := hok.f0; omega)
  have hfl : f < x.lv := by have := hok.f1; omega
  obtain ⟨s, hs⟩ : ∃ s, x.ks[f]? = some s := ⟨_, List.getElem?_eq_getElem (by rw [hok.n]; exact hfl)⟩
  have hto : toLevel x b = { x with ks := x.ks.set f (key1 s b) } := by
    unfold toLevel
    rw [hfo]
    simp only [Int.toNat_natCast]
    rw [List.getD_eq_getElem?_getD, hs]
    rfl
  have hT := Lib.hid (toLevel_ok hok b)
  rw [hto] at hT ⊢
  obtain ⟨⟨cap, hb, h1, h2⟩, hk, -⟩ := h
  obtain ⟨-, -, c2, -, -, c5, -⟩ := conC hb
  obtain ⟨ks, kf⟩ := hk.at_ hs
  rw [hfo] at c2
  have hsz := hok.k s (List.mem_of_getElem? hs)
  have i0 : (0 : Int) ≤ (f : Int) := by omega
  have i1 : (f : Int) < (x.lv : Int) := by omega
  by_cases h16 : s.size < 16
  · have hk1 : key1 s b = appB s b := by unfold key1; rw [if_pos h16]
    rw [hk1] at hT ⊢
    have d1 : (s.size : Int) < 16 := by omega
    go_enter Tryd.func49, Tryd.ntmps49
    go_wp2_with fail
    go_region_held3 (fun W => W.cell? ⟨c, 2, none⟩ = some (.int .i64 (f : Int)) ∧ W.cell? ⟨c, 5, none⟩ = some (.slice (some ⟨k, 0, none⟩) x.lv cap) ∧ W.cell? ⟨k, f, none⟩ = some (.string s)) (first | exact ⟨c2, c5, ks⟩ | go_keep) (fail)
    go_wp2_with fail
    have hkl : k < w.heap.size := hl.2
    have hcl : c < w.heap.size := hl.1
    have hcv := conv_one (w.alloc (.cells #[.int .u8 (b.toNat : Int)] 5)).drew.drew w.heap.size b (by simp)
    have hcs : ¬ 9223372036854775807 < s.size + 1 := by omega
    have hX : Fr [k] w ((w.setCell ⟨k, f, none⟩ (.string (s ++ ⟨#[b]⟩))).alloc (.cells #[.int .u8 (b.toNat : Int)] 5)).drew.drew := (((Fr.refl [k] w).setCell (by simp) _).alloc _).drewN 2
    have HX := Lib.hid (show ConAt ((w.setCell ⟨k, f, none⟩ (.string (s ++ ⟨#[b]⟩))).alloc (.cells #[.int .u8 (b.toNat : Int)] 5)).drew.drew c k { x with ks := x.ks.set f (appB s b) } ∧ Fr [k] w ((w.setCell ⟨k, f, none⟩ (.string (s ++ ⟨#[b]⟩))).alloc (.cells #[.int .u8 (b.toNat : Int)] 5)).drew.drew from
      ⟨⟨⟨cap, hb.fr hX (by simp; omega), h1, h2⟩, (hk.set_ f (appB s b)).fr ((((Fr.refl [] _).alloc _).drewN 2)) (by simp), hT.out⟩, hX⟩)
    clear h1 h2 hok hs hto hk hb hfo hf hk1 hX
    go_region_law (fail)
    all_goals
      go_wp2_with fail
      go_end0
      exact ⟨rfl, HX.out.1, HX.out.2⟩
  · have hk1 : key1 s b = s := by unfold key1; rw [if_neg h16]
    rw [hk1] at hT ⊢
    have e : x.ks.set f s = x.ks := by
      apply List.ext_getElem?
      intro i
      rw [List.getElem?_set]
      split
      · next hi =>
        subst hi
        split
        · exact hs.symm
        · next hn => rw [List.getElem?_eq_none (by omega)]
      · rfl
    rw [e] at hT ⊢
    have HX := Lib.hid (show ConAt w.drew c k { x with ks := x.ks } ∧ Fr [k] w w.drew from ⟨⟨⟨cap, hb.drew, h1, h2⟩, hk, hT.out⟩, (Fr.refl [k] w).drew⟩)
    have d1 : ¬ (s.size : Int) < 16 := by omega
    clear h1 h2 hok hs hto hk hb hfo hf hk1
    go_enter Tryd.func49, Tryd.ntmps49
    go_wp2_with fail
    go_region_held3 (fun W => W.cell? ⟨c, 2, none⟩ = some (.int .i64 (f : Int)) ∧ W.cell? ⟨c, 5, none⟩ = some (.slice (some ⟨k, 0, none⟩) x.lv cap) ∧ W.cell? ⟨k, f, none⟩ = some (.string s)) (first | exact ⟨c2, c5, ks⟩ | go_keep) (fail)
    go_wp2_with fail
    go_end0
    exact ⟨rfl, HX.out.1, HX.out.2⟩
end Go.Proofs.YtkjahokffpihmaaDoor
