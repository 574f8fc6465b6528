/- Memories in the program's memory; Check, of the program. -/
import Derived.Test.YtonongaakieciaaRows
import Derived.Test.YtonongaakieciaaLib2
import Derived.Test.YtonongaakieciaaB3
import Derived.WalkKit
import Derived.WalkSpells
import Derived.WalkLawsBesides
import Derived.Deep.QuietTactic
import Derived.BigQuiet
import Derived.Lib.Hide
import Derived.Deep.LoopGhost
import Derived.Deep.DeepMust
import Derived.Deep.RegionHeld3
import Derived.Laws.EntriesVeiled
namespace Go.Proofs.Ytonongaakieciaa
open Go.RowKit
set_option linter.unusedVariables false
set_option linter.unusedSimpArgs false

theorem ret_bool {a b : Bool} (h : a = b) : Ending.returned (.bool a) = .returned (.bool b) := by rw [h]
theorem ret_int {k : IntKind} {a b : Int} (h : a = b) : Ending.returned (.int k a) = .returned (.int k b) := by rw [h]
abbrev ptr (p : Nat) : Value := .pointer (some ⟨p, 0, none⟩)

/-- A slice of pages, in block b. -/
structure Tb (w : World) (b : Nat) (v : Value) (t : List Pg) : Prop where
  len : t.length ≤ maxLen
  form : ∃ A cap, v = .slice A t.length cap ∧ ∀ i p, t[i]? = some p → ∃ off, A = some ⟨b, off, none⟩ ∧ b < w.heap.size ∧ w.cell? ⟨b, off + i * 2, none⟩ = some (.int .i64 p.f) ∧ w.cell? ⟨b, off + i * 2 + 1, none⟩ = some (.int .i64 p.r)
theorem Tb.at_ {w : World} {b : Nat} {A : Option Addr} {n cap : Nat} {t : List Pg} (h : Tb w b (.slice A n cap) t) {i : Nat} {p : Pg} (hi : t[i]? = some p) : ∃ off, A = some ⟨b, off, none⟩ ∧ b < w.heap.size ∧ w.cell? ⟨b, off + i * 2, none⟩ = some (.int .i64 p.f) ∧ w.cell? ⟨b, off + i * 2 + 1, none⟩ = some (.int .i64 p.r) := by
  obtain ⟨_, A', cap', h1, h2⟩ := h
  injection h1 with hA _ _
  obtain ⟨off, h3, h4⟩ := h2 i p hi
  exact ⟨off, hA.trans h3, h4⟩
theorem Tb.fr {S : List Nat} {w w' : World} {b : Nat} {v : Value} {t : List Pg} (h : Tb w b v t) (hf : Fr S w w') (hb : b ∉ S) : Tb w' b v t := by
  obtain ⟨h0, A, cap, h1, h2⟩ := h
  refine ⟨h0, A, cap, h1, fun i p hi => ?_⟩
  obtain ⟨off, hA, hb', c0, c1⟩ := h2 i p hi
  have hs := hf.size
  exact ⟨off, hA, by omega, hf.cell_some c0 hb, hf.cell_some c1 hb⟩
theorem Tb.n_eq {w : World} {b : Nat} {A : Option Addr} {n cap : Nat} {t : List Pg} (h : Tb w b (.slice A n cap) t) : n = t.length := by
  obtain ⟨_, A', cap', h1, _⟩ := h
  injection h1

/-- The head of a memory: the slice of its frames. -/
structure Hd (w : World) (p F n : Nat) : Prop where
  hd : ∃ cap, Blk w p 130 #[.slice (some ⟨F, 0, none⟩) n cap] ∧ n ≤ cap ∧ cap ≤ maxLen
  n1 : 1 ≤ n
  n2 : n ≤ 160
theorem Hd.fr {S : List Nat} {w w' : World} {p F n : Nat} (h : Hd w p F n) (hf : Fr S w w') (hp : p ∉ S) : Hd w' p F n := by
  obtain ⟨⟨cap, hb, h1⟩, h2, h3⟩ := h
  exact ⟨⟨cap, hb.fr hf hp, h1⟩, h2, h3⟩
theorem Hd.lt {w : World} {p F n : Nat} (h : Hd w p F n) : p < w.heap.size := by
  obtain ⟨⟨cap, hb, h1⟩, h2, h3⟩ := h
  exact hb.lt
theorem Hd.cell {w : World} {p F n : Nat} (h : Hd w p F n) : ∃ cap, w.cell? ⟨p, 0, none⟩ = some (.slice (some ⟨F, 0, none⟩) n cap) ∧ n ≤ cap ∧ cap ≤ maxLen := by
  obtain ⟨⟨cap, hb, h1⟩, h2, h3⟩ := h
  exact ⟨cap, by rw [hb.cell]; rfl, h1⟩

theorem bad_cases (n : Nat) (f r : Int) : f < -1 ∨ (-1 ≤ f ∧ (n : Int) ≤ f) ∨ (-1 ≤ f ∧ f < n ∧ r < 0) ∨ (-1 ≤ f ∧ f < n ∧ 7 < r) ∨ (f = -1 ∧ 0 ≤ r ∧ r ≤ 7 ∧ r ≠ 0) ∨ (f = -1 ∧ r = 0) ∨ (0 ≤ f ∧ f < n ∧ 0 ≤ r ∧ r ≤ 7) := by omega
set_option maxHeartbeats 2000000 in
theorem bad_any (f r : Int) (p F n k : Nat) (w : World) (h : Hd w p F n) (hk : w.cell? ⟨k, 0, none⟩ = some (ptr p)) :
    Calls Try.prog 86 #[.agg #[.int .i64 f, .int .i64 r], ptr k] w fun e w' => e = .returned (.bool (!okP n ⟨f, r⟩)) ∧ Fr [] w w' := by
  obtain ⟨cap, hc, -, -⟩ := h.cell
  have hn := h.n1
  have hpl := h.lt
  have hkl : k < w.heap.size := World.block_lt_of_cell? w _ hk
  clear h
  rcases bad_cases n f r with h1 | ⟨h0, h1⟩ | ⟨h0, h1, h2⟩ | ⟨h0, h1, h2⟩ | ⟨rfl, h1, h2, h3⟩ | ⟨rfl, rfl⟩ | ⟨h0, h1, h2, h3⟩
  · have e := Lib.hid (okP_not n ⟨f, r⟩ (by simp only; omega))
    have d0 : decide (f < -1) = true := by rw [decide_eq_true_iff]; omega
    go_enter Try.func86, Try.ntmps86
    go_wp2_with fail
    go_quiet (fail)
    go_wp2_with fail
    go_ret
    exact ⟨ret_bool (by rw [e.out]; rfl), ((Fr.refl _ w).alloc _).drewN _⟩
  · have e := Lib.hid (okP_not n ⟨f, r⟩ (by simp only; omega))
    have d0 : decide (f < -1) = false := by rw [decide_eq_false_iff_not]; omega
    have d1 : decide ((n : Int) ≤ f) = true := by rw [decide_eq_true_iff]; omega
    go_enter Try.func86, Try.ntmps86
    go_wp2_with fail
    go_quiet (fail)
    go_wp2_with fail
    go_ret
    exact ⟨ret_bool (by rw [e.out]; rfl), ((Fr.refl _ w).alloc _).drewN _⟩
  · have e := Lib.hid (okP_not n ⟨f, r⟩ (by simp only; omega))
    have d0 : decide (f < -1) = false := by rw [decide_eq_false_iff_not]; omega
    have d1 : decide ((n : Int) ≤ f) = false := by rw [decide_eq_false_iff_not]; omega
    have d2 : decide (r < 0) = true := by rw [decide_eq_true_iff]; omega
    go_enter Try.func86, Try.ntmps86
    go_wp2_with fail
    go_quiet (fail)
    go_wp2_with fail
    go_ret
    exact ⟨ret_bool (by rw [e.out]; rfl), ((Fr.refl _ w).alloc _).drewN _⟩
  · have e := Lib.hid (okP_not n ⟨f, r⟩ (by simp only; omega))
    have d0 : decide (f < -1) = false := by rw [decide_eq_false_iff_not]; omega
    have d1 : decide ((n : Int) ≤ f) = false := by rw [decide_eq_false_iff_not]; omega
    have d2 : decide (r < 0) = false := by rw [decide_eq_false_iff_not]; omega
    have d3 : decide (7 < r) = true := by rw [decide_eq_true_iff]; omega
    go_enter Try.func86, Try.ntmps86
    go_wp2_with fail
    go_quiet (fail)
    go_wp2_with fail
    go_ret
    exact ⟨ret_bool (by rw [e.out]; rfl), ((Fr.refl _ w).alloc _).drewN _⟩
  · have e := Lib.hid (okP_not n ⟨-1, r⟩ (by simp only; omega))
    have d0 : decide ((n : Int) ≤ -1) = false := by rw [decide_eq_false_iff_not]; omega
    have d1 : decide (r < 0) = false := by rw [decide_eq_false_iff_not]; omega
    have d2 : decide (7 < r) = false := by rw [decide_eq_false_iff_not]; omega
    have d3 : (r != 0) = true := by rw [bne_iff_ne]; omega
    go_enter Try.func86, Try.ntmps86
    go_wp2_with fail
    go_quiet (fail)
    go_wp2_with fail
    go_ret
    exact ⟨ret_bool (by rw [e.out]; rfl), ((Fr.refl _ w).alloc _).drewN _⟩
  · have e := Lib.hid ((okP_iff n ⟨-1, 0⟩).2 ⟨by simp, by simp only; omega, by simp, by simp, fun _ => rfl⟩)
    have d0 : decide ((n : Int) ≤ -1) = false := by rw [decide_eq_false_iff_not]; omega
    go_enter Try.func86, Try.ntmps86
    go_wp2_with fail
    go_quiet (fail)
    go_wp2_with fail
    go_ret
    exact ⟨ret_bool (by rw [e.out]; rfl), ((Fr.refl _ w).alloc _).drewN _⟩
  · have e := Lib.hid ((okP_iff n ⟨f, r⟩).2 (by simp only; omega))
    have d0 : decide (f < -1) = false := by rw [decide_eq_false_iff_not]; omega
    have d1 : decide ((n : Int) ≤ f) = false := by rw [decide_eq_false_iff_not]; omega
    have d2 : decide (r < 0) = false := by rw [decide_eq_false_iff_not]; omega
    have d3 : decide (7 < r) = false := by rw [decide_eq_false_iff_not]; omega
    have d4 : decide (f < 0) = false := by rw [decide_eq_false_iff_not]; omega
    go_enter Try.func86, Try.ntmps86
    go_wp2_with fail
    go_quiet (fail)
    go_wp2_with fail
    go_ret
    exact ⟨ret_bool (by rw [e.out]; rfl), ((Fr.refl _ w).alloc _).drewN _⟩

/-- What IndexFunc finds: the first page that may not be. -/
def IdxP (w : World) (n : Nat) (t : List Pg) (e : Ending) (w' : World) : Prop := ∃ k : Int, e = .returned (.int .i64 k) ∧ (decide (0 ≤ k) = !t.all (okP n)) ∧ Fr [] w w'
set_option maxHeartbeats 1000000 in
theorem idx_any (b p F n k m cap : Nat) (A : Option Addr) (t : List Pg) (w : World) (ht : Tb w b (.slice A m cap) t) (h : Hd w p F n) (hk : w.cell? ⟨k, 0, none⟩ = some (ptr p)) (hm : m ≤ 16) :
    Calls Try.prog 119 #[.slice A m cap, .func (.func 86) #[] #[ptr k]] w (IdxP w n t) := by
  have H := Lib.hid ht
  have hl := Lib.hid ht.n_eq
  have HH := Lib.hid h
  have HK := Lib.hid hk
  clear ht h hk
  go_enter Try.func119, Try.ntmps119
  go_wp2
  go_loopg [8] m (fun g i wr => ∃ j : Nat, j + g = m ∧ i = .int .i64 j ∧ (t.take j).all (okP n) = true ∧ Fr [] w wr)
  case atStart => exact ⟨0, by omega, rfl, by simp, Fr.refl _ _⟩
  case round =>
    obtain ⟨j, hj, rfl, hall, hfr⟩ := hrel
    have Hj := Lib.hid hj
    have Hall := Lib.hid hall
    clear hj hall
    by_cases hlt : j < m
    · obtain ⟨⟨f, r⟩, hx⟩ : ∃ x, t[j]? = some x := ⟨_, List.getElem?_eq_getElem (by have := hl.out; omega)⟩
      obtain ⟨off, hA, hbl, c0, c1⟩ := (H.out.fr hfr (by simp)).at_ hx
      subst hA
      have Hx := Lib.hid hx
      clear hx
      simp only at c0 c1
      have hb := bad_any f r p F n k wr (HH.out.fr hfr (by simp)) (hfr.cell_some HK.out (by simp))
      cases hm' : okP n ⟨f, r⟩ with
      | true =>
        rw [hm'] at hb
        have Hb := Lib.hid hb
        have Hm := Lib.hid hm'
        clear hb hm'
        go_wp2_with (first
          | (go_at_call 86; go_must ((with_reducible refine (Hb.out).mono ?_); rintro e w1 ⟨rfl, hf1⟩))
          | fail)
        go_roundg (m - (j + 1))
        case measure => have := Hj.out; omega
        case rel => exact ⟨j + 1, by have := Hj.out; omega, by go_num, by rw [List.take_add_one, Hx.out]; simp [Hm.out]; simpa using Hall.out, hfr.trans hf1⟩
      | false =>
        rw [hm'] at hb
        have Hb := Lib.hid hb
        have Hm := Lib.hid hm'
        clear hb hm'
        go_wp2_with (first
          | (go_at_call 86; go_must ((with_reducible refine (Hb.out).mono ?_); rintro e w1 ⟨rfl, hf1⟩))
          | fail)
        go_ret
        refine ⟨j, rfl, ?_, hfr.trans hf1⟩
        have : t.all (okP n) = false := by
          rw [List.all_eq_false]
          exact ⟨⟨f, r⟩, List.mem_of_getElem? Hx.out, by simp [Hm.out]⟩
        simp [this]
    · go_wp2
      go_ret
      refine ⟨-1, rfl, ?_, hfr⟩
      have h1 := Hall.out
      rw [List.take_of_length_le (by have := hl.out; omega)] at h1
      simp [h1]
set_option maxHeartbeats 400000 in
theorem contains_any (b p F n k m cap : Nat) (A : Option Addr) (t : List Pg) (w : World) (ht : Tb w b (.slice A m cap) t) (h : Hd w p F n) (hk : w.cell? ⟨k, 0, none⟩ = some (ptr p)) (hm : m ≤ 16) :
    Calls Try.prog 87 #[.slice A m cap, .func (.func 86) #[] #[ptr k]] w fun e w' => e = .returned (.bool (!t.all (okP n))) ∧ Fr [] w w' := by
  have HI := Lib.hid (idx_any b p F n k m cap A t w ht h hk hm)
  clear ht h hk
  go_enter Try.func87, Try.ntmps87
  go_wp2_with (go_at_call 119; go_must ((with_reducible refine HI.out.mono ?_); rintro e w1 ⟨m, rfl, hm, hf1⟩; have Hm := Lib.hid hm; clear hm))
  go_ret
  exact ⟨by rw [← Hm.out]; rfl, hf1⟩
set_option maxHeartbeats 400000 in
theorem Check_any (b p F n m cap : Nat) (A : Option Addr) (t : List Pg) (w : World) (ht : Tb w b (.slice A m cap) t) (h : Hd w p F n) :
    Calls Try.prog 47 #[ptr p, .slice A m cap] w fun e w' => e = .returned (.int .i64 (chT n t)) ∧ Fr [] w w' := by
  have hl := Lib.hid ht.n_eq
  have hml : m ≤ 9223372036854775807 := by have := ht.len; have := hl.out; simp only [maxLen] at *; omega
  by_cases hb : 16 < m
  · have e := Lib.hid (show chT n t = 84 from by
      unfold chT okT
      rw [if_neg]
      simp
      intro h
      have := hl.out
      omega)
    clear ht h
    go_enter Try.func47, Try.ntmps47
    go_wp2_with fail
    go_ret
    exact ⟨ret_int (by rw [e.out]), (Fr.refl _ _).alloc _⟩
  · have hb' : m ≤ 16 := by omega
    have hc := contains_any b p F n w.heap.size m cap A t (w.alloc (.cells #[ptr p] 54)) (ht.fr ((Fr.refl [] w).alloc _) (by simp)) (h.fr ((Fr.refl [] w).alloc _) (by simp)) ((Blk.new w 54 #[ptr p]).cell 0) hb'
    cases hm : t.all (okP n) with
    | true =>
      rw [hm] at hc
      have Hc := Lib.hid hc
      have e := Lib.hid (show chT n t = 0 from by
        unfold chT okT
        rw [if_pos]
        simp [hm]
        have := hl.out
        omega)
      clear hc hm ht h
      go_enter Try.func47, Try.ntmps47
      go_wp2_with (go_at_call 87; go_must ((with_reducible refine Hc.out.mono ?_); rintro e w1 ⟨rfl, hf1⟩))
      go_ret
      exact ⟨ret_int (by rw [e.out]), ((Fr.refl _ _).alloc _).trans hf1⟩
    | false =>
      rw [hm] at hc
      have Hc := Lib.hid hc
      have e := Lib.hid (show chT n t = 84 from by
        unfold chT okT
        rw [if_neg]
        simp [hm])
      clear hc hm ht h
      go_enter Try.func47, Try.ntmps47
      go_wp2_with (go_at_call 87; go_must ((with_reducible refine Hc.out.mono ?_); rintro e w1 ⟨rfl, hf1⟩))
      go_ret
      exact ⟨ret_int (by rw [e.out]), ((Fr.refl _ _).alloc _).trans hf1⟩
end Go.Proofs.Ytonongaakieciaa
