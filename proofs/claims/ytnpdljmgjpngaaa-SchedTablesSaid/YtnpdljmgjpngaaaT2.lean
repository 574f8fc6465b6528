/- Tables: the reference's methods, and Clone. -/
import Derived.Test.YtnpdljmgjpngaaaL6
import Derived.Test.YtnpdljmgjpngaaaRd
import Derived.Test.YtnpdljmgjpngaaaLib2
namespace Go.Proofs.Ytnpdljmgjpngaaa
open Go.RowKit
set_option linter.unusedVariables false
set_option linter.unusedSimpArgs false

/-- A table of the reference in memory: its own block q, the flags' block g, the counts' block h. -/
def RTab (w : World) (q g h : Nat) (s : List (Bool × Int)) : Prop :=
  ∃ (cap cap' : Nat) (cs cs' : Array Value), s.length ≤ cap ∧ s.length ≤ cap' ∧ Blk w q 85 #[.slice (some ⟨g, 0, none⟩) s.length cap, .slice (some ⟨h, 0, none⟩) s.length cap'] ∧ Blk w g 4 cs ∧ Blk w h 3 cs' ∧ ∀ (j : Nat) (x : Bool × Int), s[j]? = some x → cs[j]? = some (.bool x.1) ∧ cs'[j]? = some (.int .i64 x.2)
theorem RTab.fr {w w' : World} {q g h : Nat} {s : List (Bool × Int)} {S : List Nat} (H : RTab w q g h s) (hf : Fr S w w') (hq : q ∉ S) (hg : g ∉ S) (hh : h ∉ S) : RTab w' q g h s := by
  obtain ⟨cap, cap', cs, cs', h0, h0', h1, h2, h3, h4⟩ := H
  exact ⟨cap, cap', cs, cs', h0, h0', h1.fr hf hq, h2.fr hf hg, h3.fr hf hh, h4⟩
theorem RTab.lt {w : World} {q g h : Nat} {s : List (Bool × Int)} (H : RTab w q g h s) : q < w.heap.size ∧ g < w.heap.size ∧ h < w.heap.size := by
  obtain ⟨cap, cap', cs, cs', -, -, h1, h2, h3, h4⟩ := H
  exact ⟨h1.lt, h2.lt, h3.lt⟩
/-- Blocks of these types are none of the table's. -/
theorem RTab.bq {w : World} {q g h : Nat} {s : List (Bool × Int)} (H : RTab w q g h s) : ∃ a, Blk w q 85 a := by obtain ⟨cap, cap', cs, cs', -, -, h1, -⟩ := H; exact ⟨_, h1⟩
theorem RTab.bg {w : World} {q g h : Nat} {s : List (Bool × Int)} (H : RTab w q g h s) : ∃ a, Blk w g 4 a := by obtain ⟨cap, cap', cs, cs', -, -, h1, h2, -⟩ := H; exact ⟨_, h2⟩
theorem RTab.bh {w : World} {q g h : Nat} {s : List (Bool × Int)} (H : RTab w q g h s) : ∃ a, Blk w h 3 a := by obtain ⟨cap, cap', cs, cs', -, -, h1, h2, h3, -⟩ := H; exact ⟨_, h3⟩
theorem RTab.cells {w : World} {q g h : Nat} {s : List (Bool × Int)} (H : RTab w q g h s) : ∃ cap cap', w.cell? ⟨q, 0, none⟩ = some (.slice (some ⟨g, 0, none⟩) s.length cap) ∧ w.cell? ⟨q, 1, none⟩ = some (.slice (some ⟨h, 0, none⟩) s.length cap') ∧
    (∀ i, w.frozen? ⟨g, i, none⟩ = false) ∧ (∀ i, w.frozen? ⟨h, i, none⟩ = false) ∧ g ≠ q ∧ h ≠ q ∧ g ≠ h ∧
    ∀ i x, s[i]? = some x → w.cell? ⟨g, i, none⟩ = some (.bool x.1) ∧ w.cell? ⟨h, i, none⟩ = some (.int .i64 x.2) := by
  obtain ⟨cap, cap', cs, cs', h0, h0', h1, h2, h3, h4⟩ := H
  refine ⟨cap, cap', by rw [h1.cell]; rfl, by rw [h1.cell]; rfl, h2.frozen, h3.frozen, h2.ne_ h1 (by decide), h3.ne_ h1 (by decide), h2.ne_ h3 (by decide), fun i x hx => ?_⟩
  exact ⟨by rw [h2.cell]; exact (h4 _ _ hx).1, by rw [h3.cell]; exact (h4 _ _ hx).2⟩
theorem RTab.setR {w : World} {q g h : Nat} {s : List (Bool × Int)} {i : Nat} {x : Bool × Int} (H : RTab w q g h s) (hx : s[i]? = some x) (b : Bool) : RTab (w.setCell ⟨g, i, none⟩ (.bool b)) q g h (s.set i (b, x.2)) := by
  obtain ⟨cap, cap', cs, cs', h0, h0', h1, h2, h3, h4⟩ := H
  have hil : i < s.length := (List.getElem?_eq_some_iff.1 hx).1
  refine ⟨cap, cap', _, cs', by simpa using h0, by simpa using h0', by rw [List.length_set]; exact h1.far (h1.ne_ h2 (by decide)) _, h2.set_ _ _, h3.far (h3.ne_ h2 (by decide)) _, fun j y hy => ?_⟩
  rw [List.getElem?_set] at hy
  by_cases hij : i = j
  · subst hij
    rw [if_pos rfl, if_pos hil] at hy
    injection hy with hy
    subst hy
    have := h4 _ _ hx
    refine ⟨?_, this.2⟩
    rw [Array.getElem?_setIfInBounds_self_of_lt (Array.getElem?_eq_some_iff.1 this.1).1]
  · rw [if_neg hij] at hy
    rw [Array.getElem?_setIfInBounds_ne hij]
    exact h4 _ _ hy
theorem RTab.setS {w : World} {q g h : Nat} {s : List (Bool × Int)} {i : Nat} {x : Bool × Int} (H : RTab w q g h s) (hx : s[i]? = some x) (z : Int) : RTab (w.setCell ⟨h, i, none⟩ (.int .i64 z)) q g h (s.set i (x.1, z)) := by
  obtain ⟨cap, cap', cs, cs', h0, h0', h1, h2, h3, h4⟩ := H
  have hil : i < s.length := (List.getElem?_eq_some_iff.1 hx).1
  refine ⟨cap, cap', cs, _, by simpa using h0, by simpa using h0', by rw [List.length_set]; exact h1.far (h1.ne_ h3 (by decide)) _, h2.far (h2.ne_ h3 (by decide)) _, h3.set_ _ _, fun j y hy => ?_⟩
  rw [List.getElem?_set] at hy
  by_cases hij : i = j
  · subst hij
    rw [if_pos rfl, if_pos hil] at hy
    injection hy with hy
    subst hy
    have := h4 _ _ hx
    refine ⟨this.1, ?_⟩
    rw [Array.getElem?_setIfInBounds_self_of_lt (Array.getElem?_eq_some_iff.1 this.2).1]
  · rw [if_neg hij] at hy
    rw [Array.getElem?_setIfInBounds_ne hij]
    exact h4 _ _ hy

theorem Has_yes (q g h : Nat) (s : List (Bool × Int)) (w : World) (i : Int) (H : RTab w q g h s) (h1 : 0 ≤ i) (h2 : i < s.length) :
    Calls Try.prog 44 #[.pointer (some ⟨q, 0, none⟩), .int .i64 i] w fun e w' => e = .returned (.bool true) ∧ w = w' := by
  obtain ⟨cap, cap', c0, -⟩ := H.cells
  clear H
  go_enter Try.func44, Try.ntmps44
  go_wp2
  go_ret
  exact ⟨rfl, rfl⟩
theorem Has_no (q g h : Nat) (s : List (Bool × Int)) (w : World) (i : Int) (H : RTab w q g h s) (h1 : i < 0 ∨ (s.length : Int) ≤ i) :
    Calls Try.prog 44 #[.pointer (some ⟨q, 0, none⟩), .int .i64 i] w fun e w' => e = .returned (.bool false) ∧ w = w' := by
  obtain ⟨cap, cap', c0, -⟩ := H.cells
  clear H
  by_cases h3 : i < 0
  · clear h1
    go_enter Try.func44, Try.ntmps44
    go_wp2
    go_ret
    exact ⟨rfl, rfl⟩
  · have h4 : ¬ i < s.length := by omega
    clear h1
    go_enter Try.func44, Try.ntmps44
    go_wp2
    go_ret
    exact ⟨rfl, rfl⟩

set_option maxHeartbeats 400000 in
theorem rEnter_any (q g h : Nat) (s : List (Bool × Int)) (w : World) (i : Int) (H0 : RTab w q g h s) (hl : s.length ≤ 8) (hs : ∀ x, x ∈ s → 0 ≤ x.2 ∧ x.2 ≤ 4611686018427387904) :
    Calls Try.prog 26 #[.pointer (some ⟨q, 0, none⟩), .int .i64 i] w fun e w' => e = .returned (.tuple #[.bool (entB s i), .int .i64 (argE s i)]) ∧ RTab w' q g h (entS s i) ∧ Fr [g, h] w w' := by
  cases hh : has s i with
  | false =>
    have Hn := Lib.hid (Has_no q g h s w i H0 (has_no hh))
    have H := Lib.hid H0
    have Hh := Lib.hid hh
    clear H0 hh
    go_enter Try.func26, Try.ntmps26
    go_wp2_with (go_at_call 44; go_must ((with_reducible refine (Hn.out).mono ?_); rintro e w1 ⟨rfl, rfl⟩))
    go_ret2
    refine ⟨?_, ?_, Fr.refl _ _⟩
    · rw [entB, argE, Hh.out]; rfl
    · rw [entS, entB, Hh.out]; exact H.out
  | true =>
    obtain ⟨j, rfl, hj, ⟨r, z⟩, hx⟩ := has_yes hh
    have Hy := Lib.hid (Has_yes q g h s w (j : Int) H0 (by omega) (by omega))
    obtain ⟨cap, cap', c0, c0', cf, cf', n1, n2, n3, cc⟩ := H0.cells
    obtain ⟨c1, c2⟩ := cc j _ hx
    have hz := hs _ (List.mem_of_getElem? hx)
    have hzb : z ≤ 4611686018427387904 := hz.2
    have hz0 : 0 ≤ z := hz.1
    have hjl : (j : Int) < s.length := by omega
    have H := Lib.hid H0
    have Hh := Lib.hid hh
    have Hx := Lib.hid hx
    have Hgd := Lib.hid (getD_some hx)
    clear H0 hh hx cc hz
    simp only at c1 c2
    cases r with
    | true =>
      go_enter Try.func26, Try.ntmps26
      go_wp2_with (go_at_call 44; go_must ((with_reducible refine (Hy.out).mono ?_); rintro e w1 ⟨rfl, rfl⟩))
      go_ret2
      refine ⟨?_, ?_, Fr.refl _ _⟩
      · rw [entB, argE, Hh.out, Hgd.out]; rfl
      · rw [entS, entB, Hh.out, Hgd.out]; exact H.out
    | false =>
      have hfin := (H.out.setR Hx.out true).setS (i := j) (x := (true, z)) (by simp [hj]) (z + 1)
      rw [List.set_set] at hfin
      have Hfin := Lib.hid hfin
      clear hfin
      go_enter Try.func26, Try.ntmps26
      go_wp2_with (go_at_call 44; go_must ((with_reducible refine (Hy.out).mono ?_); rintro e w1 ⟨rfl, rfl⟩))
      go_ret2
      refine ⟨?_, ?_, ((Fr.refl _ _).setCell (.inl (by simp)) _).setCell (.inl (by simp)) _⟩
      · rw [entB, argE, Hh.out, Hgd.out]; rfl
      · rw [entS, entB, Hh.out, Hgd.out]
        exact Hfin.out

set_option maxHeartbeats 400000 in
theorem rTrap_any (q g h : Nat) (s : List (Bool × Int)) (w : World) (i : Int) (H0 : RTab w q g h s) (hl : s.length ≤ 8) :
    Calls Try.prog 27 #[.pointer (some ⟨q, 0, none⟩), .int .i64 i] w fun e w' => e = .returned (.int .i64 (argE s i)) ∧ RTab w' q g h (trapS s i) ∧ Fr [g, h] w w' := by
  cases hh : has s i with
  | false =>
    have Hn := Lib.hid (Has_no q g h s w i H0 (has_no hh))
    have H := Lib.hid H0
    have Hh := Lib.hid hh
    clear H0 hh
    go_enter Try.func27, Try.ntmps27
    go_wp2_with (go_at_call 44; go_must ((with_reducible refine (Hn.out).mono ?_); rintro e w1 ⟨rfl, rfl⟩))
    go_ret
    refine ⟨?_, ?_, Fr.refl _ _⟩
    · rw [argE, Hh.out]; rfl
    · rw [trapS, Hh.out]; exact H.out
  | true =>
    obtain ⟨j, rfl, hj, ⟨r, z⟩, hx⟩ := has_yes hh
    have Hy := Lib.hid (Has_yes q g h s w (j : Int) H0 (by omega) (by omega))
    obtain ⟨cap, cap', c0, c0', cf, cf', n1, n2, n3, cc⟩ := H0.cells
    obtain ⟨c1, c2⟩ := cc j _ hx
    have hjl : (j : Int) < s.length := by omega
    have Hfin := Lib.hid (H0.setR hx false)
    have Hh := Lib.hid hh
    have Hgd := Lib.hid (getD_some hx)
    clear H0 hh hx cc
    simp only at c1 c2
    go_enter Try.func27, Try.ntmps27
    go_wp2_with (go_at_call 44; go_must ((with_reducible refine (Hy.out).mono ?_); rintro e w1 ⟨rfl, rfl⟩))
    go_ret
    refine ⟨?_, ?_, (Fr.refl _ _).setCell (.inl (by simp)) _⟩
    · rw [argE, Hh.out]; rfl
    · rw [trapS, Hh.out, Hgd.out]
      exact Hfin.out

theorem rRuns_any (q g h : Nat) (s : List (Bool × Int)) (w : World) (i : Int) (H0 : RTab w q g h s) (hl : s.length ≤ 8) :
    Calls Try.prog 30 #[.pointer (some ⟨q, 0, none⟩), .int .i64 i] w fun e w' => e = .returned (.bool (runsV s i)) ∧ w = w' := by
  cases hh : has s i with
  | false =>
    have Hn := Lib.hid (Has_no q g h s w i H0 (has_no hh))
    have Hh := Lib.hid hh
    clear H0 hh
    go_enter Try.func30, Try.ntmps30
    go_wp2_with (go_at_call 44; go_must ((with_reducible refine (Hn.out).mono ?_); rintro e w1 ⟨rfl, rfl⟩))
    go_ret
    refine ⟨?_, rfl⟩
    rw [runsV, Hh.out]; rfl
  | true =>
    obtain ⟨j, rfl, hj, ⟨r, z⟩, hx⟩ := has_yes hh
    have Hy := Lib.hid (Has_yes q g h s w (j : Int) H0 (by omega) (by omega))
    obtain ⟨cap, cap', c0, c0', cf, cf', n1, n2, n3, cc⟩ := H0.cells
    obtain ⟨c1, c2⟩ := cc j _ hx
    have hjl : (j : Int) < s.length := by omega
    have Hh := Lib.hid hh
    have Hgd := Lib.hid (getD_some hx)
    clear H0 hh hx cc
    simp only at c1 c2
    go_enter Try.func30, Try.ntmps30
    go_wp2_with (go_at_call 44; go_must ((with_reducible refine (Hy.out).mono ?_); rintro e w1 ⟨rfl, rfl⟩))
    go_ret
    refine ⟨?_, rfl⟩
    rw [runsV, Hh.out, Hgd.out]; rfl
theorem rStarts_any (q g h : Nat) (s : List (Bool × Int)) (w : World) (i : Int) (H0 : RTab w q g h s) (hl : s.length ≤ 8) :
    Calls Try.prog 31 #[.pointer (some ⟨q, 0, none⟩), .int .i64 i] w fun e w' => e = .returned (.int .i64 (startsV s i)) ∧ w = w' := by
  cases hh : has s i with
  | false =>
    have Hn := Lib.hid (Has_no q g h s w i H0 (has_no hh))
    have Hh := Lib.hid hh
    clear H0 hh
    go_enter Try.func31, Try.ntmps31
    go_wp2_with (go_at_call 44; go_must ((with_reducible refine (Hn.out).mono ?_); rintro e w1 ⟨rfl, rfl⟩))
    go_ret
    refine ⟨?_, rfl⟩
    rw [startsV, Hh.out]; rfl
  | true =>
    obtain ⟨j, rfl, hj, ⟨r, z⟩, hx⟩ := has_yes hh
    have Hy := Lib.hid (Has_yes q g h s w (j : Int) H0 (by omega) (by omega))
    obtain ⟨cap, cap', c0, c0', cf, cf', n1, n2, n3, cc⟩ := H0.cells
    obtain ⟨c1, c2⟩ := cc j _ hx
    have hjl : (j : Int) < s.length := by omega
    have Hh := Lib.hid hh
    have Hgd := Lib.hid (getD_some hx)
    clear H0 hh hx cc
    simp only at c1 c2
    go_enter Try.func31, Try.ntmps31
    go_wp2_with (go_at_call 44; go_must ((with_reducible refine (Hy.out).mono ?_); rintro e w1 ⟨rfl, rfl⟩))
    go_ret
    refine ⟨?_, rfl⟩
    rw [startsV, Hh.out, Hgd.out]; rfl
end Go.Proofs.Ytnpdljmgjpngaaa
