/- Line: Near, slices.Clone. -/
import Derived.Test.YtjnefafkpaopaaaW5
import Derived.Lib.SliceRun
namespace Go.Proofs.Ytjnefafkpaopaaa
open Go.RowKit
set_option linter.unusedVariables false
set_option linter.unusedSimpArgs false

def nn (x y : Nat) : Nat := (4 * tk x + tk y).toNat
theorem nn_lt (x y : Nat) : nn x y < 16 ∧ 4 * tk x + tk y = (nn x y : Int) := by
  have hx := tk_cases x
  have hy := tk_cases y
  unfold nn
  omega
theorem Near_any (x y : Nat) (w : World) : Calls Try.prog 13 #[.complex .f64 x y] w fun e w' => e = .returned (.tuple #[bif ins4 x && ins4 y then cx (nn x y) else .complex .f64 0 0, .bool (ins4 x && ins4 y)]) ∧ w = w' := by
  have H1 := Lib.hid (number_any x y w)
  have hl := nn_lt x y
  have H2 := Lib.hid (point_any (nn x y) w hl.1)
  rw [hl.2] at H1
  generalize (ins4 x && ins4 y) = p at *
  generalize nn x y = n at *
  cases p with
  | true =>
    go_enter Try.func13, Try.ntmps13
    go_wp2_with fail
    refine H1.out.mono ?_
    rintro e w' ⟨rfl, rfl⟩
    go_wp2_with fail
    refine H2.out.mono ?_
    rintro e w' ⟨rfl, rfl⟩
    go_wp2_with fail
    go_ret2
    exact ⟨rfl, rfl⟩
  | false =>
    go_enter Try.func13, Try.ntmps13
    go_wp2_with fail
    refine H1.out.mono ?_
    rintro e w' ⟨rfl, rfl⟩
    go_wp2_with fail
    go_ret2
    exact ⟨rfl, rfl⟩

def ClP (w : World) (n : Nat) (xs : List Value) (e : Ending) (w' : World) : Prop := ∃ g cap cs, e = .returned (.slice (some ⟨g, 0, none⟩) n cap) ∧ Blk w' g 27 cs ∧ (∀ (j : Nat) (u : Value), xs[j]? = some u → cs[j]? = some u) ∧ Fr [] w w' ∧ w.heap.size ≤ g ∧ n ≤ cap ∧ cap ≤ maxLen
theorem own_some {w : World} {base : Nat} {e : TypeId} {size : Nat} {v : Value} {n : Nat} {xs : List Value} (h : w.ownsRow base e size v n xs) (hv : v ≠ .slice none 0 0) :
    ∃ g cap cs, v = .slice (some ⟨g, 0, none⟩) n cap ∧ base ≤ g ∧ n ≤ cap ∧ cap ≤ maxLen ∧ Blk w g e cs ∧ ∀ (j : Nat) (u : Value), xs[j]? = some u → cs[j]? = some u := by
  rcases h.2 with ⟨h1, h2⟩ | ⟨g, cap, cur, rfl, hb, hh, h3, h4, h5, h6⟩
  · exact absurd h1 hv
  · refine ⟨g, cap, cur, rfl, hb, h3, h4, hh, fun j u hu => ?_⟩
    rw [← h6, List.getElem?_take] at hu
    split at hu
    · simpa using hu
    · cases hu
set_option maxHeartbeats 400000 in
theorem cclone_any (l : List (Nat × Nat)) (g o cap n : Nat) (w : World) (h : Sl w 27 1 (.slice (some ⟨g, o, none⟩) n cap) n (enc l)) (hn : n ≤ 4096) :
    Calls Try.prog 20 #[.slice (some ⟨g, o, none⟩) n cap] w (ClP w n (enc l)) := by
  obtain ⟨i0, hi0, hz0, hz1, hz2⟩ := info3 Try.info27
  have hnil := fun w => Lib.run_eql_slice_nil (P := Try.prog) w 22 27 (some ⟨g, o, none⟩) n cap 0 0 Try.underlying22
  have Hf0 := Lib.hid ((Fr.refl [] w).alloc (.cells #[] 27))
  have hm0 : (w.alloc (.cells #[] 27)).ownsRow w.heap.size 27 1 (.slice (some ⟨w.heap.size, 0, none⟩) 0 0) 0 [] := World.ownsRow_made w #[] 0 (Nat.le_refl _) (by simp [maxLen]) (by simp)
  have Hm0 := Lib.hid hm0
  have hlen := h.1
  have hcell : ∀ (j : Nat) (u : Value), (enc l)[j]? = some u → (w.alloc (.cells #[] 27)).cell? ((⟨g, o, none⟩ : Addr).add j) = some u := by
    intro j u hu
    rcases (h.fr Hf0.out (by simp)).form with ⟨h1, _⟩ | ⟨g', o', cap', h1, _, _, _, _, h5⟩
    · cases h1
    · injection h1 with h1 _ _
      injection h1 with h1
      injection h1 with h1 h2 _
      subst h1; subst h2
      exact h5 j u hu
  have Hcell := Lib.hid hcell
  have Hlen := Lib.hid hlen
  clear hm0 h hcell hlen
  go_enter Try.func20, Try.ntmps20
  go_wp2_with (at_builtin; go_must (refine wpList_append_own _ rfl (.tmp 5) (.tmp 6) 22 rfl w.heap.size 27 i0 (.complex .f64 0 0) 1 16 Try.underlying22 hi0 hz0 hz1 hz2 rfl (by decide) _ _ _ rfl Hm0.out _ n cap (enc l) rfl Hlen.out Hcell.out (enc_one _) (by simp only [maxLen]; omega) (by omega) (by simp) ?_; intro v1 w1 hown1 hgrow1 hnn; have hf1 := Hf0.out.own Hm0.out hgrow1))
  go_ret
  have hv : v1 ≠ .slice none 0 0 := fun h => by have := (hnn.1 h).1; cases this
  obtain ⟨g1, cap1, cs1, rfl, h1, h2, h2', h3, h4⟩ := own_some hown1 hv
  refine ⟨g1, cap1, cs1, ?_, h3, by simpa using h4, hf1, h1, by simpa using h2, h2'⟩
  simp
end Go.Proofs.Ytjnefafkpaopaaa
