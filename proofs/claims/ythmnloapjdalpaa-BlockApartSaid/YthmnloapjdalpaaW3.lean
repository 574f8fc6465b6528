/- The program's disk: New, slices.Clone of bytes. -/
import Derived.Test.YthmnloapjdalpaaW2
import Derived.Lib.SliceRun
namespace Go.Proofs.Ythmnloapjdalpaa
open Go.RowKit
set_option linter.unusedVariables false
set_option linter.unusedSimpArgs false
theorem own_some {w : World} {base : Nat} {e : TypeId} {size : Nat} {v : Value} {n : Nat} {xs : List Value} (h : w.ownsRow base e size v n xs) (hv : v ≠ .slice none 0 0) :
    ∃ g cap cs, v = .slice (some ⟨g, 0, none⟩) n cap ∧ base ≤ g ∧ n ≤ cap ∧ cap ≤ maxLen ∧ Blk w g e cs ∧ ∀ (j : Nat) (u : Value), xs[j]? = some u → cs[j]? = some u := by
  rcases h.2 with ⟨h1, h2⟩ | ⟨g, cap, cur, rfl, hb, hh, h3, h4, h5, h6⟩
  · exact absurd h1 hv
  · refine ⟨g, cap, cur, rfl, hb, h3, h4, hh, fun j u hu => ?_⟩
    rw [← h6, List.getElem?_take] at hu
    split at hu
    · simpa using hu
    · cases hu
/-- Bytes as cells. -/
def bcs (l : Nat → UInt8) (o n : Nat) : List Value := (List.range n).map fun i => .int .u8 ((l (o + i)).toNat : Int)
theorem bcs_len (l : Nat → UInt8) (o n : Nat) : (bcs l o n).length = n := by simp [bcs]
theorem bcs_at (l : Nat → UInt8) (o n j : Nat) (hj : j < n) : (bcs l o n)[j]? = some (.int .u8 ((l (o + j)).toNat : Int)) := by simp [bcs, hj]
theorem bcs_one (l : Nat → UInt8) (o n : Nat) : ∀ u ∈ bcs l o n, u.oneCell' = true := by
  intro u hu
  obtain ⟨i, -, rfl⟩ := List.mem_map.1 hu
  rfl
theorem Wb.news {w : World} {g N o n : Nat} {l : Nat → UInt8} (h : Wb w g N l) (hn : o + n ≤ N) : ∀ (j : Nat) (u : Value), (bcs l o n)[j]? = some u → w.cell? ((⟨g, o, none⟩ : Addr).add j) = some u := by
  intro j u hu
  have hj : j < n := by
    have := (List.getElem?_eq_some_iff.1 hu).1
    rwa [bcs_len] at this
  rw [bcs_at _ _ _ _ hj] at hu
  rw [addr_add, h.cell (by omega), hu]
theorem Wb.of_row {w : World} {g n : Nat} {l : Nat → UInt8} {cs : Array Value} (h : Blk w g 5 cs) (o : Nat) (hc : ∀ (j : Nat) (u : Value), (bcs l o n)[j]? = some u → cs[j]? = some u) : Wb w g n (fun i => l (o + i)) := by
  have h1 : ∀ i, i < n → cs[i]? = some (.int .u8 ((l (o + i)).toNat : Int)) := fun i hi => hc i _ (bcs_at _ _ _ _ hi)
  refine Wb.of_blk h ?_ h1
  cases n with
  | zero => omega
  | succ n =>
    have := (Array.getElem?_eq_some_iff.1 (h1 n (by omega))).1
    omega
theorem Try.info5 : (Try.prog.info? 5).map (fun i => (i.zero, i.size, i.bytes)) = some (some (.int .u8 0), 1, 1) := by kernel_rfl
def CloneB (w : World) (n : Nat) (l : Nat → UInt8) (e : Ending) (w' : World) : Prop := ∃ g cap, e = .returned (.slice (some ⟨g, 0, none⟩) n cap) ∧ Wb w' g n l ∧ Fr [] w w' ∧ w.heap.size ≤ g ∧ n ≤ cap ∧ cap ≤ maxLen
set_option maxHeartbeats 400000 in
theorem cloneB_any (g cap n : Nat) (l : Nat → UInt8) (w : World) (h : Wb w g n l) (hn : n ≤ 524288) : Calls Try.prog 74 #[.slice (some ⟨g, 0, none⟩) n cap] w (CloneB w n l) := by
  obtain ⟨i0, hi0, hz0, hz1, hz2⟩ := info3 Try.info5
  have hnil := fun w => Lib.run_eql_slice_nil (P := Try.prog) w 30 5 (some ⟨g, 0, none⟩) n cap 0 0 Try.underlying30
  have Hf0 := Lib.hid ((Fr.refl [] w).alloc (.cells #[] 5))
  have hm0 : (w.alloc (.cells #[] 5)).ownsRow w.heap.size 5 1 (.slice (some ⟨w.heap.size, 0, none⟩) 0 0) 0 [] := World.ownsRow_made w #[] 0 (Nat.le_refl _) (by simp [maxLen]) (by simp)
  have Hm0 := Lib.hid hm0
  have Hcell := Lib.hid ((h.fr Hf0.out (by simp)).news (o := 0) (n := n) (by omega))
  clear hm0 h
  go_enter Try.func74, Try.ntmps74
  go_wp2_with (at_builtin; go_must (refine wpList_append_own _ rfl (.tmp 5) (.tmp 6) 30 rfl w.heap.size 5 i0 (.int .u8 0) 1 1 Try.underlying30 hi0 hz0 hz1 hz2 rfl (by decide) _ _ _ rfl Hm0.out _ n cap (bcs l 0 n) rfl (by rw [bcs_len]; omega) Hcell.out (bcs_one _ _ _) (by simp only [maxLen]; omega) (by omega) (by simp) ?_; intro v1 w1 hown1 hg1 hnn; have hf1 := Hf0.out.own Hm0.out hg1))
  go_ret
  have hv : v1 ≠ .slice none 0 0 := fun h => by have := (hnn.1 h).1; cases this
  obtain ⟨g1, cap1, cs1, rfl, h1, h2, h2', h3, h4⟩ := own_some hown1 hv
  have hw := Wb.of_row (l := l) (n := n) h3 0 (by simpa using h4)
  refine ⟨g1, cap1, ?_, hw.ext (fun i _ => by rw [Nat.zero_add]), hf1, h1, by simpa using h2, h2'⟩
  simp
end Go.Proofs.Ythmnloapjdalpaa
