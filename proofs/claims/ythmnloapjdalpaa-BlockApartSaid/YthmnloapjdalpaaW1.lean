/- The program's disk: Count, Dead, at, refused, Read, Safe. -/
import Derived.Test.YthmnloapjdalpaaAt
namespace Go.Proofs.Ythmnloapjdalpaa
open Go.RowKit
set_option linter.unusedVariables false
set_option linter.unusedSimpArgs false
theorem Count_any (p g m : Nat) (d : Dk) (w : World) (h : DiskAt w p g m d) : Calls Try.prog 29 #[ptr p] w fun e w' => e = .returned (.int .i64 d.n) ∧ w = w' := by
  obtain ⟨cap, cv, ⟨c0, c1, c2, c3, c4, fz⟩, hc, hm, hz⟩ := h.cells
  have hn := h.ok.n2
  have hdv : (128 * (d.n : Int)).tdiv 128 = d.n := by rw [Int.tdiv_eq_ediv_of_nonneg (by omega)]; omega
  clear h c1 c2 c3 c4 fz hz hc hm
  go_enter Try.func29, Try.ntmps29
  go_wp2
  go_ret
  exact ⟨rfl, rfl⟩
theorem Dead_any (p g m : Nat) (d : Dk) (w : World) (h : DiskAt w p g m d) : Calls Try.prog 66 #[ptr p] w fun e w' => e = .returned (.bool d.dead) ∧ w = w' := by
  obtain ⟨cap, cv, ⟨c0, c1, c2, c3, c4, fz⟩, hc, hm, hz⟩ := h.cells
  clear h c1 c2 c3 c0 fz hz hc hm
  generalize d.dead = dd at *
  go_enter Try.func66, Try.ntmps66
  go_wp2
  go_ret
  exact ⟨rfl, rfl⟩
theorem at_any (p g m : Nat) (d : Dk) (i : Int) (w : World) (h : DiskAt w p g m d) : Calls Try.prog 71 #[ptr p, .int .i64 i] w fun e w' => e = .returned (.int .i64 (atE d i)) ∧ w = w' := by
  have hC := Lib.hid (Count_any p g m d w h)
  have e0 : (if i < 0 ∨ (d.n : Int) ≤ i then (71 : Int) else 0) = atE d i := rfl
  have E := Lib.hid e0
  clear h e0
  generalize atE d i = V at *
  generalize d.n = N at *
  by_cases h1 : i < 0
  · rw [if_pos (.inl h1)] at E
    go_enter Try.func71, Try.ntmps71
    go_wp2_with (go_at_call 29; refine hC.out.mono ?_; rintro e w' ⟨rfl, rfl⟩)
    go_ret
    exact ⟨ret_int E.out, rfl⟩
  · by_cases h2 : (N : Int) ≤ i
    · rw [if_pos (.inr h2)] at E
      go_enter Try.func71, Try.ntmps71
      go_wp2_with (go_at_call 29; refine hC.out.mono ?_; rintro e w' ⟨rfl, rfl⟩)
      go_ret
      exact ⟨ret_int E.out, rfl⟩
    · rw [if_neg (by omega)] at E
      go_enter Try.func71, Try.ntmps71
      go_wp2_with (go_at_call 29; refine hC.out.mono ?_; rintro e w' ⟨rfl, rfl⟩)
      go_ret
      exact ⟨ret_int E.out, rfl⟩
theorem read1_any (p g m a b : Nat) (d : Dk) (i : Int) (w : World) (h : DiskAt w p g m d) (ha : w.cell? ⟨a, 0, none⟩ = some (ptr p)) (hb : w.cell? ⟨b, 0, none⟩ = some (.int .i64 i)) :
    Calls Try.prog 102 #[ptr a, ptr b] w fun e w' => e = .returned (.int .i64 (atE d i)) ∧ w = w' := by
  have hA := Lib.hid (at_any p g m d i w h)
  clear h
  generalize atE d i = V at *
  go_enter Try.func102, Try.ntmps102
  go_wp2_with (go_at_call 71; refine hA.out.mono ?_; rintro e w' ⟨rfl, rfl⟩)
  go_ret
  exact ⟨rfl, rfl⟩
theorem refused_read (p g m a b : Nat) (d : Dk) (i : Int) (w : World) (h : DiskAt w p g m d) (ha : w.cell? ⟨a, 0, none⟩ = some (ptr p)) (hb : w.cell? ⟨b, 0, none⟩ = some (.int .i64 i)) :
    Calls Try.prog 69 #[ptr p, .func (.func 102) #[] #[ptr a, ptr b]] w fun e w' => e = .returned (.int .i64 (d.readE i)) ∧ w = w' := by
  have hA := Lib.hid (read1_any p g m a b d i w h ha hb)
  obtain ⟨cap, cv, ⟨c0, c1, c2, c3, c4, fz⟩, hc, hm, hz⟩ := h.cells
  have E := Lib.hid (show (if d.dead = true then (2 : Int) else atE d i) = d.readE i from rfl)
  clear h c1 c2 c3 c0 fz hz hc hm ha hb
  generalize d.readE i = V at *
  generalize atE d i = X at *
  cases hd : d.dead with
  | true =>
    rw [hd, if_pos rfl] at E
    rw [hd] at c4
    go_enter Try.func69, Try.ntmps69
    go_wp2_with (go_at_call 102; refine hA.out.mono ?_; rintro e w' ⟨rfl, rfl⟩)
    go_ret
    exact ⟨ret_int E.out, rfl⟩
  | false =>
    rw [hd, if_neg (by simp)] at E
    rw [hd] at c4
    go_enter Try.func69, Try.ntmps69
    go_wp2_with (go_at_call 102; refine hA.out.mono ?_; rintro e w' ⟨rfl, rfl⟩)
    go_ret
    exact ⟨ret_int E.out, rfl⟩
theorem Safe_any (p g m : Nat) (d : Dk) (w : World) (h : DiskAt w p g m d) : Calls Try.prog 31 #[ptr p] w fun e w' => e = .returned (.string d.safe) ∧ w = w' := by
  obtain ⟨cap, cv, ⟨c0, c1, c2, c3, c4, fz⟩, hc, hm, hz⟩ := h.cells
  have hcv := conv_wb (o := 0) (n := 128 * d.n) (cap := cap) h.sb (by omega)
  have E := Lib.hid (show bs d.s 0 (128 * d.n) = d.safe from rfl)
  clear h c1 c2 c3 c4 fz hz hc hm
  generalize d.safe = V at *
  generalize bs d.s 0 (128 * d.n) = X at *
  generalize 128 * d.n = N at *
  go_enter Try.func31, Try.ntmps31
  go_wp2
  go_ret
  exact ⟨by rw [E.out]; rfl, rfl⟩
end Go.Proofs.Ythmnloapjdalpaa
