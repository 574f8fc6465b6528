/- The program's disk: Flush's closure. -/
import Derived.Test.YthmnloapjdalpaaW10
namespace Go.Proofs.Ythmnloapjdalpaa
open Go.RowKit
set_option linter.unusedVariables false
set_option linter.unusedSimpArgs false
theorem refused_fr (p g m : Nat) (F : FuncId) (caps : Array Value) (d : Dk) (V : Int) (w : World) (h : DiskAt w p g m d) (eF : ∀ args W, (callFunc F args).run Try.prog W = .ok (.enter F args) W)
    (hC : Calls Try.prog F caps w fun e w' => e = .returned (.int .i64 V) ∧ Fr [] w w') :
    Calls Try.prog 69 #[ptr p, .func (.func F) #[] caps] w fun e w' => e = .returned (.int .i64 (if d.dead = true then 2 else V)) ∧ Fr [] w w' := by
  have hA := Lib.hid hC
  obtain ⟨cap, cv, ⟨c0, c1, c2, c3, c4, fz⟩, hc, hm, hz⟩ := h.cells
  obtain ⟨Z, hZ⟩ : ∃ Z, (if d.dead = true then (2 : Int) else V) = Z := ⟨_, rfl⟩
  rw [hZ]
  have hz' := Lib.hid hZ
  clear h c1 c2 c3 c0 fz hz hc hm hC hZ
  cases hd : d.dead with
  | true =>
    rw [hd, if_pos rfl] at hz'
    rw [hd] at c4
    go_enter Try.func69, Try.ntmps69
    go_wp2_with fail
    go_ret
    exact ⟨ret_int hz'.out, Fr.refl _ _⟩
  | false =>
    rw [hd, if_neg (by simp)] at hz'
    rw [hd] at c4
    go_enter Try.func69, Try.ntmps69
    go_wp2_with (refine hA.out.mono ?_; rintro e w' ⟨rfl, hf⟩)
    go_ret
    exact ⟨ret_int hz'.out, hf⟩
def fl1E (d : Dk) (a b : Int) : Int := if a < 0 ∨ b < 0 ∨ (d.n : Int) < a ∨ (d.n : Int) - a < b then 71 else 0
theorem flushE0_eq (d : Dk) (a b : Int) : (if d.dead = true then 2 else fl1E d a b) = d.flushE0 a b := rfl
theorem flush1_any (p g m x y z : Nat) (d : Dk) (a b : Int) (w : World) (h : DiskAt w p g m d) (hx : w.cell? ⟨x, 0, none⟩ = some (.int .i64 a)) (hy : w.cell? ⟨y, 0, none⟩ = some (.int .i64 b)) (hz : w.cell? ⟨z, 0, none⟩ = some (ptr p))
    (ha1 : a ≤ 9223372036854775807) (hb1 : b ≤ 9223372036854775807) :
    Calls Try.prog 89 #[ptr x, ptr y, ptr z] w fun e w' => e = .returned (.int .i64 (fl1E d a b)) ∧ Fr [] w w' := by
  have hA := Lib.hid (fun (W : World) (hf : Fr [] w W) => Count_any p g m d W (h.to hf))
  have hn := h.ok.n2
  have E := Lib.hid (show (if a < 0 ∨ b < 0 ∨ (d.n : Int) < a ∨ (d.n : Int) - a < b then (71 : Int) else 0) = fl1E d a b from rfl)
  clear h
  generalize fl1E d a b = V at *
  generalize d.n = N at *
  by_cases h1 : a < 0
  · have d1 : decide (a < 0) = true := decide_eq_true h1
    rw [if_pos (.inl h1)] at E
    go_enter Try.func89, Try.ntmps89
    go_wp2_with fail
    go_quiet (first | (go_at_call 29; refine Calls.quiet_of_same ((hA.out _ ((Fr.refl _ _).drewN _)).mono (fun _ _ h => ⟨h.1, h.2.symm⟩))))
    go_wp2_with fail
    go_ret
    exact ⟨ret_int E.out, (Fr.refl _ _).drewN _⟩
  have d1 : decide (a < 0) = false := decide_eq_false h1
  by_cases h2 : b < 0
  · have d2 : decide (b < 0) = true := decide_eq_true h2
    rw [if_pos (.inr (.inl h2))] at E
    go_enter Try.func89, Try.ntmps89
    go_wp2_with fail
    go_quiet (first | (go_at_call 29; refine Calls.quiet_of_same ((hA.out _ ((Fr.refl _ _).drewN _)).mono (fun _ _ h => ⟨h.1, h.2.symm⟩))))
    go_wp2_with fail
    go_ret
    exact ⟨ret_int E.out, (Fr.refl _ _).drewN _⟩
  have d2 : decide (b < 0) = false := decide_eq_false h2
  by_cases h3 : (N : Int) < a
  · have d3 : decide ((N : Int) < a) = true := decide_eq_true h3
    rw [if_pos (.inr (.inr (.inl h3)))] at E
    go_enter Try.func89, Try.ntmps89
    go_wp2_with fail
    go_quiet (first | (go_at_call 29; refine Calls.quiet_of_same ((hA.out _ ((Fr.refl _ _).drewN _)).mono (fun _ _ h => ⟨h.1, h.2.symm⟩))))
    go_wp2_with fail
    go_ret
    exact ⟨ret_int E.out, (Fr.refl _ _).drewN _⟩
  have d3 : decide ((N : Int) < a) = false := decide_eq_false h3
  have hw : IntKind.i64.wrap ((N : Int) - a) = (N : Int) - a := IntWalk.i64_in _ (by omega)
  by_cases h4 : (N : Int) - a < b
  · have d4 : decide ((N : Int) - a < b) = true := decide_eq_true h4
    rw [if_pos (.inr (.inr (.inr h4)))] at E
    go_enter Try.func89, Try.ntmps89
    go_wp2_with fail
    go_quiet (first | (go_at_call 29; refine Calls.quiet_of_same ((hA.out _ ((Fr.refl _ _).drewN _)).mono (fun _ _ h => ⟨h.1, h.2.symm⟩))))
    go_wp2_with fail
    go_ret
    exact ⟨ret_int E.out, (Fr.refl _ _).drewN _⟩
  · have d4 : decide ((N : Int) - a < b) = false := decide_eq_false h4
    rw [if_neg (by omega)] at E
    go_enter Try.func89, Try.ntmps89
    go_wp2_with fail
    go_quiet (first | (go_at_call 29; refine Calls.quiet_of_same ((hA.out _ ((Fr.refl _ _).drewN _)).mono (fun _ _ h => ⟨h.1, h.2.symm⟩))))
    go_wp2_with fail
    go_ret
    exact ⟨ret_int E.out, (Fr.refl _ _).drewN _⟩
end Go.Proofs.Ythmnloapjdalpaa
