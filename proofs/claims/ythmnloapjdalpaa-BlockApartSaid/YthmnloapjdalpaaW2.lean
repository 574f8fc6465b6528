/- The program's disk: Read. -/
import Derived.Test.YthmnloapjdalpaaW1
import Derived.IntWalk
namespace Go.Proofs.Ythmnloapjdalpaa
open Go.RowKit
set_option linter.unusedVariables false
set_option linter.unusedSimpArgs false
theorem sec_none {d : Dk} {i : Nat} (h : d.u i = none) : d.sec i = bs d.s (i * 128) 128 := by unfold Dk.sec; rw [h]
theorem sec_some {d : Dk} {i : Nat} {t : ByteArray} (h : d.u i = some t) : d.sec i = t := by unfold Dk.sec; rw [h]
theorem readE_cases (d : Dk) (i : Int) : d.readE i ≠ 0 ∨ (d.readE i = 0 ∧ ∃ k : Nat, i = k ∧ k < d.n ∧ d.dead = false) := by
  by_cases h : d.readE i = 0
  · refine .inr ⟨h, ?_⟩
    unfold Dk.readE atE at h
    split at h
    · omega
    · split at h
      · omega
      · rename_i hd h1
        exact ⟨i.toNat, by omega, by omega, by simpa using hd⟩
  · exact .inl h
theorem readE_int (d : Dk) (i : Int) : d.readE i = 2 ∨ d.readE i = 71 ∨ d.readE i = 0 := by
  unfold Dk.readE atE
  split
  · exact .inl rfl
  · split
    · exact .inr (.inl rfl)
    · exact .inr (.inr rfl)
def ReadP (w : World) (d : Dk) (i : Int) (e : Ending) (w' : World) : Prop := e = .returned (.tuple #[.string (d.readV i), .int .i64 (d.readE i)]) ∧ Fr [] w w'
set_option maxHeartbeats 1000000 in
theorem Read_any (p g m : Nat) (d : Dk) (i : Int) (w : World) (h : DiskAt w p g m d) : Calls Try.prog 65 #[ptr p, .int .i64 i] w (ReadP w d i) := by
  have hf : Fr [] w ((w.alloc (.cells #[ptr p] 36)).alloc (.cells #[.int .i64 i] 3)) := ((Fr.refl [] w).alloc _).alloc _
  have hf1 : Fr [] (w.alloc (.cells #[ptr p] 36)) ((w.alloc (.cells #[ptr p] 36)).alloc (.cells #[.int .i64 i] 3)) := (Fr.refl [] _).alloc _
  have ca : ((w.alloc (.cells #[ptr p] 36)).alloc (.cells #[.int .i64 i] 3)).cell? ⟨w.heap.size, 0, none⟩ = some (ptr p) := ((Blk.new w 36 #[ptr p]).alloc _).cell 0
  have cb : ((w.alloc (.cells #[ptr p] 36)).alloc (.cells #[.int .i64 i] 3)).cell? ⟨w.heap.size + 1, 0, none⟩ = some (.int .i64 i) := by
    have := (Blk.new (w.alloc (.cells #[ptr p] 36)) 3 #[.int .i64 i]).cell 0
    rw [World.size_alloc] at this
    exact this
  have h1 := h.to hf
  have HR := Lib.hid (refused_read p g m w.heap.size (w.heap.size + 1) d i _ h1 ca cb)
  obtain ⟨cap, cv, ⟨c0, c1, c2, c3, c4, fz⟩, hc, hm, hz⟩ := h1.cells
  have HF := Lib.hid hf
  have hok := h.ok
  have hlt := h.ltp
  obtain ⟨e, he⟩ : ∃ e, d.readE i = e := ⟨_, rfl⟩
  rcases readE_cases d i with h0 | ⟨h0, k, hk, hkn, hd⟩
  · have E : Hid (d.readV i = ⟨#[]⟩) := Lib.hid (by unfold Dk.readV; rw [if_neg h0])
    rw [he] at h0 HR
    clear h h1 c1 c2 c3 c0 c4 fz hz hc hm hok hf hf1
    go_enter Try.func65, Try.ntmps65
    go_wp2_with (go_at_call 69; refine HR.out.mono ?_; rintro e w' ⟨rfl, rfl⟩)
    go_ret2
    unfold ReadP
    rw [E.out, he]
    exact ⟨rfl, HF.out⟩
  · subst hk
    have hn := hok.n2
    have E : Hid (d.readV (k : Int) = d.sec k) := Lib.hid (by unfold Dk.readV; rw [if_pos h0]; rfl)
    have E0 := Lib.hid h0
    rw [h0] at HR
    have b1 : (k : Int) * 128 < 9223372036854775807 := by omega
    cases hu : d.u k with
    | some t =>
      have hl := fun j => (h1.um.drewN j).look_some 108 Try.underlying108 hu
      rw [sec_some hu] at E
      clear h h1 c2 c3 c0 c4 fz hz hc hm hok hf hf1 he hn h0 hu
      go_enter Try.func65, Try.ntmps65
      go_wp2_with (go_at_call 69; refine HR.out.mono ?_; rintro e w' ⟨rfl, rfl⟩)
      go_quiet (fail)
      go_wp2
      go_ret2
      unfold ReadP
      rw [E.out, E0.out]
      exact ⟨rfl, HF.out.drewN _⟩
    | none =>
      have hl := fun j => (h1.um.drewN j).look_none 108 Try.underlying108 hkn hu
      rw [sec_none hu] at E
      have hcv := fun j => conv_wb (o := k * 128) (n := 128) (cap := cap - k * 128) (h1.sb.fr ((Fr.refl [] ((w.alloc (.cells #[ptr p] 36)).alloc (.cells #[.int .i64 (k : Int)] 3))).drewN j) (by simp)) (by omega)
      clear h h1 c2 c3 c4 fz hz hm hok hf hf1 he h0 hu
      generalize bs d.s (k * 128) 128 = X at *
      generalize d.n = N at *
      go_enter Try.func65, Try.ntmps65
      go_wp2_with (go_at_call 69; refine HR.out.mono ?_; rintro e w' ⟨rfl, rfl⟩)
      go_quiet (fail)
      go_wp2_with fail
      have m1 : IntKind.i64.wrap ((k : Int) * 128) = (k : Int) * 128 := IntWalk.i64_in _ (by omega)
      have m2 : IntKind.i64.wrap ((k : Int) + 1) = (k : Int) + 1 := IntWalk.i64_in _ (by omega)
      have m3 : IntKind.i64.wrap (((k : Int) + 1) * 128) = ((k : Int) + 1) * 128 := IntWalk.i64_in _ (by omega)
      have m4 := fun wx => slice_lh wx g 0 (128 * N) cap (k * 128) (k * 128 + 128) ((k : Int) * 128) (((k : Int) + 1) * 128) (by omega) (by omega) (by omega) (by omega) (by omega)
      rw [Nat.zero_add, Nat.add_sub_cancel_left] at m4
      go_quiet (fail)
      go_wp2
      go_ret2
      unfold ReadP
      rw [E.out, E0.out]
      exact ⟨rfl, (HF.out.drewN _).drewN _⟩
end Go.Proofs.Ythmnloapjdalpaa
