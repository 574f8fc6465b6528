/- The program's disk: dies, Crash. -/
import Derived.Test.YthmnloapjdalpaaW7
namespace Go.Proofs.Ythmnloapjdalpaa
open Go.RowKit
set_option linter.unusedVariables false
set_option linter.unusedSimpArgs false
theorem after_size (d : Dk) (l : List Int) : (d.after l).size = 128 * d.n := bs_size _ _ _
theorem after_at (d : Dk) (l : List Int) (i : Nat) (hi : i < 128 * d.n) : at8 (d.after l) i = leftB d (chAt l) i := by
  show at8 (bs _ 0 _) i = _
  rw [at8_bs hi, Nat.zero_add]
theorem dies_any (p g m : Nat) (d : Dk) (A : Option Addr) (n cap : Nat) (l : List Int) (w : World) (h : DiskAt w p g m d) (hz : Zw w (.slice A n cap) l) :
    Calls Try.prog 73 #[ptr p, .slice A n cap] w fun e w' => e = .returned (.tuple #[]) ∧ Turned p g m w (d.die l) w' := by
  have hA := Lib.hid (After_any p g m d A n cap l w h hz)
  obtain ⟨cp, cv, hb, hc, hm, hcz⟩ := h.hd
  have hs1 := after_size d l
  have hs2 := after_at d l
  have hn := h.ok.n2
  have Hok := Lib.hid (h.ok.die l)
  have HB := Lib.hid hb
  have HZ := Lib.hid hcz
  have hp := h.ltp
  obtain ⟨X, hX⟩ : ∃ X, d.after l = X := ⟨_, rfl⟩
  rw [hX] at hA hs1 hs2
  have Hs2 := Lib.hid hs2
  have hs1' := Lib.hid hs1
  have hmm := @run_makeMap Try.prog
  clear h hz hb hcz hX hs2 hc hm
  go_enter Try.func73, Try.ntmps73
  go_wp2_with (go_at_call 49; refine hA.out.mono ?_; rintro e w1 ⟨rfl, hf1⟩
               have hcv := run_bytes_of_string (P := Try.prog) w1 9 30 5 X Try.underlying9 Try.underlying30 Try.underlying5
               obtain ⟨C, hC⟩ : ∃ C, grownCap w1 X.size 0 5 = C := ⟨_, rfl⟩
               have hC1 : X.size ≤ C := by rw [← hC]; exact grownCap_ge ..
               have hC2 : C ≤ maxLen := by rw [← hC]; exact grownCap_le_maxLen w1 _ _ _ (by simp only [maxLen]; omega)
               rw [hC] at hcv
               have hwb : ∀ W : World, W.heap.size = w1.heap.size → Wb (W.alloc (.cells (bytesRow X C) 5 ((bytesRow X C).size, (bytesRow X C).size + 1))) w1.heap.size X.size (at8 X) := fun W hW => by rw [← hW]; exact Wb.made W X C (at8 X) (fun i hi => at8_get hi)
               have hb1 := HB.out.fr hf1 (by simp)
               have hp1 := hb1.lt
               have c0 := hb1.cell 0
               have c1 := hb1.cell 1
               have c2 := hb1.cell 2
               have c4 := hb1.cell 4
               simp at c0 c1 c2 c4
               have f0 := hb1.frozen 0
               have f1 := hb1.frozen 1
               have f2 := hb1.frozen 2
               have f4 := hb1.frozen 4
               generalize bytesRow X C = R at *
               have HWB := Lib.hid hwb
               have HB1 := Lib.hid hb1
               have Hf1 := Lib.hid hf1
               have HC := Lib.hid (show X.size ≤ C ∧ C ≤ maxLen from ⟨hC1, hC2⟩)
               clear hwb hb1 hf1 hC hC1 hC2)
  go_end0
  have hb4 := (((HB1.out.set_ 0 (.slice (some ⟨w1.heap.size, 0, none⟩) (128 * d.n) C)).set_ 1 (.map (some (w1.heap.size + 1)))).set_ 2 (.int .i64 0)).set_ 4 (.bool true)
  have hz4 := (((((HZ.out.fr Hf1.out (NoZ.nil _)).cells HB1.out 0 (.slice (some ⟨w1.heap.size, 0, none⟩) (128 * d.n) C)).cells (HB1.out.set_ 0 _) 1 (.map (some (w1.heap.size + 1)))).cells ((HB1.out.set_ 0 _).set_ 1 _) 2 (.int .i64 0)).cells (((HB1.out.set_ 0 _).set_ 1 _).set_ 2 _) 4 (.bool true))
  have hf4 : Fr [p] w1 ((((w1.setCell ⟨p, 0, none⟩ (.slice (some ⟨w1.heap.size, 0, none⟩) (128 * d.n) C)).setCell ⟨p, 1, none⟩ (.map (some (w1.heap.size + 1)))).setCell ⟨p, 2, none⟩ (.int .i64 0)).setCell ⟨p, 4, none⟩ (.bool true)) :=
    ((((Fr.refl [p] w1).setCell (.inl (by simp)) _).setCell (.inl (by simp)) _).setCell (.inl (by simp)) _).setCell (.inl (by simp)) _
  have hsz : ((((w1.setCell ⟨p, 0, none⟩ (.slice (some ⟨w1.heap.size, 0, none⟩) (128 * d.n) C)).setCell ⟨p, 1, none⟩ (.map (some (w1.heap.size + 1)))).setCell ⟨p, 2, none⟩ (.int .i64 0)).setCell ⟨p, 4, none⟩ (.bool true)).heap.size = w1.heap.size := by simp
  generalize (((w1.setCell ⟨p, 0, none⟩ (.slice (some ⟨w1.heap.size, 0, none⟩) (128 * d.n) C)).setCell ⟨p, 1, none⟩ (.map (some (w1.heap.size + 1)))).setCell ⟨p, 2, none⟩ (.int .i64 0)).setCell ⟨p, 4, none⟩ (.bool true) = W4 at *
  have hs1 := Hf1.out.size
  have hwb := HWB.out W4 hsz
  have hu := UMap.made (w := W4.alloc (Obj.cells R 5 (R.size, R.size + 1))) (n := d.n) hn
  rw [World.size_alloc, hsz] at hu
  refine ⟨rfl, w1.heap.size, w1.heap.size + 1, ⟨Hok.out, ⟨C, cv, ((hb4.alloc _).alloc _).drew, ?_, HC.out.2, ?_⟩, ?_, hu.drewN 1⟩, ?_, .inr hs1, .inr (by omega)⟩
  · have := HC.out.1
    show 128 * d.n ≤ C
    omega
  · exact hz4.fr (S := []) ((((Fr.refl [] W4).alloc _).alloc _).drew) (NoZ.nil _)
  · have h2 := (hwb.fr (S := []) (((Fr.refl [] _).alloc (Obj.map #[] 0)).drew) (by simp))
    show Wb _ w1.heap.size (128 * d.n) (leftB d (chAt l))
    rw [hs1'.out] at h2
    exact h2.ext (fun i hi => Hs2.out i hi)
  · exact (((((Hf1.out.mono (S' := [p, g, m]) (fun k hk _ => by cases hk)).step hf4 (fun k hk => .inl (by simp at hk; simp [hk]))).alloc _).alloc _).drew)
theorem Crash_any (p g m : Nat) (d : Dk) (A : Option Addr) (n cap : Nat) (l : List Int) (w : World) (h : DiskAt w p g m d) (hz : Zw w (.slice A n cap) l) :
    Calls Try.prog 32 #[ptr p, .slice A n cap] w fun e w' => e = .returned (.int .i64 d.crashE) ∧ Turned p g m w (d.crashS l) w' := by
  have c4 := h.cells
  obtain ⟨cp, cv, ⟨-, -, -, -, c4, -⟩, -⟩ := c4
  have hD := Lib.hid (dies_any p g m d A n cap l w h hz)
  cases hd : d.dead with
  | true =>
    have H := Lib.hid h
    have E1 := Lib.hid (show (2 : Int) = d.crashE by unfold Dk.crashE; rw [hd]; rfl)
    have E2 := Lib.hid (show d.crashS l = d by unfold Dk.crashS; rw [hd]; rfl)
    rw [hd] at c4
    clear hD h hz hd
    generalize d.crashE = V at *
    go_enter Try.func32, Try.ntmps32
    go_wp2_with fail
    go_ret
    exact ⟨ret_int E1.out, g, m, by rw [E2.out]; exact H.out, Fr.refl _ _, .inl rfl, .inl rfl⟩
  | false =>
    have E1 := Lib.hid (show (0 : Int) = d.crashE by unfold Dk.crashE; rw [hd]; rfl)
    have E2 := Lib.hid (show d.crashS l = d.die l by unfold Dk.crashS; rw [hd]; rfl)
    rw [hd] at c4
    clear h hz hd
    generalize d.crashE = V at *
    go_enter Try.func32, Try.ntmps32
    go_wp2_with (go_at_call 73; refine hD.out.mono ?_; rintro e w1 ⟨rfl, hT⟩)
    go_ret
    exact ⟨ret_int E1.out, by rw [E2.out]; exact hT⟩
end Go.Proofs.Ythmnloapjdalpaa
