/- The program's disk: Write. -/
import Derived.Test.YthmnloapjdalpaaW9
import Derived.Deep.RegionWith
namespace Go.Proofs.Ythmnloapjdalpaa
open Go.RowKit
set_option linter.unusedVariables false
set_option linter.unusedSimpArgs false
theorem Turned.cell_far {p g m : Nat} {w w1 : World} {d : Dk} (h : Turned p g m w d w1) {b j : Nat} {u : Value} (hc : w.cell? ⟨b, j, none⟩ = some u) (hb : b ∉ [p, g, m]) : w1.cell? ⟨b, j, none⟩ = some u := by
  obtain ⟨g', m', h1, h2, h3, h4⟩ := h
  exact h2.cell_some hc hb
theorem Turned.of_drew {p g m : Nat} {w w1 : World} {d : Dk} (h : Turned p g m w.drew d w1) : Turned p g m w d w1 := by
  obtain ⟨g', m', h1, h2, h3, h4⟩ := h
  exact ⟨g', m', h1, ((Fr.refl _ w).drew).trans h2, h3, h4⟩
theorem u108 : Try.prog.underlying 108 = some (.map 3 9) := by kernel_rfl
theorem Write_any (p g m : Nat) (d : Dk) (i : Int) (t : ByteArray) (w : World) (h : DiskAt w p g m d) (ht : t.size ≤ maxLen) :
    Calls Try.prog 30 #[ptr p, .int .i64 i, .string t] w fun e w' => e = .returned (.int .i64 (d.writeE i t)) ∧ Turned p g m w (d.writeS i t) w' := by
  have hR := Lib.hid (fun (W : World) (hB : Box3 w W (ptr p) (.int .i64 i) (.string t)) => (refused_any p g m 70 #[ptr w.heap.size, ptr (w.heap.size + 1), ptr (w.heap.size + 1 + 1)] d (wr1E d i t) W (h.to hB.fr) enter70
    (write1_any p g m _ _ _ d i t W (h.to hB.fr) hB.k0 hB.k1 hB.k2)))
  have hB0 := Lib.hid (Box3.made w 36 3 9 (ptr p) (.int .i64 i) (.string t))
  rw [writeE0_eq] at hR
  have H := Lib.hid h
  have hpl := h.ltp
  have hml := h.ltm
  by_cases h0 : d.writeE0 i t = 0
  · have E1 : d.writeE i t = if d.gone = true then 2 else 0 := if_pos h0
    have E2 : d.writeS i t = if d.gone = true then (d.put i.toNat t).tick.die d.ch else (d.put i.toNat t).tick := if_pos h0
    rw [h0] at hR
    have h9 : (∃ k : Nat, i = k ∧ k < d.n) ∧ t.size = 128 := by
      unfold Dk.writeE0 at h0
      split at h0
      · cases h0
      · split at h0
        · cases h0
        · split at h0
          · cases h0
          · rename_i h1 h2 h3
            exact ⟨⟨i.toNat, by omega, by omega⟩, by omega⟩
    obtain ⟨⟨k, rfl, hk⟩, hsz⟩ := h9
    have hu := Lib.hid (fun (W : World) (hf : Fr [] w W) => (h.to hf).um.put 108 u108 hk ht)
    rw [show ((k : Int)).toNat = k from rfl] at E2
    have E1' := Lib.hid E1
    have E2' := Lib.hid E2
    have Hk := Lib.hid (show k < d.n ∧ t.size = 128 from ⟨hk, hsz⟩)
    clear h E1 E2 hk hsz h0 ht
    go_enter Try.func30, Try.ntmps30
    go_wp2_with (go_at_call 69; refine (hR.out _ hB0.out).mono ?_; rintro e w1 ⟨rfl, rfl⟩)
    have hB1 := hB0.out
    generalize ((w.alloc (Obj.cells #[ptr p] 36)).alloc (Obj.cells #[Value.int IntKind.i64 k] 3)).alloc (Obj.cells #[Value.string t] 9) = w1 at *
    obtain ⟨w2, hput, hum, hfm⟩ := hu.out w1.drew hB1.fr.drew
    obtain ⟨k0, k1, k2⟩ := hB1.to (Fr.refl [] w1) (by simp)
    obtain ⟨cap, cv, ⟨-, c1, -, -, -, -⟩, -⟩ := (H.out.to hB1.fr).cells
    have HD2 := Lib.hid ((H.out.to hB1.fr.drew).put Hk.out.1 Hk.out.2 hfm hum)
    have Hf2 : Hid (Fr [p, g, m] w w2) := Lib.hid ((hB1.fr.drew.mono (S' := [p, g, m]) (fun k hk _ => by cases hk)).step hfm (fun k hk => .inl (by simp at hk; simp [hk])))
    obtain ⟨j0, j1, j2⟩ := hB1.to ((Fr.refl [m] w1).drew.trans hfm) (by simp; exact hml)
    obtain ⟨cap2, cv2, ⟨-, l1, -, l3, -, -⟩, -, -, hz2⟩ := HD2.out.cells
    have HZ2 := Lib.hid hz2
    clear hz2
    have J := Lib.hid (show w.heap.size + 1 + 1 < w2.heap.size from Nat.lt_of_lt_of_le hB1.sz hfm.size)
    clear hB1 hum hfm hu
    go_region_held3 (fun W => W.cell? ⟨w.heap.size, 0, none⟩ = some (ptr p) ∧ W.cell? ⟨w.heap.size + 1, 0, none⟩ = some (.int .i64 k) ∧ W.cell? ⟨w.heap.size + 1 + 1, 0, none⟩ = some (.string t) ∧ W.cell? ⟨p, 1, none⟩ = some (.map (some m))) (first | exact ⟨k0, k1, k2, c1⟩ | exact ⟨j0, j1, j2, l1⟩) (fail)
    have hG := Lib.hid (goes_any p g m _ w2 HD2.out)
    clear k0 k1 k2 c1 hput
    cases hg : d.gone with
    | true =>
      rw [show (d.put k t).gone = d.gone from rfl, hg] at hG
      rw [hg] at E1' E2'
      go_wp2_with (go_at_call 72; refine hG.out.mono ?_; rintro e w3 ⟨rfl, h3, f3⟩)
      obtain ⟨cap3, cv3, ⟨-, -, -, m3, -, -⟩, -, -, hz3⟩ := h3.cells
      obtain ⟨A, n, cap', rfl⟩ := hz3.form
      have hD := Lib.hid (dies_any p g m _ A n cap' _ w3.drew (h3.to (Fr.refl _ _).drew) ((hz3.fr (Fr.refl [] _).drew (NoZ.nil _)).zw))
      have i0 : w3.cell? ⟨w.heap.size, 0, none⟩ = some (ptr p) := f3.cell_some j0 (by simp; omega)
      have hfar : w.heap.size ∉ [p, g, m] := by have := H.out.ltg; simp; omega
      have Hf3 := Lib.hid (Hf2.out.trans (f3.mono (fun k hk _ => by simp at hk; simp [hk])))
      rw [tick_ch] at hD
      have E1'' : Hid (d.writeE (↑k) t = 2) := Lib.hid (by rw [E1'.out]; simp)
      have E2'' : Hid (d.writeS (↑k) t = (d.put k t).tick.die d.ch) := Lib.hid (by rw [E2'.out]; simp)
      clear hz3 h3 f3 E1' E2' j0 j1 j2 l1 l3 hG
      go_region_with (first | (go_at_call 73; refine hD.out.mono ?_; rintro e w4 ⟨rfl, hT⟩))
      all_goals (go_wp2_with fail; go_ret; exact ⟨ret_int E1''.out.symm, by rw [E2''.out]; exact hT.of_drew.after Hf3.out⟩)
    | false =>
      rw [show (d.put k t).gone = d.gone from rfl, hg] at hG
      rw [hg] at E1' E2'
      go_wp2_with (go_at_call 72; refine hG.out.mono ?_; rintro e w3 ⟨rfl, h3, f3⟩)
      go_ret
      refine ⟨ret_int E1'.out.symm, g, m, by rw [E2'.out]; exact h3, Hf2.out.trans (f3.mono (fun k hk _ => by simp at hk; simp [hk])), .inl rfl, .inl rfl⟩
  · have E1 := Lib.hid (show d.writeE i t = d.writeE0 i t from if_neg h0)
    have E2 := Lib.hid (show d.writeS i t = d from if_neg h0)
    clear h
    generalize d.writeE0 i t = V at *
    go_enter Try.func30, Try.ntmps30
    go_wp2_with (go_at_call 69; refine (hR.out _ hB0.out).mono ?_; rintro e w1 ⟨rfl, rfl⟩)
    go_ret
    exact ⟨ret_int E1.out.symm, g, m, by rw [E2.out]; exact H.out.to hB0.out.fr, hB0.out.fr.mono (fun k hk => by cases hk), .inl rfl, .inl rfl⟩
end Go.Proofs.Ythmnloapjdalpaa
