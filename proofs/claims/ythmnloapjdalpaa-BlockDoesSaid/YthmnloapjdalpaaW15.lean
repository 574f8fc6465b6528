/- The program's disk: the map cloned, Clone. -/
import Derived.Test.YthmnloapjdalpaaW14
import Derived.Shelf.SlMaps.Clone
namespace Go.Proofs.Ythmnloapjdalpaa
open Go.RowKit Go.Maps
set_option linter.unusedVariables false
set_option linter.unusedSimpArgs false
def CloneM (w : World) (m n : Nat) (u : Nat → Option ByteArray) (e : Ending) (w' : World) : Prop := ∃ m', e = .returned (.map (some m')) ∧ UMap w' m' n u ∧ Fr [] w w' ∧ w.heap.size ≤ m'
theorem UMap.block {w : World} {m n : Nat} {u : Nat → Option ByteArray} (h : UMap w m n u) : ∃ es clock, w.heap[m]? = some (.map es clock) ∧ UMap (w.alloc (.map es clock)) w.heap.size n u := by
  obtain ⟨hn, D, ⟨es, clock, hb, F, hs, hD⟩, h1⟩ := h
  exact ⟨es, clock, hb, hn, D, ⟨es, clock, (MapKept.heap_alloc w _).1, F, hs, hD⟩, h1⟩
set_option maxRecDepth 100000 in
theorem cloneM_any (m n : Nat) (u : Nat → Option ByteArray) (w : World) (h : UMap w m n u) : Calls Try.prog 75 #[.map (some m)] w (CloneM w m n u) := by
  have hq := fun w => run_eql_map_nil_sl (P := Try.prog) w 108 _ _ (some m) u108
  obtain ⟨es, clock, hb, hu⟩ := h.block
  have HU := Lib.hid hu
  have HF := Lib.hid ((Fr.refl [] w).alloc (.map es clock))
  clear h hu
  go_enter Try.func75, Try.ntmps75
  go_wp2
  rw [run_callFunc_extern Try.func103 (by kernel_rfl) (by kernel_rfl) (by kernel_rfl) (e := Extern.MapsClone.clone) (by kernel_rfl), run_maps_clone_sl w 108 hb]
  simp only [Result.andThen]
  rw [Oper.upon_value]
  go_wp2
  rw [run_typeAssert_map_sl _ 108 20 _ _ _ u108]
  simp only [Result.andThen]
  rw [Oper.upon_value]
  go_wp2
  go_ret
  exact ⟨w.heap.size, rfl, HU.out, HF.out, Nat.le_refl _⟩
def CloneP (w : World) (d : Dk) (e : Ending) (w' : World) : Prop := ∃ p g m, e = .returned (ptr p) ∧ DiskAt w' p g m d ∧ Fr [] w w' ∧ w.heap.size ≤ p ∧ w.heap.size ≤ g ∧ w.heap.size ≤ m
theorem CloneP.made {w W : World} {d : Dk} {G M cp : Nat} {v : Value} (hok : d.Ok) (hz : Zs w v d.ch) (ff : Fr [] w W) (hwb : Wb W G (128 * d.n) d.s) (hum : UMap W M d.n d.u) (hG : w.heap.size ≤ G) (hM : w.heap.size ≤ M) (h1 : 128 * d.n ≤ cp) (h2 : cp ≤ maxLen) :
    CloneP w d (.returned (.pointer (some ⟨W.heap.size, 0, none⟩))) (W.alloc (.cells #[.slice (some ⟨G, 0, none⟩) (128 * d.n) cp, .map (some M), .int .i64 d.armed, v, .bool d.dead] 110)) := by
  have hf := (Fr.refl [] W).alloc (.cells #[.slice (some ⟨G, 0, none⟩) (128 * d.n) cp, .map (some M), .int .i64 d.armed, v, .bool d.dead] 110)
  exact ⟨W.heap.size, G, M, rfl, ⟨hok, ⟨cp, v, Blk.new _ _ _, h1, h2, (hz.fr ff (NoZ.nil _)).fr hf (NoZ.nil _)⟩, hwb.fr hf (by simp), hum.fr hf (by simp)⟩, ff.trans hf, ff.size, hG, hM⟩
theorem Clone_any (p g m : Nat) (d : Dk) (w : World) (h : DiskAt w p g m d) : Calls Try.prog 37 #[ptr p] w (CloneP w d) := by
  obtain ⟨cap, cv, ⟨c0, c1, c2, c3, c4, fz⟩, hc, hm, hz⟩ := h.cells
  have hn := h.ok.n2
  have h74 := Lib.hid (fun (W : World) (hf : Fr [] w W) => (cloneB_any g cap (128 * d.n) d.s W (h.to hf).sb (by omega)).mono (R' := fun e w' => ∃ G cp, e = .returned (.slice (some ⟨G, 0, none⟩) (128 * d.n) cp) ∧ Wb w' G (128 * d.n) d.s ∧ Fr [] W w' ∧ Fr [] w w' ∧ w.heap.size ≤ G ∧ 128 * d.n ≤ cp ∧ cp ≤ maxLen)
    (fun e w' ⟨G, cp, h1, h2, h3, h4, h5, h6⟩ => ⟨G, cp, h1, h2, h3, hf.trans h3, Nat.le_trans hf.size h4, h5, h6⟩))
  have h75 := Lib.hid (fun (W : World) (hf : Fr [] w W) => (cloneM_any m d.n d.u W (h.to hf).um).mono (R' := fun e w' => ∃ M, e = .returned (.map (some M)) ∧ UMap w' M d.n d.u ∧ Fr [] W w' ∧ Fr [] w w' ∧ w.heap.size ≤ M)
    (fun e w' ⟨M, h1, h2, h3, h4⟩ => ⟨M, h1, h2, h3, hf.trans h3, Nat.le_trans hf.size h4⟩))
  obtain ⟨A, nn, cq, rfl⟩ := hz.form
  have HZ := Lib.hid hz
  have Hok := Lib.hid h.ok
  have fw := (Fr.refl [] w).drew
  have HC := Lib.hid (show ∀ W, Fr [] w W → W.cell? ⟨p, 0, none⟩ = some (.slice (some ⟨g, 0, none⟩) (128 * d.n) cap) ∧ W.cell? ⟨p, 1, none⟩ = some (.map (some m)) ∧ W.cell? ⟨p, 2, none⟩ = some (.int .i64 d.armed) ∧ W.cell? ⟨p, 3, none⟩ = some (.slice A nn cq) ∧ W.cell? ⟨p, 4, none⟩ = some (.bool d.dead) from
    fun W hf => ⟨hf.cell_some c0 (by simp), hf.cell_some c1 (by simp), hf.cell_some c2 (by simp), hf.cell_some c3 (by simp), hf.cell_some c4 (by simp)⟩)
  have k0 := HC.out _ fw
  clear h fz hz
  go_enter Try.func37, Try.ntmps37
  go_wp2_with fail
  go_region_held3 (fun W => W.cell? ⟨p, 0, none⟩ = some (.slice (some ⟨g, 0, none⟩) (128 * d.n) cap) ∧ W.cell? ⟨p, 1, none⟩ = some (.map (some m)) ∧ W.cell? ⟨p, 2, none⟩ = some (.int .i64 d.armed) ∧ W.cell? ⟨p, 3, none⟩ = some (.slice A nn cq) ∧ W.cell? ⟨p, 4, none⟩ = some (.bool d.dead))
    (first | exact k0 | exact k1 | exact k2 | go_keep) (first
      | (go_at_call 74; refine (h74.out _ (by assumption)).mono ?_; rintro e w74 ⟨G, cp, rfl, hWb, hf74, ff74, hG, hcp1, hcp2⟩; have k1 := HC.out _ ff74)
      | (go_at_call 75; refine (h75.out _ (by assumption)).mono ?_; rintro e w75 ⟨M, rfl, hUM, hf75, ff75, hM⟩; have k2 := HC.out _ ff75))
  · go_wp2_with fail
    go_ret
    exact CloneP.made Hok.out HZ.out ff75 (hWb.fr hf75 (by simp)) hUM hG hM hcp1 hcp2
end Go.Proofs.Ythmnloapjdalpaa
