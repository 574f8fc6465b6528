/- Clone of package port; Send and Receive of the reference on states. -/
import Derived.Test.YtblidpafeiiniaaW7
import Derived.Deep.RegionHeld3
namespace Go.Proofs.Ytblidpafeiiniaa
open Go.RowKit

theorem Sl.drew {w : World} {e : TypeId} {size : Nat} {v : Value} {n : Nat} {xs : List Value} (h : Sl w e size v n xs) : Sl w.drew e size v n xs := h
theorem encM_one (l : List (ByteArray × Int)) : ∀ u ∈ encM l, u.oneCell' = true := by
  induction l with
  | nil => intro u hu; simp [encM] at hu
  | cons m r ih =>
    intro u hu
    simp [encM] at hu
    rcases hu with rfl | rfl | hu
    · rfl
    · rfl
    · exact ih u hu
def SlPost (w : World) (e : TypeId) (size n : Nat) (xs : List Value) (en : Ending) (w' : World) : Prop := ∃ v, en = .returned v ∧ Sl w' e size v n xs ∧ Fr [] w w'

set_option maxHeartbeats 400000 in
theorem sclone_any (l : List (ByteArray × Int)) (v : Value) (w : World) (h : Sl w 62 2 v l.length (encM l)) (hn : l.length ≤ 8) : Calls Try.prog 24 #[v] w (SlPost w 62 2 l.length (encM l)) := by
  obtain ⟨i0, hi0, hz0, hz1, hz2⟩ := info3 Try.info62
  have H := Lib.hid h
  rcases h.form with ⟨rfl, h1, h2⟩ | ⟨g, o, cap, rfl, h1, h2, h3, h4, h5⟩
  · have hnil := fun w => Lib.run_eql_slice_nil (P := Try.prog) w 51 62 none 0 0 0 0 Try.underlying51
    have H1 := Lib.hid h1
    clear h h1 h2
    go_enter Try.func24, Try.ntmps24
    go_wp2
    go_ret
    exact ⟨_, rfl, H.out, Fr.refl _ _⟩
  · have hnil := fun w => Lib.run_eql_slice_nil (P := Try.prog) w 51 62 (some ⟨g, o, none⟩) l.length cap 0 0 Try.underlying51
    have Hf0 := Lib.hid ((Fr.refl [] w).alloc (.cells #[] 62))
    have hm0 : (w.alloc (.cells #[] 62)).ownsRow w.heap.size 62 2 (.slice (some ⟨w.heap.size, 0, none⟩) 0 0) 0 [] := World.ownsRow_made w #[] 0 (Nat.le_refl _) (by simp [maxLen]) (by simp)
    have Hm0 := Lib.hid hm0
    clear h hm0 h4 h5
    go_enter Try.func24, Try.ntmps24
    go_wp2_with (at_builtin; go_must (refine wpList_append_sl _ rfl (.tmp 5) (.tmp 6) 51 rfl w.heap.size 62 i0 (.agg #[.string ByteArray.empty, .int .i64 0]) 2 24 Try.underlying51 hi0 hz0 hz1 hz2 rfl (by decide) _ _ _ rfl Hm0.out _ _ _ rfl (H.out.fr Hf0.out (by simp)) (encM_one _) (by simp only [maxLen]; omega) (by omega) (by simp) ?_; intro v1 w1 hown1 hgrow1; have hf1 := Hf0.out.own Hm0.out hgrow1))
    go_ret
    exact ⟨_, rfl, by simpa using Sl.of_own hown1, hf1⟩

/-- What Clone hands back. -/
def ClonePost (w : World) (s : PS) (e : Ending) (w' : World) : Prop := ∃ p, e = .returned (ptr p) ∧ w.heap.size ≤ p ∧ PortAt w' p s ∧ Fr [] w w'
set_option maxHeartbeats 1000000 in
theorem clone_any (p : Nat) (s : PS) (w : World) (h : PortAt w p s) (hn : s.l.length ≤ 8) : Calls Try.prog 20 #[ptr p] w (ClonePost w s) := by
  obtain ⟨v, hb, hs⟩ := h
  have hlt := hb.lt
  have g0 := hb.cell 0
  have g1 := hb.cell 1
  have g2 := hb.cell 2
  have g3 := hb.cell 3
  have g4 := hb.cell 4
  have g5 := hb.cell 5
  have g6 := hb.cell 6
  simp at g0 g1 g2 g3 g4 g5 g6
  obtain ⟨A, cap, rfl, -⟩ := hs.shape
  have Hs := Lib.hid hs
  have Hb := Lib.hid hb
  clear hb hs
  go_enter Try.func20, Try.ntmps20
  go_wp2_with fail
  go_region_held3 (fun w' => w'.cell? ⟨p, 0, none⟩ = some (.int .i64 s.K) ∧ w'.cell? ⟨p, 1, none⟩ = some (.int .i64 s.F) ∧ w'.cell? ⟨p, 2, none⟩ = some (.int .i64 s.T) ∧ w'.cell? ⟨p, 3, none⟩ = some (.int .i64 s.S) ∧ w'.cell? ⟨p, 4, none⟩ = some (.int .i64 s.D) ∧ w'.cell? ⟨p, 5, none⟩ = some (.slice A s.l.length cap) ∧ w'.cell? ⟨p, 6, none⟩ = some (.int .i64 s.lost))
    (first
      | exact ⟨g0, g1, g2, g3, g4, g5, g6⟩
      | exact kk
      | (obtain ⟨x0, x1, x2, x3, x4, x5, x6⟩ := kk; exact ⟨((Fr.refl [] w1).alloc _).cell_some x0 (by simp), ((Fr.refl [] w1).alloc _).cell_some x1 (by simp), ((Fr.refl [] w1).alloc _).cell_some x2 (by simp), ((Fr.refl [] w1).alloc _).cell_some x3 (by simp), ((Fr.refl [] w1).alloc _).cell_some x4 (by simp), ((Fr.refl [] w1).alloc _).cell_some x5 (by simp), ((Fr.refl [] w1).alloc _).cell_some x6 (by simp)⟩))
    ((go_at_call 24; (with_reducible refine (sclone_any s.l _ w.drew (Sl.drew Hs.out) hn).mono ?_); rintro e w1 ⟨v1, rfl, hs1, hf1⟩; obtain ⟨A1, cap1, rfl, -⟩ := hs1.shape; have kk := (⟨hf1.cell_some (p := ⟨p, 0, none⟩) g0 (by simp), hf1.cell_some (p := ⟨p, 1, none⟩) g1 (by simp), hf1.cell_some (p := ⟨p, 2, none⟩) g2 (by simp), hf1.cell_some (p := ⟨p, 3, none⟩) g3 (by simp), hf1.cell_some (p := ⟨p, 4, none⟩) g4 (by simp), hf1.cell_some (p := ⟨p, 5, none⟩) g5 (by simp), hf1.cell_some (p := ⟨p, 6, none⟩) g6 (by simp)⟩ : w1.cell? ⟨p, 0, none⟩ = some (.int .i64 s.K) ∧ w1.cell? ⟨p, 1, none⟩ = some (.int .i64 s.F) ∧ w1.cell? ⟨p, 2, none⟩ = some (.int .i64 s.T) ∧ w1.cell? ⟨p, 3, none⟩ = some (.int .i64 s.S) ∧ w1.cell? ⟨p, 4, none⟩ = some (.int .i64 s.D) ∧ w1.cell? ⟨p, 5, none⟩ = some (.slice A s.l.length cap) ∧ w1.cell? ⟨p, 6, none⟩ = some (.int .i64 s.lost))))
  all_goals
    go_wp2
    go_ret
    exact ⟨w1.heap.size, rfl, hf1.size, ⟨_, Blk.new _ _ _, hs1.fr ((Fr.refl [] w1).alloc _) (by simp)⟩, (((Fr.refl [] w).drew).trans hf1).alloc _⟩
end Go.Proofs.Ytblidpafeiiniaa
