/- The program's disk: Image, After, goes, Revive, dies. -/
import Derived.Test.YthmnloapjdalpaaW6
import Derived.IntWalk
namespace Go.Proofs.Ythmnloapjdalpaa
open Go.RowKit
set_option linter.unusedVariables false
set_option linter.unusedSimpArgs false
theorem ret_str {a b : ByteArray} (h : a = b) : Ending.returned (.string a) = .returned (.string b) := by rw [h]
theorem enter68 (args : Array Value) (W : World) : (callFunc 68 args).run Try.prog W = .ok (.enter 68 args) W := by kernel_rfl
theorem enter90 (args : Array Value) (W : World) : (callFunc 90 args).run Try.prog W = .ok (.enter 90 args) W := by kernel_rfl
theorem image_bs (d : Dk) : bs (leftB d (fun _ => 128)) 0 (128 * d.n) = d.image := by rw [left_rd]; rfl
theorem Image_any (p g m : Nat) (d : Dk) (w : World) (h : DiskAt w p g m d) : Calls Try.prog 28 #[ptr p] w fun e w' => e = .returned (.string d.image) ∧ Fr [] w w' := by
  have hL := Lib.hid (fun (W : World) (hf : Fr [] w W) => left_any p g m 68 #[] d (fun _ => 128) W (h.to hf) enter68 (fun k W' _ _ => image1_any _ _))
  have E := Lib.hid (image_bs d)
  clear h
  generalize d.image = V at *
  go_enter Try.func28, Try.ntmps28
  go_wp2_with (go_at_call 67; refine (hL.out _ (Fr.refl _ _)).mono ?_; rintro e w' ⟨rfl, hf⟩)
  go_ret
  exact ⟨ret_str E.out, hf⟩
theorem After_any (p g m : Nat) (d : Dk) (A : Option Addr) (n cap : Nat) (l : List Int) (w : World) (h : DiskAt w p g m d) (hz : Zw w (.slice A n cap) l) :
    Calls Try.prog 49 #[ptr p, .slice A n cap] w fun e w' => e = .returned (.string (d.after l)) ∧ Fr [] w w' := by
  have hL := Lib.hid (fun (W : World) (hf : Fr [] (w.alloc (.cells #[.slice A n cap] 42)) W) => left_any p g m 90 #[ptr w.heap.size] d (chAt l) W (h.to (((Fr.refl [] w).alloc _).trans hf)) enter90 (fun k W' _ hf' =>
    after1_any k w.heap.size A n cap l W' (hz.fr (((Fr.refl [] w).alloc _).trans (hf.trans hf')) (NoZ.nil _)) ((hf.trans hf').cell_some (by rw [(Blk.new w 42 #[.slice A n cap]).cell]; rfl) (by simp))))
  have E := Lib.hid (show bs (leftB d (chAt l)) 0 (128 * d.n) = d.after l from rfl)
  have hF := Lib.hid ((Fr.refl [] w).alloc (.cells #[.slice A n cap] 42))
  clear h hz
  generalize d.after l = V at *
  go_enter Try.func49, Try.ntmps49
  go_wp2_with (go_at_call 67; refine (hL.out _ (Fr.refl _ _)).mono ?_; rintro e w' ⟨rfl, hf⟩)
  go_ret
  exact ⟨ret_str E.out, hF.out.trans hf⟩
/-- A disk that has turned: its struct where it was, its bytes and its map perhaps new. -/
def Turned (p g m : Nat) (w : World) (d : Dk) (w' : World) : Prop := ∃ g' m', DiskAt w' p g' m' d ∧ Fr [p, g, m] w w' ∧ (g' = g ∨ w.heap.size ≤ g') ∧ (m' = m ∨ w.heap.size ≤ m')
theorem Zs.cells {w : World} {p : Nat} {v : Value} {l : List Int} {cs : Array Value} (h : Zs w v l) (hb : Blk w p 110 cs) : ∀ i u, Zs (w.setCell ⟨p, i, none⟩ u) v l := fun i u =>
  h.fr (S := [p]) ((Fr.refl _ w).setCell (.inl (by simp)) u) (fun k hk cs mk he => by
    simp only [List.mem_cons, List.not_mem_nil, or_false] at hk
    subst hk
    unfold Blk at hb
    rw [hb] at he
    injection he with he
    injection he with _ he _
    cases he)
theorem DiskAt.with_ {w w' : World} {p g m n : Nat} {d d' : Dk} {cap : Nat} {cv : Value} {cs : Array Value} (h : DiskAt w p g m d) (hf : Fr [p] w w') (hok : d'.Ok) (hn : d'.n = d.n) (hs : d'.s = d.s) (hu : d'.u = d.u)
    (hb : Blk w' p 110 #[.slice (some ⟨g, 0, none⟩) (128 * d.n) cap, .map (some m), .int .i64 d'.armed, cv, .bool d'.dead]) (h1 : 128 * d.n ≤ cap) (h2 : cap ≤ maxLen) (hz : Zs w' cv d'.ch) : DiskAt w' p g m d' := by
  have hpg := h.pg
  have hpm := h.pm
  refine ⟨hok, ⟨cap, cv, by rw [hn]; exact hb, by rw [hn]; exact h1, h2, hz⟩, ?_, ?_⟩
  · rw [hn, hs]
    exact h.sb.fr hf (by simp; omega)
  · rw [hn, hu]
    exact h.um.fr hf (by simp; omega)
theorem goes_any (p g m : Nat) (d : Dk) (w : World) (h : DiskAt w p g m d) : Calls Try.prog 72 #[ptr p] w fun e w' => e = .returned (.bool d.gone) ∧ DiskAt w' p g m d.tick ∧ Fr [p] w w' := by
  obtain ⟨cap, cv, hb, hc, hm, hz⟩ := h.hd
  have c2 : w.cell? ⟨p, 2, none⟩ = some (.int .i64 d.armed) := by rw [hb.cell]; rfl
  have fz := hb.frozen 2
  have a0 := h.ok.a0
  have a1 := h.ok.a1
  have Htick := h.ok.tick
  by_cases ha : d.armed = 0
  · have E := Lib.hid (show d.tick = d from if_pos ha)
    have E2 := Lib.hid (show false = d.gone by unfold Dk.gone; rw [ha]; rfl)
    have H := Lib.hid h
    rw [ha] at c2
    clear hb hz Htick fz a0 a1 ha h hc hm
    generalize d.gone = G at *
    go_enter Try.func72, Try.ntmps72
    go_wp2
    go_ret
    exact ⟨ret_bool E2.out, by rw [E.out]; exact H.out, Fr.refl _ _⟩
  · have E := Lib.hid (show d.tick = { d with armed := d.armed - 1 } from if_neg ha)
    have hb' := hb.set_ 2 (.int .i64 (d.armed - 1))
    have hf' := (Fr.refl [p] w).setCell (p := ⟨p, 2, none⟩) (.inl (by simp)) (.int .i64 (d.armed - 1))
    have H := Lib.hid (show DiskAt (w.setCell ⟨p, 2, none⟩ (.int .i64 (d.armed - 1))) p g m d.tick by
      refine h.with_ (n := 0) (cs := #[]) (cap := cap) (cv := cv) hf' Htick (by rw [E.out]) (by rw [E.out]) (by rw [E.out]) ?_ hc hm ?_
      · rw [E.out]
        exact hb'
      · rw [E.out]
        exact hz.cells hb _ _)
    have E2 := Lib.hid (show d.gone = (d.armed - 1 == 0) by
      unfold Dk.gone
      by_cases h1 : d.armed = 1
      · rw [h1]; rfl
      · have e1 : (d.armed == 1) = false := by simpa using h1
        have e2 : (d.armed - 1 == 0) = false := by simp; omega
        rw [e1, e2])
    have HF := Lib.hid hf'
    have hw : IntKind.i64.wrap (d.armed - 1) = d.armed - 1 := IntWalk.i64_in _ (by omega)
    clear hb hz Htick h hc hm hb' hf' E
    generalize d.gone = G at *
    generalize d.tick = D at *
    generalize d.armed = M at *
    by_cases h1 : M = 1
    · subst h1
      have e2 : (((1 : Int) - 1) == 0) = true := rfl
      rw [e2] at E2
      go_enter Try.func72, Try.ntmps72
      go_wp2
      go_ret
      exact ⟨ret_bool E2.out.symm, H.out, HF.out⟩
    · have hM : ¬ M - 1 = 0 := by omega
      have e2 : ((M - 1) == 0) = false := by simpa using hM
      rw [e2] at E2
      go_enter Try.func72, Try.ntmps72
      go_wp2
      go_ret
      exact ⟨ret_bool E2.out.symm, H.out, HF.out⟩
theorem Revive_any (p g m : Nat) (d : Dk) (w : World) (h : DiskAt w p g m d) : Calls Try.prog 33 #[ptr p] w fun e w' => e = .returned (.tuple #[]) ∧ DiskAt w' p g m d.revive ∧ Fr [p] w w' := by
  obtain ⟨cap, cv, hb, hc, hm, hz⟩ := h.hd
  have f4 := hb.frozen 4
  have f2 := hb.frozen 2
  have hex4 : (w.cell? ⟨p, 4, none⟩) = some (.bool d.dead) := by rw [hb.cell]; rfl
  have hex2 : (w.cell? ⟨p, 2, none⟩) = some (.int .i64 d.armed) := by rw [hb.cell]; rfl
  have hb' := (hb.set_ 4 (.bool false)).set_ 2 (.int .i64 0)
  have hf' := ((Fr.refl [p] w).setCell (p := ⟨p, 4, none⟩) (.inl (by simp)) (.bool false)).setCell (p := ⟨p, 2, none⟩) (.inl (by simp)) (.int .i64 0)
  have H := Lib.hid (show DiskAt ((w.setCell ⟨p, 4, none⟩ (.bool false)).setCell ⟨p, 2, none⟩ (.int .i64 0)) p g m d.revive from
    h.with_ (n := 0) (cs := #[]) (cap := cap) (cv := cv) hf' h.ok.revive rfl rfl rfl hb' hc hm ((hz.cells hb _ _).cells (hb.set_ 4 _) _ _))
  have HF := Lib.hid hf'
  clear hb hz h hc hm hb' hf'
  generalize d.revive = D at *
  go_enter Try.func33, Try.ntmps33
  go_wp2
  go_end0
  exact ⟨rfl, H.out, HF.out⟩
end Go.Proofs.Ythmnloapjdalpaa
