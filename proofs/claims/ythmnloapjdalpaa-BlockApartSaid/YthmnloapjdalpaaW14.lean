/- The program's disk: a row of numbers cloned, Arm. -/
import Derived.Test.YthmnloapjdalpaaW13
namespace Go.Proofs.Ythmnloapjdalpaa
open Go.RowKit
set_option linter.unusedVariables false
set_option linter.unusedSimpArgs false
def ints (l : List Int) : List Value := l.map fun x => .int .i64 x
theorem ints_len (l : List Int) : (ints l).length = l.length := by simp [ints]
theorem ints_get (l : List Int) (j : Nat) (u : Value) (h : (ints l)[j]? = some u) : ∃ x, l[j]? = some x ∧ u = .int .i64 x := by
  unfold ints at h
  rw [List.getElem?_map] at h
  cases hx : l[j]? with
  | none => rw [hx] at h; cases h
  | some x => rw [hx] at h; injection h with h; exact ⟨x, rfl, h.symm⟩
theorem ints_one (l : List Int) : ∀ u ∈ ints l, u.oneCell' = true := by
  intro u hu
  obtain ⟨x, -, rfl⟩ := List.mem_map.1 hu
  rfl
theorem Zw.news {w : World} {ad : Addr} {n cap : Nat} {l : List Int} (h : Zw w (.slice (some ad) n cap) l) : ∀ (j : Nat) (u : Value), (ints l)[j]? = some u → w.cell? (ad.add j) = some u := by
  intro j u hu
  obtain ⟨x, hx, rfl⟩ := ints_get l j u hu
  obtain ⟨q, o, ha, hq, hc⟩ := h.cell hx
  injection ha with ha
  subst ha
  rw [addr_add]
  exact hc
theorem Zs.of_own {w : World} {base n : Nat} {v : Value} {l : List Int} (h : w.ownsRow base 3 1 v n (ints l)) (hn : n = l.length) : Zs w v l := by
  subst hn
  by_cases hv : v = .slice none 0 0
  · have : l = [] := by
      rcases h.2 with ⟨h1, h2⟩ | ⟨g, cap, cur, h1, hb, hh, h3, h4, h5, h6⟩
      · exact List.eq_nil_of_length_eq_zero (by omega)
      · rw [hv] at h1
        cases h1
    subst this
    rw [hv]
    exact Zs.nil w
  · obtain ⟨g, cap, cs, rfl, h1, h2, h3, h4, h5⟩ := own_some h hv
    refine ⟨_, cap, rfl, h2, h3, (fun h => by cases h), .inr ⟨g, 0, cs, _, rfl, h4, fun j x hj => ?_⟩⟩
    rw [Nat.zero_add]
    exact h5 j _ (by unfold ints; rw [List.getElem?_map, hj]; rfl)
theorem Try.info3 : (Try.prog.info? 3).map (fun i => (i.zero, i.size, i.bytes)) = some (some (.int .i64 0), 1, 8) := by kernel_rfl
def CloneZ (w : World) (l : List Int) (e : Ending) (w' : World) : Prop := ∃ A cap, e = .returned (.slice A l.length cap) ∧ Zs w' (.slice A l.length cap) l ∧ Fr [] w w'
theorem cloneZ_any (A : Option Addr) (n cap : Nat) (l : List Int) (w : World) (h : Zw w (.slice A n cap) l) (hb : n * 8 ≤ 140737488355328) : Calls Try.prog 107 #[.slice A n cap] w (CloneZ w l) := by
  obtain ⟨hn, h1, h2⟩ := h.len
  cases A with
  | none =>
    have hl : l = [] := by
      obtain ⟨A', cap', e1, -, -, e4, -⟩ := h
      injection e1 with e1 _ _
      exact e4 e1.symm
    subst hl
    have hn0 : n = 0 := hn
    subst hn0
    have hnil := fun w => Lib.run_eql_slice_nil (P := Try.prog) w 42 3 none 0 cap 0 0 Try.underlying42
    have HF := Lib.hid (Fr.refl [] w)
    clear h hn h1
    go_enter Try.func107, Try.ntmps107
    go_wp2
    go_ret
    exact ⟨none, 0, rfl, Zs.nil w, Fr.refl _ _⟩
  | some ad =>
    obtain ⟨i0, hi0, hz0, hz1, hz2⟩ := info3 Try.info3
    have hnil := fun w => Lib.run_eql_slice_nil (P := Try.prog) w 42 3 (some ad) n cap 0 0 Try.underlying42
    have Hf0 := Lib.hid ((Fr.refl [] w).alloc (.cells #[] 3))
    have hm0 : (w.alloc (.cells #[] 3)).ownsRow w.heap.size 3 1 (.slice (some ⟨w.heap.size, 0, none⟩) 0 0) 0 [] := World.ownsRow_made w #[] 0 (Nat.le_refl _) (by simp [maxLen]) (by simp)
    have Hm0 := Lib.hid hm0
    have Hcell := Lib.hid ((h.fr Hf0.out (NoZ.nil _)).news)
    have Hn := Lib.hid hn
    clear hm0 h hn
    go_enter Try.func107, Try.ntmps107
    go_wp2_with (at_builtin; go_must (refine wpList_append_own _ rfl (.tmp 5) (.tmp 6) 42 rfl w.heap.size 3 i0 (.int .i64 0) 1 8 Try.underlying42 hi0 hz0 hz1 hz2 rfl (by decide) _ _ _ rfl Hm0.out _ n cap (ints l) rfl (by rw [ints_len, Hn.out]; omega) Hcell.out (ints_one _) (by simp only [maxLen]; omega) (by omega) (by simp) ?_; intro v1 w1 hown1 hg1 hnn; have hf1 := Hf0.out.own Hm0.out hg1))
    go_ret
    simp only [List.nil_append, Nat.zero_add] at hown1
    obtain ⟨A', cap', rfl⟩ := own_shape hown1
    rw [Hn.out] at hown1
    refine ⟨A', cap', ?_, Zs.of_own hown1 rfl, hf1⟩
    rw [Hn.out]
    rfl
theorem DiskAt.armed {w : World} {p g m : Nat} {d : Dk} {n : Nat} {v : Int} {u : Value} {l : List Int} (h : DiskAt w p g m d) (hv : 0 ≤ v) (hv1 : v ≤ 9223372036854775807) (hz : Zs w u l) :
    DiskAt ((w.setCell ⟨p, 2, none⟩ (.int .i64 v)).setCell ⟨p, 3, none⟩ u) p g m { d with armed := v, ch := l } := by
  obtain ⟨cap, cv, hb, hc, hm, hcz⟩ := h.hd
  have hb' := (hb.set_ 2 (.int .i64 v)).set_ 3 u
  have hf' : Fr [p] w _ := ((Fr.refl [p] w).setCell (p := ⟨p, 2, none⟩) (.inl (by simp)) (.int .i64 v)).setCell (p := ⟨p, 3, none⟩) (.inl (by simp)) u
  refine h.with_ (n := 0) (cs := #[]) (cap := cap) (cv := u) hf' ⟨h.ok.n1, h.ok.n2, h.ok.un, hv, hv1⟩ rfl rfl rfl hb' hc hm ((hz.cells hb _ _).cells (hb.set_ 2 _) _ _)
theorem Arm_any (p g m : Nat) (d : Dk) (x : Int) (A : Option Addr) (n cap : Nat) (l : List Int) (w : World) (h : DiskAt w p g m d) (hz : Zw w (.slice A n cap) l) (hb : n * 8 ≤ 140737488355328) (hx : x ≤ 9223372036854775807) :
    Calls Try.prog 81 #[ptr p, .int .i64 x, .slice A n cap] w fun e w' => e = .returned (.int .i64 (d.armE x)) ∧ DiskAt w' p g m (d.armS x l) ∧ Fr [p] w w' := by
  have HC := Lib.hid (cloneZ_any A n cap l w hz hb)
  obtain ⟨cp, cv, hbk, hc, hm, hcz⟩ := h.hd
  have c4 : w.cell? ⟨p, 4, none⟩ = some (.bool d.dead) := by rw [hbk.cell]; rfl
  have HB := Lib.hid hbk
  have H := Lib.hid h
  cases hd : d.dead with
  | true =>
    have E1 := Lib.hid (show (2 : Int) = d.armE x by unfold Dk.armE; rw [hd]; rfl)
    have E2 := Lib.hid (show d.armS x l = d by unfold Dk.armS; rw [← E1.out]; rfl)
    rw [hd] at c4
    clear h hz hcz hbk hd hc hm
    generalize d.armE x = V at *
    go_enter Try.func81, Try.ntmps81
    go_wp2_with fail
    go_ret
    exact ⟨ret_int E1.out, by rw [E2.out]; exact H.out, Fr.refl _ _⟩
  | false =>
    rw [hd] at c4
    by_cases hx0 : x < 0
    · have E1 := Lib.hid (show (1 : Int) = d.armE x by unfold Dk.armE; rw [hd, if_pos hx0]; rfl)
      have E2 := Lib.hid (show d.armS x l = d by unfold Dk.armS; rw [← E1.out]; rfl)
      clear h hz hcz hbk hd hc hm
      generalize d.armE x = V at *
      go_enter Try.func81, Try.ntmps81
      go_wp2_with fail
      go_ret
      exact ⟨ret_int E1.out, by rw [E2.out]; exact H.out, Fr.refl _ _⟩
    · have E1 := Lib.hid (show (0 : Int) = d.armE x by unfold Dk.armE; rw [hd, if_neg hx0]; rfl)
      have E2 := Lib.hid (show d.armS x l = { d with armed := x, ch := l } by unfold Dk.armS; rw [← E1.out]; rfl)
      clear h hz hcz hbk hd hc hm
      generalize d.armE x = V at *
      go_enter Try.func81, Try.ntmps81
      go_wp2_with (go_at_call 107; refine HC.out.mono ?_; rintro e w1 ⟨A', cap', rfl, hz1, hf1⟩
                   have hb1 := HB.out.fr hf1 (by simp)
                   have c2 := hb1.cell 2
                   have c3 := hb1.cell 3
                   simp at c2 c3
                   have f2 := hb1.frozen 2
                   have f3 := hb1.frozen 3
                   have HZ1 := Lib.hid hz1
                   have Hf1 := Lib.hid hf1
                   clear hb1 hz1 hf1)
      go_ret
      have h1 := (H.out.to Hf1.out).armed (n := 0) (v := x) (by omega) hx HZ1.out
      exact ⟨ret_int E1.out, by rw [E2.out]; exact h1, (((Hf1.out.mono (S' := [p]) (fun k hk _ => by cases hk))).setCell (.inl (by simp)) _).setCell (.inl (by simp)) _⟩
end Go.Proofs.Ythmnloapjdalpaa
