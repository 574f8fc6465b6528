/- Arm, with a row that is not the disk's own: what the disk keeps lies elsewhere. -/
import Derived.Test.YthmnloapjdalpaaW14
namespace Go.Proofs.Ythmnloapjdalpaa
open Go.RowKit
set_option linter.unusedVariables false
set_option linter.unusedSimpArgs false
/-- A slice of numbers that lies not in block k. -/
def Zo (k : Nat) (v : Value) (l : List Int) : Prop := l = [] ∨ ∃ q o n cap, v = .slice (some ⟨q, o, none⟩) n cap ∧ q ≠ k
theorem Zs.frk {w w' : World} {k : Nat} {v : Value} {l : List Int} (h : Zs w v l) (hk : Zo k v l) (hf : Fr [k] w w') : Zs w' v l := by
  obtain ⟨A, cap, h1, h2, h3, h4, h5⟩ := h
  refine ⟨A, cap, h1, h2, h3, h4, ?_⟩
  rcases h5 with h5 | ⟨q, o, cs, mk, h5, h6, h7⟩
  · exact .inl h5
  · rcases hk with hk | ⟨q', o', n', cap', h8, h9⟩
    · exact .inl hk
    · rw [h1, h5] at h8
      injection h8 with h8 _ _
      injection h8 with h8
      injection h8 with h8 _ _
      exact .inr ⟨q, o, cs, mk, h5, (hf.block q (Array.getElem?_eq_some_iff.1 h6).1 (by simp; omega)).trans h6, h7⟩
theorem Zs.zo {w : World} {k : Nat} {v : Value} {l : List Int} (h : Zs w v l) (hk : w.heap.size ≤ k) : Zo k v l := by
  obtain ⟨A, cap, h1, h2, h3, h4, h5⟩ := h
  rcases h5 with h5 | ⟨q, o, cs, mk, h5, h6, h7⟩
  · exact .inl h5
  · have := (Array.getElem?_eq_some_iff.1 h6).1
    exact .inr ⟨q, o, _, cap, h5 ▸ h1, by omega⟩
/-- What the disk keeps lies not in block k. -/
def Doff (k : Nat) (w : World) (p : Nat) (d : Dk) : Prop := ∃ cv, w.cell? ⟨p, 3, none⟩ = some cv ∧ Zo k cv d.ch
theorem DiskAt.off {w : World} {p g m k : Nat} {d : Dk} (h : DiskAt w p g m d) (hk : w.heap.size ≤ k) : Doff k w p d := by
  obtain ⟨cap, cv, hb, hc, hm, hcz⟩ := h.hd
  exact ⟨cv, by rw [hb.cell]; rfl, hcz.zo hk⟩
theorem Doff.fr {w w' : World} {p k : Nat} {d : Dk} {S : List Nat} (h : Doff k w p d) (hf : Fr S w w') (hp : p ∉ S) : Doff k w' p d := by
  obtain ⟨cv, hc, hz⟩ := h
  exact ⟨cv, hf.cell_some hc hp, hz⟩
theorem DiskAt.frk {w w' : World} {p g m k : Nat} {d : Dk} (h : DiskAt w p g m d) (ho : Doff k w p d) (hf : Fr [k] w w') (h1 : p ≠ k) (h2 : g ≠ k) (h3 : m ≠ k) : DiskAt w' p g m d := by
  obtain ⟨ok, ⟨cap, cv, hb, hc, hm, hz'⟩, sb, um⟩ := h
  obtain ⟨cv', hc', hz⟩ := ho
  have : cv' = cv := by
    rw [hb.cell] at hc'
    exact (Option.some.inj hc').symm
  subst this
  exact ⟨ok, ⟨cap, cv', hb.fr hf (by simp; omega), hc, hm, hz'.frk hz hf⟩, sb.fr hf (by simp; omega), um.fr hf (by simp; omega)⟩
theorem cloneZ_off (A : Option Addr) (n cap : Nat) (l : List Int) (w : World) (h : Zw w (.slice A n cap) l) (hb : n * 8 ≤ 140737488355328) : Calls Try.prog 107 #[.slice A n cap] w fun e w' => ∃ A cap, e = .returned (.slice A l.length cap) ∧ Zs w' (.slice A l.length cap) l ∧ Fr [] w w' ∧ ∀ k, k < w.heap.size → Zo k (.slice A l.length cap) l := by
  obtain ⟨hn, h1, h2⟩ := h.len
  cases A with
  | none =>
    have hl : l = [] := by
      obtain ⟨A', cap', e1, -, -, e4, -⟩ := h
      injection e1 with e1 _ _
      exact e4 e1.symm
    subst hl
    have hn0 : n = 0 := hn
    subst hn0
    have hnil := fun w => Lib.run_eql_slice_nil (P := Try.prog) w 42 3 none 0 cap 0 0 Try.underlying42
    have HF := Lib.hid (Fr.refl [] w)
    clear h hn h1
    go_enter Try.func107, Try.ntmps107
    go_wp2
    go_ret
    exact ⟨none, 0, rfl, Zs.nil w, Fr.refl _ _, fun _ _ => .inl rfl⟩
  | some ad =>
    obtain ⟨i0, hi0, hz0, hz1, hz2⟩ := info3 Try.info3
    have hnil := fun w => Lib.run_eql_slice_nil (P := Try.prog) w 42 3 (some ad) n cap 0 0 Try.underlying42
    have Hf0 := Lib.hid ((Fr.refl [] w).alloc (.cells #[] 3))
    have hm0 : (w.alloc (.cells #[] 3)).ownsRow w.heap.size 3 1 (.slice (some ⟨w.heap.size, 0, none⟩) 0 0) 0 [] := World.ownsRow_made w #[] 0 (Nat.le_refl _) (by simp [maxLen]) (by simp)
    have Hm0 := Lib.hid hm0
    have Hcell := Lib.hid ((h.fr Hf0.out (NoZ.nil _)).news)
    have Hn := Lib.hid hn
    clear hm0 h hn
    go_enter Try.func107, Try.ntmps107
    go_wp2_with (at_builtin; go_must (refine wpList_append_own _ rfl (.tmp 5) (.tmp 6) 42 rfl w.heap.size 3 i0 (.int .i64 0) 1 8 Try.underlying42 hi0 hz0 hz1 hz2 rfl (by decide) _ _ _ rfl Hm0.out _ n cap (ints l) rfl (by rw [ints_len, Hn.out]; omega) Hcell.out (ints_one _) (by simp only [maxLen]; omega) (by omega) (by simp) ?_; intro v1 w1 hown1 hg1 hnn; have hf1 := Hf0.out.own Hm0.out hg1))
    go_ret
    simp only [List.nil_append, Nat.zero_add] at hown1
    obtain ⟨A', cap', rfl⟩ := own_shape hown1
    rw [Hn.out] at hown1
    refine ⟨A', cap', ?_, Zs.of_own hown1 rfl, hf1, fun k hk => ?_⟩
    · rw [Hn.out]
      rfl
    · rcases hown1.2 with ⟨h1, h2⟩ | ⟨g, cap2, cur, h1, hb2, -⟩
      · exact .inl (List.eq_nil_of_length_eq_zero (by omega))
      · exact .inr ⟨g, 0, _, _, h1, by omega⟩
theorem Arm_off (p g m k : Nat) (d : Dk) (x : Int) (A : Option Addr) (n cap : Nat) (l : List Int) (w : World) (h : DiskAt w p g m d) (hk : k < w.heap.size) (ho : Doff k w p d) (hz : Zw w (.slice A n cap) l) (hb : n * 8 ≤ 140737488355328) (hx : x ≤ 9223372036854775807) :
    Calls Try.prog 81 #[ptr p, .int .i64 x, .slice A n cap] w fun e w' => e = .returned (.int .i64 (d.armE x)) ∧ DiskAt w' p g m (d.armS x l) ∧ Fr [p] w w' ∧ Doff k w' p (d.armS x l) := by
  have HC := Lib.hid (cloneZ_off A n cap l w hz hb)
  obtain ⟨cp, cv, hbk, hc, hm, hcz⟩ := h.hd
  have c4 : w.cell? ⟨p, 4, none⟩ = some (.bool d.dead) := by rw [hbk.cell]; rfl
  have HB := Lib.hid hbk
  have H := Lib.hid h
  have HO := Lib.hid ho
  have HK := Lib.hid hk
  cases hd : d.dead with
  | true =>
    have E1 := Lib.hid (show (2 : Int) = d.armE x by unfold Dk.armE; rw [hd]; rfl)
    have E2 := Lib.hid (show d.armS x l = d by unfold Dk.armS; rw [← E1.out]; rfl)
    rw [hd] at c4
    clear h hz hcz hbk hd hc hm ho hk
    generalize d.armE x = V at *
    go_enter Try.func81, Try.ntmps81
    go_wp2_with fail
    go_ret
    exact ⟨ret_int E1.out, by rw [E2.out]; exact H.out, Fr.refl _ _, by rw [E2.out]; exact HO.out⟩
  | false =>
    rw [hd] at c4
    by_cases hx0 : x < 0
    · have E1 := Lib.hid (show (1 : Int) = d.armE x by unfold Dk.armE; rw [hd, if_pos hx0]; rfl)
      have E2 := Lib.hid (show d.armS x l = d by unfold Dk.armS; rw [← E1.out]; rfl)
      clear h hz hcz hbk hd hc hm ho hk
      generalize d.armE x = V at *
      go_enter Try.func81, Try.ntmps81
      go_wp2_with fail
      go_ret
      exact ⟨ret_int E1.out, by rw [E2.out]; exact H.out, Fr.refl _ _, by rw [E2.out]; exact HO.out⟩
    · have E1 := Lib.hid (show (0 : Int) = d.armE x by unfold Dk.armE; rw [hd, if_neg hx0]; rfl)
      have E2 := Lib.hid (show d.armS x l = { d with armed := x, ch := l } by unfold Dk.armS; rw [← E1.out]; rfl)
      clear h hz hcz hbk hd hc hm ho hk
      generalize d.armE x = V at *
      go_enter Try.func81, Try.ntmps81
      go_wp2_with (go_at_call 107; refine HC.out.mono ?_; rintro e w1 ⟨A', cap', rfl, hz1, hf1, hzo⟩
                   have hb1 := HB.out.fr hf1 (by simp)
                   have c2 := hb1.cell 2
                   have c3 := hb1.cell 3
                   simp at c2 c3
                   have f2 := hb1.frozen 2
                   have f3 := hb1.frozen 3
                   have HZ1 := Lib.hid hz1
                   have Hf1 := Lib.hid hf1
                   have HB1 := Lib.hid hb1
                   have HZO := Lib.hid (hzo k HK.out)
                   clear hb1 hz1 hf1 hzo)
      go_ret
      have h1 := (H.out.to Hf1.out).armed (n := 0) (v := x) (by omega) hx HZ1.out
      refine ⟨ret_int E1.out, by rw [E2.out]; exact h1, (((Hf1.out.mono (S' := [p]) (fun k hk _ => by cases hk))).setCell (.inl (by simp)) _).setCell (.inl (by simp)) _, ?_⟩
      rw [E2.out]
      exact ⟨_, by rw [((HB1.out.set_ 2 _).set_ 3 _).cell]; rfl, HZO.out⟩
end Go.Proofs.Ythmnloapjdalpaa
