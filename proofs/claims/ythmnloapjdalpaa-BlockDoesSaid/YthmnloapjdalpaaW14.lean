/- The program's disk: Flush. The program's disk: a row of numbers cloned, Arm. -/
import Derived.Test.YthmnloapjdalpaaW12
import Derived.Deep.RegionWith
namespace Go.Proofs.Ythmnloapjdalpaa
open Go.RowKit
set_option linter.unusedVariables false
set_option linter.unusedSimpArgs false
theorem tick_n (d : Dk) : d.tick.n = d.n := by
  unfold Dk.tick
  split <;> rfl
/-- A round of Flush. -/
structure FlW (w : World) (p g m A B : Nat) (D : Dk) (i : Nat) (wr : World) : Prop where
  at_ : DiskAt wr p g m (D.settle A i)
  fr : Fr [p, g, m] w wr
  k0 : wr.cell? ⟨w.heap.size, 0, none⟩ = some (ptr p)
  k1 : wr.cell? ⟨w.heap.size + 1, 0, none⟩ = some (.int .i64 (A : Int))
  k2 : wr.cell? ⟨w.heap.size + 1 + 1, 0, none⟩ = some (.int .i64 (B : Int))
theorem FlW.step {w wr w1 : World} {p g m A B i j : Nat} {D : Dk} {S : List Nat} (h : FlW w p g m A B D i wr) (hf : Fr S wr w1) (hS : ∀ k, k ∈ S → k ∈ [p, g, m]) (hfar : ∀ k, k ∈ [p, g, m] → k < w.heap.size) (hd : DiskAt w1 p g m (D.settle A j)) : FlW w p g m A B D j w1 :=
  ⟨hd, h.fr.trans (hf.mono (fun k hk _ => hS k hk)), hf.cell_some h.k0 (fun e => by have := hfar _ (hS _ e); simp at this), hf.cell_some h.k1 (fun e => by have := hfar _ (hS _ e); simp at this; omega), hf.cell_some h.k2 (fun e => by have := hfar _ (hS _ e); simp at this; omega)⟩
set_option maxHeartbeats 1000000 in
theorem Flush_any (p g m : Nat) (d : Dk) (a b : Int) (w : World) (h : DiskAt w p g m d) (ha1 : a ≤ 9223372036854775807) (hb1 : b ≤ 9223372036854775807) :
    Calls Try.prog 48 #[ptr p, .int .i64 a, .int .i64 b] w fun e w' => e = .returned (.int .i64 (d.flushE a b)) ∧ Turned p g m w (d.flushS a b) w' := by
  have hR := Lib.hid (fun (W : World) (hB : Box3 w W (ptr p) (.int .i64 a) (.int .i64 b)) => (refused_fr p g m 89 #[ptr (w.heap.size + 1), ptr (w.heap.size + 1 + 1), ptr w.heap.size] d (fl1E d a b) W (h.to hB.fr) enter89
    (flush1_any p g m _ _ _ d a b W (h.to hB.fr) hB.k1 hB.k2 hB.k0 ha1 hb1)))
  have hB0 := Lib.hid (Box3.made w 36 3 3 (ptr p) (.int .i64 a) (.int .i64 b))
  rw [flushE0_eq] at hR
  have H := Lib.hid h
  have hpl := h.ltp
  have hml := h.ltm
  have hgl := h.ltg
  by_cases h0 : d.flushE0 a b = 0
  · have E1 := Lib.hid (show d.flushE a b = if d.gone = true then 2 else 0 from if_pos h0)
    have E2z : d.flushS a b = if d.gone = true then d.tick.die d.ch else d.tick.settle a.toNat (a + b).toNat := if_pos h0
    rw [h0] at hR
    have h9 : ∃ A B : Nat, a = A ∧ b = B ∧ A + B ≤ d.n := by
      unfold Dk.flushE0 at h0
      split at h0
      · cases h0
      · split at h0
        · cases h0
        · rename_i h1 h2
          exact ⟨a.toNat, b.toNat, by omega, by omega, by omega⟩
    obtain ⟨A, B, rfl, rfl, hAB⟩ := h9
    rw [show ((A : Int)).toNat = A from rfl, show ((A : Int) + (B : Int)).toNat = A + B from by omega] at E2z
    have E2 := Lib.hid E2z
    clear E2z
    have hn := h.ok.n2
    have hABn : A + B ≤ 4096 := by omega
    have HAB := Lib.hid hAB
    have hfar : ∀ k, k ∈ [p, g, m] → k < w.heap.size := by simp; omega
    have Hfar := Lib.hid hfar
    clear h h0 hfar hAB hn ha1 hb1
    cases hg : d.gone with
    | true =>
      have E1'' : Hid (d.flushE A B = 2) := Lib.hid (by rw [E1.out, hg]; rfl)
      have E2'' : Hid (d.flushS A B = d.tick.die d.ch) := Lib.hid (by rw [E2.out, hg]; rfl)
      clear E1 E2
      go_enter Try.func48, Try.ntmps48
      go_wp2_with (first
        | (go_at_call 69; refine (hR.out _ hB0.out).mono ?_; rintro e w1 ⟨rfl, hf1⟩
           obtain ⟨k0, k1, k2⟩ := hB0.out.to hf1 (by simp)
           have HF1 := Lib.hid (hB0.out.fr.trans hf1)
           have hG := Lib.hid (goes_any p g m _ w1 (H.out.to HF1.out))
           rw [hg] at hG
           clear hf1)
        | (go_at_call 72; refine hG.out.mono ?_; rintro e w3 ⟨rfl, h3, f3⟩
           have j0 : w3.cell? ⟨w.heap.size, 0, none⟩ = some (ptr p) := f3.cell_some k0 (by simp; omega)
           have j1 : w3.cell? ⟨w.heap.size + 1, 0, none⟩ = some (.int .i64 (A : Int)) := f3.cell_some k1 (by simp; omega)
           have j2 : w3.cell? ⟨w.heap.size + 1 + 1, 0, none⟩ = some (.int .i64 (B : Int)) := f3.cell_some k2 (by simp; omega)
           have Hf3 : Hid (Fr [p, g, m] w w3) := Lib.hid ((HF1.out.mono (S' := [p, g, m]) (fun k hk _ => by cases hk)).trans (f3.mono (fun k hk _ => by simp at hk; simp [hk])))
           have H3 := Lib.hid h3
           clear f3 h3 k0 k1 k2 hG)
        | fail)
      obtain ⟨cap3, cv3, ⟨-, -, -, m3, -, -⟩, -, -, hz3⟩ := H3.out.cells
      obtain ⟨Ar, n, cap', rfl⟩ := hz3.form
      have hD := Lib.hid (dies_any p g m _ Ar n cap' _ w3.drew (H3.out.to (Fr.refl _ _).drew) ((hz3.fr (Fr.refl [] _).drew (NoZ.nil _)).zw))
      have hfr : w.heap.size ∉ [p, g, m] := by simp; omega
      rw [tick_ch] at hD
      clear hz3
      go_region_with (first | (go_at_call 73; refine hD.out.mono ?_; rintro e w4 ⟨rfl, hT⟩))
      all_goals (go_wp2_with fail; go_ret; exact ⟨ret_int E1''.out.symm, by rw [E2''.out]; exact hT.of_drew.after Hf3.out⟩)
    | false =>
      have E1'' : Hid (d.flushE A B = 0) := Lib.hid (by rw [E1.out, hg]; rfl)
      have E2'' : Hid (d.flushS A B = d.tick.settle A (A + B)) := Lib.hid (by rw [E2.out, hg]; rfl)
      clear E1 E2
      go_enter Try.func48, Try.ntmps48
      go_wp2_with (first
        | (go_at_call 69; refine (hR.out _ hB0.out).mono ?_; rintro e w1 ⟨rfl, hf1⟩
           obtain ⟨k0, k1, k2⟩ := hB0.out.to hf1 (by simp)
           have HF1 := Lib.hid (hB0.out.fr.trans hf1)
           have hG := Lib.hid (goes_any p g m _ w1 (H.out.to HF1.out))
           rw [hg] at hG
           clear hf1)
        | (go_at_call 72; refine hG.out.mono ?_; rintro e w3 ⟨rfl, h3, f3⟩
           have j0 : w3.cell? ⟨w.heap.size, 0, none⟩ = some (ptr p) := f3.cell_some k0 (by simp; omega)
           have j1 : w3.cell? ⟨w.heap.size + 1, 0, none⟩ = some (.int .i64 (A : Int)) := f3.cell_some k1 (by simp; omega)
           have j2 : w3.cell? ⟨w.heap.size + 1 + 1, 0, none⟩ = some (.int .i64 (B : Int)) := f3.cell_some k2 (by simp; omega)
           have Hf3 : Hid (Fr [p, g, m] w w3) := Lib.hid ((HF1.out.mono (S' := [p, g, m]) (fun k hk _ => by cases hk)).trans (f3.mono (fun k hk _ => by simp at hk; simp [hk])))
           have H3 := Lib.hid h3
           clear f3 h3 k0 k1 k2 hG)
        | fail)
      have hX : FlW w p g m A B d.tick A w3 := ⟨by rw [settle_self]; exact H3.out, Hf3.out, j0, j1, j2⟩
      have HX := Lib.hid hX
      clear j0 j1 j2 hX hR
      go_loopg [8] B (fun gg v wr => ∃ i : Nat, i + gg = A + B ∧ A ≤ i ∧ v = .int .i64 (i : Int) ∧ FlW w p g m A B d.tick i wr)
      case atStart => exact ⟨A, by omega, by omega, rfl, HX.out⟩
      case round =>
        obtain ⟨i, hi, hAi, rfl, hF⟩ := hrel
        have HF := Lib.hid hF
        have Hi := Lib.hid hi
        have HAi := Lib.hid hAi
        obtain ⟨cap, cv, ⟨c0, c1, -, -, -, -⟩, hcp, hcm, -⟩ := hF.at_.cells
        have k0 := hF.k0
        have k1 := hF.k1
        have k2 := hF.k2
        clear hF HX H3 Hf3 hi hAi
        have hw1 : IntKind.i64.wrap ((A : Int) + (B : Int)) = (A : Int) + (B : Int) := IntWalk.i64_in _ (by omega)
        by_cases hiB : (i : Int) < (A : Int) + (B : Int)
        · have hi4 : i < 4096 := by have := Hi.out; omega
          have hw2 : IntKind.i64.wrap ((i : Int) + 1) = (i : Int) + 1 := IntWalk.i64_in _ (by omega)
          have hw3 : IntKind.i64.wrap ((i : Int) * 128) = (i : Int) * 128 := IntWalk.i64_in _ (by omega)
          have hin : i < d.n := by have := Hi.out; have := HAB.out; omega
          have hin' : i < (d.tick.settle A i).n := by show i < d.tick.n; rw [tick_n]; exact hin
          cases hui : d.tick.u i with
          | none =>
            have hlk := HF.out.at_.um.look_none 108 u108 hin' ((settle_u d.tick A i).trans hui)
            have HF' : Hid (FlW w p g m A B d.tick (i + 1) wr) := Lib.hid (by
              refine HF.out.step (Fr.refl [] wr) (fun k hk => by cases hk) Hfar.out ?_
              rw [settle_none hui]
              exact HF.out.at_)
            go_wp2_with fail
            go_roundg (A + B - (i + 1))
            case measure => have := Hi.out; omega
            case rel => exact ⟨i + 1, by have := Hi.out; omega, by have := HAi.out; omega, by go_num, HF'.out⟩
          | some t =>
            have ht : t.size = 128 := (H.out.ok.tick.un i t hui).2
            have hlk := HF.out.at_.um.look_some 108 u108 ((settle_u d.tick A i).trans hui)
            have hsl := fun wx => slice_l wx g 0 (128 * (d.tick.settle A i).n) cap (i * 128) ((i : Int) * 128) (by omega) (by omega) hcp
            rw [Nat.zero_add] at hsl
            have hsb := HF.out.at_.sb
            have hcy := run_copy_string (P := Try.prog) wr 30 9 3 5 g (i * 128) (128 * (d.tick.settle A i).n - i * 128) (cap - i * 128) t Try.underlying30 sizeOf5 (by omega) (fun j hj => by rw [hsb.cell (by omega)]; rfl) (fun j hj => hsb.frozen (by omega))
            obtain ⟨W1, hW1⟩ : ∃ W1, wr.setCells g (i * 128) (t.data.toList.map fun x => Value.int .u8 (x.toNat : Int)) = W1 := ⟨_, rfl⟩
            rw [hW1] at hcy
            have hfW : Fr [g] wr W1 := by rw [← hW1]; exact Fr.setCells (.inl (by simp)) _ _ _ (Fr.refl _ _)
            have hgm := HF.out.at_.gm
            have hpg := HF.out.at_.pg
            obtain ⟨W2, hdel, hu2, hf2⟩ := (HF.out.at_.um.fr hfW (by simp; omega)).del 108 u108 hin' 0
            have l0 : W1.cell? ⟨w.heap.size, 0, none⟩ = some (ptr p) := hfW.cell_some k0 (by simp; omega)
            have l1 : W1.cell? ⟨p, 1, none⟩ = some (.map (some m)) := hfW.cell_some c1 (by simp; omega)
            have HF' : Hid (FlW w p g m A B d.tick (i + 1) W2) := Lib.hid (by
              refine HF.out.step ((hfW.mono (S' := [p, g, m]) (fun k hk _ => by simp at hk; simp [hk])).step hf2 (fun k hk => .inl (by simp at hk; simp [hk]))) (fun k hk => hk) Hfar.out (HF.out.at_.settled HAi.out hui ht hW1.symm hu2 hf2 (H.out.ok.tick.settle _ _)))
            generalize (d.tick.settle A i).n = N at *
            clear hW1 hfW hu2 hf2 hsb
            go_wp2_with fail
            go_roundg (A + B - (i + 1))
            case measure => have := Hi.out; omega
            case rel => exact ⟨i + 1, by have := Hi.out; omega, by have := HAi.out; omega, by go_num, HF'.out⟩
        · have hie : i = A + B := by have := Hi.out; omega
          go_wp2_with fail
          go_ret
          refine ⟨ret_int E1''.out.symm, g, m, ?_, HF.out.fr, .inl rfl, .inl rfl⟩
          rw [E2''.out, ← hie]
          exact HF.out.at_
  · have E1 := Lib.hid (show d.flushE a b = d.flushE0 a b from if_neg h0)
    have E2 := Lib.hid (show d.flushS a b = d from if_neg h0)
    clear h
    generalize d.flushE0 a b = V at *
    go_enter Try.func48, Try.ntmps48
    go_wp2_with (go_at_call 69; refine (hR.out _ hB0.out).mono ?_; rintro e w1 ⟨rfl, hf1⟩)
    go_ret
    have hff := hB0.out.fr.trans hf1
    exact ⟨ret_int E1.out.symm, g, m, by rw [E2.out]; exact H.out.to hff, hff.mono (fun k hk => by cases hk), .inl rfl, .inl rfl⟩
end Go.Proofs.Ythmnloapjdalpaa
namespace Go.Proofs.Ythmnloapjdalpaa
open Go.RowKit
set_option linter.unusedVariables false
set_option linter.unusedSimpArgs false
def ints (l : List Int) : List Value := l.map fun x => .int .i64 x
theorem ints_len (l : List Int) : (ints l).length = l.length := by simp [ints]
theorem ints_get (l : List Int) (j : Nat) (u : Value) (h : (ints l)[j]? = some u) : ∃ x, l[j]? = some x ∧ u = .int .i64 x := by
  unfold ints at h
  rw [List.getElem?_map] at h
  cases hx : l[j]? with
  | none => rw [hx] at h; cases h
  | some x => rw [hx] at h; injection h with h; exact ⟨x, rfl, h.symm⟩
theorem ints_one (l : List Int) : ∀ u ∈ ints l, u.oneCell' = true := by
  intro u hu
  obtain ⟨x, -, rfl⟩ := List.mem_map.1 hu
  rfl
theorem Zw.news {w : World} {ad : Addr} {n cap : Nat} {l : List Int} (h : Zw w (.slice (some ad) n cap) l) : ∀ (j : Nat) (u : Value), (ints l)[j]? = some u → w.cell? (ad.add j) = some u := by
  intro j u hu
  obtain ⟨x, hx, rfl⟩ := ints_get l j u hu
  obtain ⟨q, o, ha, hq, hc⟩ := h.cell hx
  injection ha with ha
  subst ha
  rw [addr_add]
  exact hc
theorem Zs.of_own {w : World} {base n : Nat} {v : Value} {l : List Int} (h : w.ownsRow base 3 1 v n (ints l)) (hn : n = l.length) : Zs w v l := by
  subst hn
  by_cases hv : v = .slice none 0 0
  · have : l = [] := by
      rcases h.2 with ⟨h1, h2⟩ | ⟨g, cap, cur, h1, hb, hh, h3, h4, h5, h6⟩
      · exact List.eq_nil_of_length_eq_zero (by omega)
      · rw [hv] at h1
        cases h1
    subst this
    rw [hv]
    exact Zs.nil w
  · obtain ⟨g, cap, cs, rfl, h1, h2, h3, h4, h5⟩ := own_some h hv
    refine ⟨_, cap, rfl, h2, h3, (fun h => by cases h), .inr ⟨g, 0, cs, _, rfl, h4, fun j x hj => ?_⟩⟩
    rw [Nat.zero_add]
    exact h5 j _ (by unfold ints; rw [List.getElem?_map, hj]; rfl)
theorem Try.info3 : (Try.prog.info? 3).map (fun i => (i.zero, i.size, i.bytes)) = some (some (.int .i64 0), 1, 8) := by kernel_rfl
def CloneZ (w : World) (l : List Int) (e : Ending) (w' : World) : Prop := ∃ A cap, e = .returned (.slice A l.length cap) ∧ Zs w' (.slice A l.length cap) l ∧ Fr [] w w'
theorem cloneZ_any (A : Option Addr) (n cap : Nat) (l : List Int) (w : World) (h : Zw w (.slice A n cap) l) (hb : n * 8 ≤ 140737488355328) : Calls Try.prog 107 #[.slice A n cap] w (CloneZ w l) := by
  obtain ⟨hn, h1, h2⟩ := h.len
  cases A with
  | none =>
    have hl : l = [] := by
      obtain ⟨A', cap', e1, -, -, e4, -⟩ := h
      injection e1 with e1 _ _
      exact e4 e1.symm
    subst hl
    have hn0 : n = 0 := hn
    subst hn0
    have hnil := fun w => Lib.run_eql_slice_nil (P := Try.prog) w 42 3 none 0 cap 0 0 Try.underlying42
    have HF := Lib.hid (Fr.refl [] w)
    clear h hn h1
    go_enter Try.func107, Try.ntmps107
    go_wp2
    go_ret
    exact ⟨none, 0, rfl, Zs.nil w, Fr.refl _ _⟩
  | some ad =>
    obtain ⟨i0, hi0, hz0, hz1, hz2⟩ := info3 Try.info3
    have hnil := fun w => Lib.run_eql_slice_nil (P := Try.prog) w 42 3 (some ad) n cap 0 0 Try.underlying42
    have Hf0 := Lib.hid ((Fr.refl [] w).alloc (.cells #[] 3))
    have hm0 : (w.alloc (.cells #[] 3)).ownsRow w.heap.size 3 1 (.slice (some ⟨w.heap.size, 0, none⟩) 0 0) 0 [] := World.ownsRow_made w #[] 0 (Nat.le_refl _) (by simp [maxLen]) (by simp)
    have Hm0 := Lib.hid hm0
    have Hcell := Lib.hid ((h.fr Hf0.out (NoZ.nil _)).news)
    have Hn := Lib.hid hn
    clear hm0 h hn
    go_enter Try.func107, Try.ntmps107
    go_wp2_with (at_builtin; go_must (refine wpList_append_own _ rfl (.tmp 5) (.tmp 6) 42 rfl w.heap.size 3 i0 (.int .i64 0) 1 8 Try.underlying42 hi0 hz0 hz1 hz2 rfl (by decide) _ _ _ rfl Hm0.out _ n cap (ints l) rfl (by rw [ints_len, Hn.out]; omega) Hcell.out (ints_one _) (by simp only [maxLen]; omega) (by omega) (by simp) ?_; intro v1 w1 hown1 hg1 hnn; have hf1 := Hf0.out.own Hm0.out hg1))
    go_ret
    simp only [List.nil_append, Nat.zero_add] at hown1
    obtain ⟨A', cap', rfl⟩ := own_shape hown1
    rw [Hn.out] at hown1
    refine ⟨A', cap', ?_, Zs.of_own hown1 rfl, hf1⟩
    rw [Hn.out]
    rfl
theorem DiskAt.armed {w : World} {p g m : Nat} {d : Dk} {n : Nat} {v : Int} {u : Value} {l : List Int} (h : DiskAt w p g m d) (hv : 0 ≤ v) (hv1 : v ≤ 9223372036854775807) (hz : Zs w u l) :
    DiskAt ((w.setCell ⟨p, 2, none⟩ (.int .i64 v)).setCell ⟨p, 3, none⟩ u) p g m { d with armed := v, ch := l } := by
  obtain ⟨cap, cv, hb, hc, hm, hcz⟩ := h.hd
  have hb' := (hb.set_ 2 (.int .i64 v)).set_ 3 u
  have hf' : Fr [p] w _ := ((Fr.refl [p] w).setCell (p := ⟨p, 2, none⟩) (.inl (by simp)) (.int .i64 v)).setCell (p := ⟨p, 3, none⟩) (.inl (by simp)) u
  refine h.with_ (n := 0) (cs := #[]) (cap := cap) (cv := u) hf' ⟨h.ok.n1, h.ok.n2, h.ok.un, hv, hv1⟩ rfl rfl rfl hb' hc hm ((hz.cells hb _ _).cells (hb.set_ 2 _) _ _)
theorem Arm_any (p g m : Nat) (d : Dk) (x : Int) (A : Option Addr) (n cap : Nat) (l : List Int) (w : World) (h : DiskAt w p g m d) (hz : Zw w (.slice A n cap) l) (hb : n * 8 ≤ 140737488355328) (hx : x ≤ 9223372036854775807) :
    Calls Try.prog 81 #[ptr p, .int .i64 x, .slice A n cap] w fun e w' => e = .returned (.int .i64 (d.armE x)) ∧ DiskAt w' p g m (d.armS x l) ∧ Fr [p] w w' := by
  have HC := Lib.hid (cloneZ_any A n cap l w hz hb)
  obtain ⟨cp, cv, hbk, hc, hm, hcz⟩ := h.hd
  have c4 : w.cell? ⟨p, 4, none⟩ = some (.bool d.dead) := by rw [hbk.cell]; rfl
  have HB := Lib.hid hbk
  have H := Lib.hid h
  cases hd : d.dead with
  | true =>
    have E1 := Lib.hid (show (2 : Int) = d.armE x by unfold Dk.armE; rw [hd]; rfl)
    have E2 := Lib.hid (show d.armS x l = d by unfold Dk.armS; rw [← E1.out]; rfl)
    rw [hd] at c4
    clear h hz hcz hbk hd hc hm
    generalize d.armE x = V at *
    go_enter Try.func81, Try.ntmps81
    go_wp2_with fail
    go_ret
    exact ⟨ret_int E1.out, by rw [E2.out]; exact H.out, Fr.refl _ _⟩
  | false =>
    rw [hd] at c4
    by_cases hx0 : x < 0
    · have E1 := Lib.hid (show (1 : Int) = d.armE x by unfold Dk.armE; rw [hd, if_pos hx0]; rfl)
      have E2 := Lib.hid (show d.armS x l = d by unfold Dk.armS; rw [← E1.out]; rfl)
      clear h hz hcz hbk hd hc hm
      generalize d.armE x = V at *
      go_enter Try.func81, Try.ntmps81
      go_wp2_with fail
      go_ret
      exact ⟨ret_int E1.out, by rw [E2.out]; exact H.out, Fr.refl _ _⟩
    · have E1 := Lib.hid (show (0 : Int) = d.armE x by unfold Dk.armE; rw [hd, if_neg hx0]; rfl)
      have E2 := Lib.hid (show d.armS x l = { d with armed := x, ch := l } by unfold Dk.armS; rw [← E1.out]; rfl)
      clear h hz hcz hbk hd hc hm
      generalize d.armE x = V at *
      go_enter Try.func81, Try.ntmps81
      go_wp2_with (go_at_call 107; refine HC.out.mono ?_; rintro e w1 ⟨A', cap', rfl, hz1, hf1⟩
                   have hb1 := HB.out.fr hf1 (by simp)
                   have c2 := hb1.cell 2
                   have c3 := hb1.cell 3
                   simp at c2 c3
                   have f2 := hb1.frozen 2
                   have f3 := hb1.frozen 3
                   have HZ1 := Lib.hid hz1
                   have Hf1 := Lib.hid hf1
                   clear hb1 hz1 hf1)
      go_ret
      have h1 := (H.out.to Hf1.out).armed (n := 0) (v := x) (by omega) hx HZ1.out
      exact ⟨ret_int E1.out, by rw [E2.out]; exact h1, (((Hf1.out.mono (S' := [p]) (fun k hk _ => by cases hk))).setCell (.inl (by simp)) _).setCell (.inl (by simp)) _⟩
end Go.Proofs.Ythmnloapjdalpaa
