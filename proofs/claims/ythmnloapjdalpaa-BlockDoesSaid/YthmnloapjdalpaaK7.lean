/- The reference's disk: Write. The reference's disk: Flush. -/
import Derived.Test.YthmnloapjdalpaaK5
namespace Go.Proofs.Ythmnloapjdalpaa
open Go.RowKit
set_option linter.unusedVariables false
set_option linter.unusedSimpArgs false
theorem Alike.putw {l : List One} {d : Dk} (h : Alike l d) {i : Nat} {o : One} (hi : l[i]? = some o) (t : ByteArray) : Alike (l.set i ⟨o.sf, t, true⟩) (d.put i t) := by
  refine ⟨by rw [List.length_set]; exact h.1, fun j o' hj => ?_⟩
  rw [List.getElem?_set] at hj
  by_cases e : i = j
  · subst e
    rw [if_pos rfl] at hj
    split at hj
    · injection hj with hj
      subst hj
      have hu : (d.put i t).u i = some t := if_pos rfl
      exact ⟨(h.2 i o hi).1, by rw [hu]; rfl, fun s hs => by rw [hu] at hs; injection hs⟩
    · cases hj
  · rw [if_neg e] at hj
    obtain ⟨h1, h2, h3⟩ := h.2 j o' hj
    have hu : (d.put i t).u j = d.u j := if_neg (fun hh => e hh.symm)
    exact ⟨h1, by rw [hu]; exact h2, by rw [hu]; exact h3⟩
theorem rd_sec {d : Dk} {i : Nat} {t : ByteArray} (h : d.u i = some t) (k : Nat) (hk : k < 128) : rdB d (i * 128 + k) = at8 t k := by
  unfold rdB
  rw [show (i * 128 + k) / 128 = i by omega, h]
  show at8 t ((i * 128 + k) % 128) = at8 t k
  rw [show (i * 128 + k) % 128 = k by omega]
theorem Alike.settle_next {l : List One} {d : Dk} {a i : Nat} (h : Alike l (d.settle a i)) (ha : a ≤ i) (ok : d.Ok) {o : One} (hi : l[i]? = some o) : Alike (if o.un then l.set i ⟨o.wr, ⟨#[]⟩, false⟩ else l) (d.settle a (i + 1)) := by
  have ho := h.2 i o hi
  have hu : (d.settle a i).u i = d.u i := settle_u d a i
  cases hun : o.un with
  | false =>
    rw [if_neg (by simp)]
    have : d.u i = none := by
      have := ho.2.1
      rw [hu, hun] at this
      cases hd : d.u i with
      | none => rfl
      | some t => rw [hd] at this; cases this
    rw [settle_none this]
    exact h
  | true =>
    rw [if_pos rfl]
    have : ∃ t, d.u i = some t := by
      have := ho.2.1
      rw [hu, hun] at this
      cases hd : d.u i with
      | none => rw [hd] at this; cases this
      | some t => exact ⟨t, rfl⟩
    obtain ⟨t, ht⟩ := this
    have hwr : o.wr = t := ho.2.2 t (by rw [hu]; exact ht)
    have hts := (ok.un i t ht).2
    refine ⟨by rw [List.length_set]; exact h.1, fun j o' hj => ?_⟩
    rw [List.getElem?_set] at hj
    by_cases e : i = j
    · subst e
      rw [if_pos rfl] at hj
      split at hj
      · injection hj with hj
        subst hj
        have hn : (d.settle a (i + 1)).u i = none := by
          show (if a ≤ i ∧ i < i + 1 then none else d.u i) = none
          rw [if_pos (by omega)]
        refine ⟨?_, by rw [hn]; rfl, fun s hs => by rw [hn] at hs; cases hs⟩
        show o.wr = _
        rw [hwr, ← bs_all' hts]
        refine bs_congr fun k hk => ?_
        show at8 t (0 + k) = (if a ≤ (i * 128 + k) / 128 ∧ (i * 128 + k) / 128 < i + 1 then rdB d (i * 128 + k) else d.s (i * 128 + k))
        rw [if_pos (by omega), rd_sec ht k hk, Nat.zero_add]
      · cases hj
    · rw [if_neg e] at hj
      obtain ⟨h1, h2, h3⟩ := h.2 j o' hj
      have hn : (d.settle a (i + 1)).u j = (d.settle a i).u j := by
        show (if a ≤ j ∧ j < i + 1 then none else d.u j) = (if a ≤ j ∧ j < i then none else d.u j)
        by_cases h2 : a ≤ j ∧ j < i
        · rw [if_pos h2, if_pos (by omega)]
        · rw [if_neg h2, if_neg (by omega)]
      refine ⟨?_, by rw [hn]; exact h2, by rw [hn]; exact h3⟩
      rw [h1]
      refine bs_congr fun k hk => ?_
      show (if a ≤ (j * 128 + k) / 128 ∧ (j * 128 + k) / 128 < i then rdB d (j * 128 + k) else d.s (j * 128 + k)) = (if a ≤ (j * 128 + k) / 128 ∧ (j * 128 + k) / 128 < i + 1 then rdB d (j * 128 + k) else d.s (j * 128 + k))
      by_cases h2 : a ≤ (j * 128 + k) / 128 ∧ (j * 128 + k) / 128 < i
      · rw [if_pos h2, if_pos (by omega)]
      · rw [if_neg h2, if_neg (by omega)]
theorem wr_bad {d : Dk} {i : Int} {t : ByteArray} {v : Int} (h : d.writeE0 i t = v) (hv : v ≠ 0) : d.writeE i t = v ∧ d.writeS i t = d := by
  unfold Dk.writeE Dk.writeS
  rw [h, if_neg hv, if_neg hv]
  exact ⟨rfl, rfl⟩
theorem fl_bad {d : Dk} {a b : Int} {v : Int} (h : d.flushE0 a b = v) (hv : v ≠ 0) : d.flushE a b = v ∧ d.flushS a b = d := by
  unfold Dk.flushE Dk.flushS
  rw [h, if_neg hv, if_neg hv]
  exact ⟨rfl, rfl⟩
theorem RD.chs {w : World} {q : Nat} {d : Dk} (h : RD w q d) : ∃ A cap, w.cell? ⟨q, 2, none⟩ = some (.slice A d.ch.length cap) ∧ Zw w (.slice A d.ch.length cap) d.ch := by
  obtain ⟨ok, lv, cv, l, hb, hl, ha, hc⟩ := h
  have hc' := hc
  obtain ⟨A, cap, rfl, -⟩ := hc
  exact ⟨A, cap, by rw [hb.cell]; rfl, hc'.zw⟩
set_option maxRecDepth 100000 in
theorem rWrite_any (q : Nat) (d : Dk) (i : Int) (t : ByteArray) (w : World) (h : RD w q d) : Calls Try.prog 95 #[ptr q, .int .i64 i, .string t] w fun e w' => e = .returned (.int .i64 (d.writeE i t)) ∧ RTurn q w (d.writeS i t) w' := by
  obtain ⟨A0, cap0, cv, L, hb, hl, ha, hc, hA⟩ := h.form
  have c0 := hb.cell 0
  have c3 := hb.cell 3
  simp at c0 c3
  have HR := Lib.hid (RTurn.refl h)
  have hn1 := h.ok.n1
  have hn2 := h.ok.n2
  obtain ⟨N, hN⟩ : ∃ N, d.n = N := ⟨_, rfl⟩
  cases hd : d.dead with
  | true =>
    obtain ⟨E1, E2⟩ := wr_bad (v := 2) (show d.writeE0 i t = 2 by unfold Dk.writeE0; rw [hd]; rfl) (by decide)
    rw [E1, E2]
    rw [hd] at c3
    clear h hb hl ha hc hA c0 E1 E2
    go_enter Try.func95, Try.ntmps95
    go_wp2
    go_ret
    exact ⟨rfl, HR.out⟩
  | false =>
    rw [hd] at c3
    by_cases h1 : i < 0
    · obtain ⟨E1, E2⟩ := wr_bad (v := 71) (show d.writeE0 i t = 71 by unfold Dk.writeE0; rw [hd, if_neg (by simp), if_pos (.inl h1)]) (by decide)
      rw [E1, E2]
      clear h hb hl ha hc hA c0 E1 E2
      go_enter Try.func95, Try.ntmps95
      go_wp2
      go_ret
      exact ⟨rfl, HR.out⟩
    · by_cases h2 : (d.n : Int) ≤ i
      · obtain ⟨E1, E2⟩ := wr_bad (v := 71) (show d.writeE0 i t = 71 by unfold Dk.writeE0; rw [hd, if_neg (by simp), if_pos (.inr h2)]) (by decide)
        rw [E1, E2]
        clear h hb hl ha hc hA hd E1 E2
        rw [hN] at h2 c0
        clear hN
        go_enter Try.func95, Try.ntmps95
        go_wp2
        go_ret
        exact ⟨rfl, HR.out⟩
      · by_cases h3 : t.size ≠ 128
        · obtain ⟨E1, E2⟩ := wr_bad (v := 72) (show d.writeE0 i t = 72 by unfold Dk.writeE0; rw [hd, if_neg (by simp), if_neg (by omega), if_pos h3]) (by decide)
          rw [E1, E2]
          clear h hb hl ha hc hA hd E1 E2
          rw [hN] at h2 c0
          clear hN
          have h3' : ¬ (t.size : Int) = 128 := by omega
          go_enter Try.func95, Try.ntmps95
          go_wp2
          go_ret
          exact ⟨rfl, HR.out⟩
        · have ht : t.size = 128 := Decidable.not_not.1 h3
          obtain ⟨k, rfl⟩ : ∃ k : Nat, i = (k : Int) := ⟨i.toNat, by omega⟩
          have hE0 : d.writeE0 (k : Int) t = 0 := by unfold Dk.writeE0; rw [hd, if_neg (by simp), if_neg (by omega), if_neg h3]
          have hk : k < d.n := by omega
          obtain ⟨o, hLo, hOi⟩ := ha.get (i := k) hk
          have E1 := Lib.hid (show d.writeE (k : Int) t = if (d.put k t).gone then 2 else 0 by unfold Dk.writeE; rw [hE0, if_pos rfl]; rfl)
          have E2 := Lib.hid (show d.writeS (k : Int) t = if (d.put k t).gone then (d.put k t).tick.die (d.put k t).tick.ch else (d.put k t).tick by unfold Dk.writeS; rw [hE0, if_pos rfl, tick_ch]; rfl)
          rw [E1.out, E2.out]
          obtain ⟨i0, hi0, hz0, hz1, hz2⟩ := info3 Try.info129
          have hLl : L.length = d.n := ha.1
          have hf1 : Fr [] w (w.alloc (.cells #[] 129)) := (Fr.refl [] w).alloc _
          have HN := Lib.hid ((hl.fr hf1 (NoO.nil _)).news)
          have c0a := hf1.cell_some c0 (by simp)
          have hm0 := World.ownsRow_made (base := w.heap.size) (e := 129) (size := 3) w #[] 0 (by simp) (by simp [maxLen]) (by simp)
          have Hm0 := Lib.hid hm0
          have HE := Lib.hid (fun W v' (ho : W.ownsRow w.heap.size 129 3 v' d.n (ocs L)) (hf : Fr [] w W) =>
            (show ∃ g cap', v' = .slice (some ⟨g, 0, none⟩) d.n cap' ∧ W.cell? ⟨g, k * 3 + 1, none⟩ = some (.string o.wr) ∧ W.cell? ⟨g, k * 3 + 2, none⟩ = some (.bool o.un) ∧ (∀ j, W.frozen? ⟨g, j, none⟩ = false) ∧ g ≠ q ∧ W.cell? ⟨q, 0, none⟩ = some (.slice (some A0) d.n cap0) ∧ W.frozen? ⟨q, 0, none⟩ = false ∧ W.cell? ⟨q, 3, none⟩ = some (.bool false) ∧
              RTurn q w (d.put k t) (((W.setCell ⟨g, k * 3 + 1, none⟩ (.string t)).setCell ⟨g, k * 3 + 2, none⟩ (.bool true)).setCell ⟨q, 0, none⟩ (.slice (some ⟨g, 0, none⟩) d.n cap')) from by
              have hne : L ≠ [] := by
                intro hh
                rw [hh] at hLl
                simp at hLl
                omega
              have ho' : OOwn w.heap.size W v' L := by unfold OOwn; rw [hLl]; exact ho
              obtain ⟨g, cap', rfl, hg, hc1, hc2, hB⟩ := ho'.ob hne
              rw [hLl] at hc1 ⊢
              have hq := hb.lt
              have hgq : g ≠ q := by omega
              have hbW := hb.fr hf (by simp)
              obtain ⟨x0, x1, x2⟩ := hB.cells hLo
              have hB1 := hB.set hLo (o' := ⟨o.sf, t, o.un⟩) 1 (.string t) (by omega) rfl (fun j hj => by
                cases j with
                | zero => rfl
                | succ j => cases j with
                  | zero => exact absurd rfl hj
                  | succ j => rfl)
              have hkL : k < L.length := by omega
              have hLo1 : (L.set k ⟨o.sf, t, o.un⟩)[k]? = some ⟨o.sf, t, o.un⟩ := by rw [List.getElem?_set, if_pos rfl, if_pos hkL]
              have hB2 := hB1.set hLo1 (o' := ⟨o.sf, t, true⟩) 2 (.bool true) (by omega) rfl (fun j hj => by
                cases j with
                | zero => rfl
                | succ j => cases j with
                  | zero => rfl
                  | succ j => cases j with
                    | zero => exact absurd rfl hj
                    | succ j => rfl)
              rw [List.set_set] at hB2
              refine ⟨g, cap', rfl, x1, x2, fun j => hB.frozen j, hgq, by rw [hbW.cell]; rfl, hbW.frozen 0, by rw [hbW.cell, ← hd]; rfl, ?_⟩
              have hfW : Fr [q] w (((W.setCell ⟨g, k * 3 + 1, none⟩ (.string t)).setCell ⟨g, k * 3 + 2, none⟩ (.bool true)).setCell ⟨q, 0, none⟩ (.slice (some ⟨g, 0, none⟩) d.n cap')) := (((hf.mono (fun j hj => by cases hj)).setCell (.inr hg) _).setCell (.inr hg) _).setCell (.inl (by simp)) _
              have hb2 : Blk ((W.setCell ⟨g, k * 3 + 1, none⟩ (.string t)).setCell ⟨g, k * 3 + 2, none⟩ (.bool true)) q 127 _ := hbW.fr (S := [g]) (((Fr.refl [g] W).setCell (.inl (by simp)) _).setCell (.inl (by simp)) _) (by simp; omega)
              have hb3 := hb2.set_ 0 (.slice (some ⟨g, 0, none⟩) d.n cap')
              have hB3 := hB2.fr (S := [q]) ((Fr.refl [q] _).setCell (p := ⟨q, 0, none⟩) (.inl (by simp)) (.slice (some ⟨g, 0, none⟩) d.n cap')) (by simp; omega)
              refine ⟨⟨h.ok.put hk ht, _, cv, L.set k ⟨o.sf, t, true⟩, hb3, ?_, ha.putw hLo t, hc.fr hfW ?_⟩, hfW⟩
              · have := hB3.os (cap := cap') (by rw [List.length_set]; omega) hc2
                rw [List.length_set, hLl] at this
                exact this
              · exact h.noq.2))
          have hA0 := hA
          clear h hb hl ha hc hA hd hLo hOi hm0 hf1 hE0 E1 E2
          have hbound : (0 + d.n) * 40 ≤ 140737488355328 := by omega
          have hLn := Lib.hid (show (ocs L).length = d.n * 3 by rw [ocs_len, hLl])
          have hone := Lib.hid (ocs_one L)
          clear hLl
          generalize hXs : ocs L = XS at *
          clear hXs
          have hk' : (k : Int) < (N : Int) := by omega
          have hk0 : (0 : Int) ≤ (k : Int) := by omega
          generalize hdp : d.put k t = dp at *
          clear hdp
          rw [hN] at c0 c0a hk hbound hLn HE hn1 hn2 h2
          clear hN h3
          have ht' : (t.size : Int) = 128 := by omega
          go_enter Try.func95, Try.ntmps95
          have hm1 : 0 + N ≤ maxLen := by simp only [maxLen]; omega
          have Hsz : w.heap.size ≤ (w.alloc (.cells #[] 129)).heap.size := by simp
          obtain ⟨ab, ao, asp⟩ := A0
          simp only at hA0
          subst hA0
          go_wp2_with (first
            | (at_builtin; go_must (refine wpList_append_own _ rfl (.tmp 27) (.tmp 31) 125 rfl w.heap.size 129 i0 (.agg #[.string ⟨#[]⟩, .string ⟨#[]⟩, .bool false]) 3 40 Try.underlying125 hi0 hz0 hz1 hz2 rfl (Nat.succ_pos 2) (.slice (some ⟨w.heap.size, 0, none⟩) 0 0) 0 [] rfl Hm0.out ⟨ab, ao, none⟩ N cap0 XS rfl hLn.out HN.out hone.out hm1 hbound Hsz ?_; intro v3 w3 hown3 hg3 hnn3; simp only [List.nil_append, Nat.zero_add] at hown3; have hf3 := ((Fr.refl [] w).alloc (.cells #[] 129)).own Hm0.out hg3; obtain ⟨g, cp, rfl, x1, x2, fz, hgq, d0, df, d3, hT⟩ := HE.out _ _ hown3 hf3; have HT := Lib.hid hT; have f1 := fz (k * 3 + 1); have f2 := fz (k * 3 + 2); clear hT fz hf3 hown3 hg3 hnn3))
            | (go_at_call 108; refine HD.out.mono ?_; rintro e w5 ⟨rfl, ht5⟩)
            | (go_at_call 112; refine (rGoes_any q dp _ HT.out.1).mono ?_; rintro e w4 ⟨rfl, ht4⟩; obtain ⟨cA, ccp, c2, hzz⟩ := ht4.1.chs; have HD := Lib.hid (rDie_any q dp.tick cA dp.tick.ch.length ccp dp.tick.ch w4 ht4.1 hzz); have HT4 := Lib.hid (HT.out.trans ht4); clear ht4 hzz))
          all_goals (go_ret; first | exact ⟨rfl, HT4.out.trans ht5⟩ | exact ⟨rfl, HT4.out⟩)
end Go.Proofs.Ythmnloapjdalpaa
namespace Go.Proofs.Ythmnloapjdalpaa
open Go.RowKit
set_option linter.unusedVariables false
set_option linter.unusedSimpArgs false
theorem OB.set3 {w : World} {g : Nat} {l : List One} (h : OB w g l) {i : Nat} (hi : i < l.length) (o' : One) : OB (((w.setCell ⟨g, i * 3, none⟩ (oc0 o')).setCell ⟨g, i * 3 + 1, none⟩ (oc1 o')).setCell ⟨g, i * 3 + 2, none⟩ (oc2 o')) g (l.set i o') := by
  obtain ⟨cs, hb, hk⟩ := h
  have hx : l[i]? = some (l[i]'hi) := List.getElem?_eq_getElem hi
  have hsz := (Array.getElem?_eq_some_iff.1 (hk i _ hx).2.2).1
  refine ⟨_, ((hb.set_ (i * 3) (oc0 o')).set_ (i * 3 + 1) (oc1 o')).set_ (i * 3 + 2) (oc2 o'), fun j k hj => ?_⟩
  simp only [Array.getElem?_setIfInBounds, Array.size_setIfInBounds]
  rw [List.getElem?_set] at hj
  by_cases e : i = j
  · subst e
    rw [if_pos rfl, if_pos hi] at hj
    injection hj with hj
    subst hj
    refine ⟨?_, ?_, ?_⟩
    · rw [if_neg (by omega), if_neg (by omega), if_pos rfl, if_pos (by omega)]
    · rw [if_neg (by omega), if_pos rfl, if_pos (by omega)]
    · rw [if_pos rfl, if_pos (by omega)]
  · rw [if_neg e] at hj
    obtain ⟨a, b, c⟩ := hk j k hj
    refine ⟨?_, ?_, ?_⟩
    · rw [if_neg (by omega), if_neg (by omega), if_neg (by omega)]; exact a
    · rw [if_neg (by omega), if_neg (by omega), if_neg (by omega)]; exact b
    · rw [if_neg (by omega), if_neg (by omega), if_neg (by omega)]; exact c
/-- The copy under way: the sectors ahead of i are settled. -/
def FlR (w1 : World) (g n : Nat) (d : Dk) (a i : Nat) (wr : World) : Prop := ∃ L, OB wr g L ∧ L.length = n ∧ Alike L (d.settle a i) ∧ Fr [] w1 wr ∧ w1.heap.size ≤ g
theorem FlR.skip {w1 wr : World} {g n : Nat} {d : Dk} {a i : Nat} (h : FlR w1 g n d a i wr) (ha : a ≤ i) (ok : d.Ok) (hi : i < n) :
    ∃ o : One, wr.cell? ⟨g, i * 3 + 1, none⟩ = some (.string o.wr) ∧ wr.cell? ⟨g, i * 3 + 2, none⟩ = some (.bool o.un) ∧ (∀ j, wr.frozen? ⟨g, j, none⟩ = false) ∧ (∃ u0, wr.cell? ⟨g, i * 3, none⟩ = some u0) ∧
      (o.un = false → FlR w1 g n d a (i + 1) wr) ∧ (o.un = true → FlR w1 g n d a (i + 1) (((wr.setCell ⟨g, i * 3, none⟩ (.string o.wr)).setCell ⟨g, i * 3 + 1, none⟩ (.string ⟨#[]⟩)).setCell ⟨g, i * 3 + 2, none⟩ (.bool false))) := by
  obtain ⟨L, hB, hn, hal, hf, hg⟩ := h
  have hx : L[i]? = some (L[i]'(by omega)) := List.getElem?_eq_getElem (by omega)
  generalize L[i]'(by omega) = o at hx
  obtain ⟨x0, x1, x2⟩ := hB.cells hx
  have hs := hal.settle_next ha ok hx
  refine ⟨o, x1, x2, fun j => hB.frozen j, ⟨_, x0⟩, fun hu => ?_, fun hu => ?_⟩
  · rw [hu, if_neg (by simp)] at hs
    exact ⟨L, hB, hn, hs, hf, hg⟩
  · rw [hu, if_pos rfl] at hs
    exact ⟨_, hB.set3 (by omega) ⟨o.wr, ⟨#[]⟩, false⟩, by rw [List.length_set]; exact hn, hs, ((hf.setCell (.inr hg) _).setCell (.inr hg) _).setCell (.inr hg) _, hg⟩
theorem gone_dead {d : Dk} (h : d.dead = false) : d.tick.dead = false ∧ d.tick.n = d.n ∧ d.tick.ch = d.ch := by
  unfold Dk.tick
  split <;> exact ⟨h, rfl, rfl⟩
set_option maxRecDepth 100000 in
theorem rFlush_any (q : Nat) (d : Dk) (a b : Int) (w : World) (h : RD w q d) (hA : a ≤ 9223372036854775807) (hB : b ≤ 9223372036854775807) : Calls Try.prog 96 #[ptr q, .int .i64 a, .int .i64 b] w fun e w' => e = .returned (.int .i64 (d.flushE a b)) ∧ RTurn q w (d.flushS a b) w' := by
  obtain ⟨A0, cap0, cv, L, hb, hl, ha, hc, hA0⟩ := h.form
  have c0 := hb.cell 0
  have c3 := hb.cell 3
  simp at c0 c3
  have HR := Lib.hid (RTurn.refl h)
  have hn1 := h.ok.n1
  have hn2 := h.ok.n2
  obtain ⟨N, hN⟩ : ∃ N, d.n = N := ⟨_, rfl⟩
  cases hd : d.dead with
  | true =>
    obtain ⟨E1, E2⟩ := fl_bad (v := 2) (show d.flushE0 a b = 2 by unfold Dk.flushE0; rw [hd]; rfl) (by decide)
    rw [E1, E2]
    rw [hd] at c3
    clear h hb hl ha hc hA0 c0 E1 E2
    go_enter Try.func96, Try.ntmps96
    go_wp2
    go_ret
    exact ⟨rfl, HR.out⟩
  | false =>
    rw [hd] at c3
    by_cases hbad : a < 0 ∨ b < 0 ∨ (d.n : Int) < a ∨ (d.n : Int) - a < b
    · obtain ⟨E1, E2⟩ := fl_bad (v := 71) (show d.flushE0 a b = 71 by unfold Dk.flushE0; rw [hd, if_neg (by simp), if_pos hbad]) (by decide)
      rw [E1, E2]
      rw [hN] at hbad c0
      rw [hN] at hn2
      clear h hb hl ha hc hA0 E1 E2 hd hN hn1
      by_cases h1 : a < 0
      · clear hbad
        go_enter Try.func96, Try.ntmps96
        go_wp2
        go_ret
        exact ⟨rfl, HR.out⟩
      · by_cases h2 : b < 0
        · clear hbad
          go_enter Try.func96, Try.ntmps96
          go_wp2
          go_ret
          exact ⟨rfl, HR.out⟩
        · by_cases h3 : (N : Int) < a
          · clear hbad
            go_enter Try.func96, Try.ntmps96
            go_wp2
            go_ret
            exact ⟨rfl, HR.out⟩
          · have h4 : (N : Int) - a < b := by omega
            have hw4 : IntKind.i64.wrap ((N : Int) - a) = (N : Int) - a := IntWalk.i64_in _ (by omega)
            clear hbad
            go_enter Try.func96, Try.ntmps96
            go_wp2
            go_ret
            exact ⟨rfl, HR.out⟩
    · have hE0 : d.flushE0 a b = 0 := by unfold Dk.flushE0; rw [hd, if_neg (by simp), if_neg hbad]
      obtain ⟨k, rfl⟩ : ∃ k : Nat, a = (k : Int) := ⟨a.toNat, by omega⟩
      obtain ⟨c, rfl⟩ : ∃ c : Nat, b = (c : Int) := ⟨b.toNat, by omega⟩
      have E1 := Lib.hid (show d.flushE (k : Int) (c : Int) = if d.gone then 2 else 0 by unfold Dk.flushE; rw [hE0, if_pos rfl])
      have E2 := Lib.hid (show d.flushS (k : Int) (c : Int) = if d.gone then d.tick.die d.tick.ch else d.tick.settle k (k + c) by unfold Dk.flushS; rw [hE0, if_pos rfl, tick_ch]; rfl)
      rw [E1.out, E2.out]
      have HG := Lib.hid (rGoes_any q d w h)
      obtain ⟨-, htn, -⟩ := gone_dead hd
      rw [hN] at htn hbad c0 hn1 hn2
      clear h hb hl ha hc hA0 hd hE0 E1 E2 hN HR L cv
      have HTN := Lib.hid htn
      clear htn
      generalize d.tick = dt at *
      have g1 : ¬ (k : Int) < 0 := by omega
      have g2 : ¬ (c : Int) < 0 := by omega
      have g3 : ¬ (N : Int) < (k : Int) := by omega
      have g4 : ¬ (N : Int) - (k : Int) < (c : Int) := by omega
      have hw4 : IntKind.i64.wrap ((N : Int) - (k : Int)) = (N : Int) - (k : Int) := IntWalk.i64_in _ (by omega)
      have hkc : k + c ≤ N := by omega
      clear hbad
      cases hgn : d.gone with
      | true =>
        rw [hgn] at HG
        rw [if_pos rfl, if_pos rfl]
        clear hgn
        go_enter Try.func96, Try.ntmps96
        go_wp2_with (first
          | (go_at_call 108; refine HD.out.mono ?_; rintro e w2 ⟨rfl, ht2⟩)
          | (go_at_call 112; refine HG.out.mono ?_; rintro e w1 ⟨rfl, ht⟩; obtain ⟨cA, ccp, c2, hzz⟩ := ht.1.chs; have HD := Lib.hid (rDie_any q dt cA dt.ch.length ccp dt.ch w1 ht.1 hzz); have HT := Lib.hid ht; clear ht hzz))
        go_ret
        exact ⟨rfl, HT.out.trans ht2⟩
      | false =>
        rw [hgn] at HG
        rw [if_neg (by simp), if_neg (by simp)]
        clear hgn
        obtain ⟨i0, hi0, hz0, hz1, hz2⟩ := info3 Try.info129
        go_enter Try.func96, Try.ntmps96
        go_upto_region 9 with (go_at_call 112; refine HG.out.mono ?_; rintro e w1 ⟨rfl, ht⟩)
        obtain ⟨hT1, hT2⟩ := ht
        have Hok := Lib.hid hT1.ok
        have HF1 := Lib.hid hT2
        have HT1 := Lib.hid hT1
        obtain ⟨⟨ab, ao, asp⟩, cp1, cv1, L1, hb1, hl1, ha1, hc1, hA1⟩ := hT1.form
        simp only at hA1
        subst hA1
        rw [HTN.out] at hb1 hl1
        have hL1 : L1.length = N := by rw [ha1.1]; exact HTN.out
        have hfa : Fr [] w1 (w1.alloc (.cells #[] 129)) := (Fr.refl [] w1).alloc _
        have c1a := hfa.cell_some (hb1.cell 0) (by simp)
        simp at c1a
        have HN := Lib.hid ((hl1.fr hfa (NoO.nil _)).news)
        have hm0 := World.ownsRow_made (base := w1.heap.size) (e := 129) (size := 3) w1 #[] 0 (by simp) (by simp [maxLen]) (by simp)
        have Hm0 := Lib.hid hm0
        have hLn := Lib.hid (show (ocs L1).length = N * 3 by rw [ocs_len, hL1])
        have hone := Lib.hid (ocs_one L1)
        have HS0 := Lib.hid (fun W v' (ho : W.ownsRow w1.heap.size 129 3 v' N (ocs L1)) (hf : Fr [] w1 W) =>
          (show ∃ g cap', v' = .slice (some ⟨g, 0, none⟩) N cap' ∧ N ≤ cap' ∧ cap' ≤ maxLen ∧ FlR w1 g N dt k k W from by
            have hne : L1 ≠ [] := by
              intro hh
              rw [hh] at hL1
              simp at hL1
              omega
            have ho' : OOwn w1.heap.size W v' L1 := by unfold OOwn; rw [hL1]; exact ho
            obtain ⟨g, cap', rfl, hg, hc1, hc2, hB⟩ := ho'.ob hne
            rw [hL1] at hc1 ⊢
            exact ⟨g, cap', rfl, hc1, hc2, L1, hB, hL1, by rw [settle_self]; exact ha1, hf, hg⟩))
        have HEnd := Lib.hid (fun W g cap' (h1 : N ≤ cap') (h2 : cap' ≤ maxLen) (hR : FlR w1 g N dt k (k + c) W) =>
          (show RTurn q w (dt.settle k (k + c)) (W.setCell ⟨q, 0, none⟩ (.slice (some ⟨g, 0, none⟩) N cap')) ∧ W.cell? ⟨q, 0, none⟩ = some (.slice (some ⟨ab, ao, none⟩) N cp1) ∧ W.frozen? ⟨q, 0, none⟩ = false from by
            obtain ⟨L2, hB2, hn2', hal2, hf2, hg2⟩ := hR
            have hb2 := hb1.fr hf2 (by simp)
            have hfW : Fr [q] w1 (W.setCell ⟨q, 0, none⟩ (.slice (some ⟨g, 0, none⟩) N cap')) := (hf2.mono (fun j hj => by cases hj)).setCell (.inl (by simp)) _
            have hgq : g ≠ q := by have := hb1.lt; omega
            have hB3 := hB2.fr (S := [q]) ((Fr.refl [q] _).setCell (p := ⟨q, 0, none⟩) (.inl (by simp)) (.slice (some ⟨g, 0, none⟩) N cap')) (by simp; omega)
            refine ⟨⟨⟨Hok.out.settle k (k + c), _, cv1, L2, hb2.set_ 0 _, ?_, hal2, hc1.fr hfW HT1.out.noq.2⟩, HF1.out.trans hfW⟩, by rw [hb2.cell]; rfl, hb2.frozen 0⟩
            have := hB3.os (cap := cap') (by omega) h2
            rw [hn2'] at this
            exact this))
        have hbound : (0 + N) * 40 ≤ 140737488355328 := by omega
        have hm1 : 0 + N ≤ maxLen := by simp only [maxLen]; omega
        have Hsz : w1.heap.size ≤ (w1.alloc (.cells #[] 129)).heap.size := by simp
        clear hb1 hl1 ha1 hc1 hL1 hT1 hT2 hfa hm0 HT1
        generalize hXs : ocs L1 = XS at *
        clear hXs
        go_wp2_with (at_builtin; go_must (refine wpList_append_own _ rfl (.tmp 49) (.tmp 53) 125 rfl w1.heap.size 129 i0 (.agg #[.string ⟨#[]⟩, .string ⟨#[]⟩, .bool false]) 3 40 Try.underlying125 hi0 hz0 hz1 hz2 rfl (Nat.succ_pos 2) (.slice (some ⟨w1.heap.size, 0, none⟩) 0 0) 0 [] rfl Hm0.out ⟨ab, ao, none⟩ N cp1 XS rfl hLn.out HN.out hone.out hm1 hbound Hsz ?_; intro v3 w3 hown3 hg3 hnn3; simp only [List.nil_append, Nat.zero_add] at hown3; have hf3 := ((Fr.refl [] w1).alloc (.cells #[] 129)).own Hm0.out hg3; obtain ⟨g, cp, rfl, b1, b2, hR⟩ := HS0.out _ _ hown3 hf3; have HR := Lib.hid hR; clear hR hf3 hown3 hg3 hnn3))
        have hwkc : IntKind.i64.wrap ((k : Int) + (c : Int)) = (k : Int) + (c : Int) := IntWalk.i64_in _ (by omega)
        clear g1 g2 g3 g4 hw4 HS0 Hm0 HN
        go_loopg [9] c (fun gg vi wr => ∃ (i : Nat), i + gg = k + c ∧ k ≤ i ∧ vi = .int .i64 (i : Int) ∧ FlR w1 g N dt k i wr)
        case atStart => exact ⟨k, rfl, Nat.le_refl _, rfl, HR.out⟩
        case round =>
          obtain ⟨i, hi, hki, rfl, hR⟩ := hrel
          have Hi := Lib.hid hi
          have Hki := Lib.hid hki
          have HRi := Lib.hid hR
          by_cases hlt : i < k + c
          · have hlt' : (i : Int) < (k : Int) + (c : Int) := by omega
            have hi0' : (0 : Int) ≤ (i : Int) := by omega
            have hiN : (i : Int) < (N : Int) := by omega
            have hwi : IntKind.i64.wrap ((i : Int) + 1) = (i : Int) + 1 := IntWalk.i64_in _ (by omega)
            obtain ⟨o, x1, x2, fz, ⟨u0, x0⟩, hs1, hs2⟩ := hR.skip hki Hok.out (by omega)
            have y0 := fz (i * 3)
            have y1 := fz (i * 3 + 1)
            have y2 := fz (i * 3 + 2)
            clear hR hi hki fz
            obtain ⟨sf, wr_, un⟩ := o
            simp only at x1 x2 hs1 hs2
            cases un with
            | false =>
              have HS := Lib.hid (hs1 rfl)
              clear hs1 hs2
              go_wp2_with fail
              go_roundg (k + c - (i + 1))
              case measure => have := Hi.out; omega
              case rel => exact ⟨i + 1, by have := Hi.out; omega, by have := Hki.out; omega, by go_num, HS.out⟩
            | true =>
              have HS := Lib.hid (hs2 rfl)
              clear hs1 hs2
              go_wp2_with fail
              go_roundg (k + c - (i + 1))
              case measure => have := Hi.out; omega
              case rel => exact ⟨i + 1, by have := Hi.out; omega, by have := Hki.out; omega, by go_num, HS.out⟩
          · have hlt' : ¬ (i : Int) < (k : Int) + (c : Int) := by omega
            obtain rfl : i = k + c := by omega
            obtain ⟨hE1, e0, ef⟩ := HEnd.out _ _ _ b1 b2 hR
            have HE1 := Lib.hid hE1
            clear hR hi hki hE1
            go_wp2_with fail
            go_ret
            exact ⟨rfl, HE1.out⟩
end Go.Proofs.Ythmnloapjdalpaa
