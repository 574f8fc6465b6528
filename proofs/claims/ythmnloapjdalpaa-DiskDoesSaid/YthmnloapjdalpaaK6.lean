/- The reference's disk: Write. -/
import Derived.Test.YthmnloapjdalpaaK5
namespace Go.Proofs.Ythmnloapjdalpaa
open Go.RowKit
set_option linter.unusedVariables false
set_option linter.unusedSimpArgs false
theorem Alike.putw {l : List One} {d : Dk} (h : Alike l d) {i : Nat} {o : One} (hi : l[i]? = some o) (t : ByteArray) : Alike (l.set i ⟨o.sf, t, true⟩) (d.put i t) := by
  refine ⟨by rw [List.length_set]; exact h.1, fun j o' hj => ?_⟩
  rw [List.getElem?_set] at hj
  by_cases e : i = j
  · subst e
    rw [if_pos rfl] at hj
    split at hj
    · injection hj with hj
      subst hj
      have hu : (d.put i t).u i = some t := if_pos rfl
      exact ⟨(h.2 i o hi).1, by rw [hu]; rfl, fun s hs => by rw [hu] at hs; injection hs⟩
    · cases hj
  · rw [if_neg e] at hj
    obtain ⟨h1, h2, h3⟩ := h.2 j o' hj
    have hu : (d.put i t).u j = d.u j := if_neg (fun hh => e hh.symm)
    exact ⟨h1, by rw [hu]; exact h2, by rw [hu]; exact h3⟩
theorem rd_sec {d : Dk} {i : Nat} {t : ByteArray} (h : d.u i = some t) (k : Nat) (hk : k < 128) : rdB d (i * 128 + k) = at8 t k := by
  unfold rdB
  rw [show (i * 128 + k) / 128 = i by omega, h]
  show at8 t ((i * 128 + k) % 128) = at8 t k
  rw [show (i * 128 + k) % 128 = k by omega]
theorem Alike.settle_next {l : List One} {d : Dk} {a i : Nat} (h : Alike l (d.settle a i)) (ha : a ≤ i) (ok : d.Ok) {o : One} (hi : l[i]? = some o) : Alike (if o.un then l.set i ⟨o.wr, ⟨#[]⟩, false⟩ else l) (d.settle a (i + 1)) := by
  have ho := h.2 i o hi
  have hu : (d.settle a i).u i = d.u i := settle_u d a i
  cases hun : o.un with
  | false =>
    rw [if_neg (by simp)]
    have : d.u i = none := by
      have := ho.2.1
      rw [hu, hun] at this
      cases hd : d.u i with
      | none => rfl
      | some t => rw [hd] at this; cases this
    rw [settle_none this]
    exact h
  | true =>
    rw [if_pos rfl]
    have : ∃ t, d.u i = some t := by
      have := ho.2.1
      rw [hu, hun] at this
      cases hd : d.u i with
      | none => rw [hd] at this; cases this
      | some t => exact ⟨t, rfl⟩
    obtain ⟨t, ht⟩ := this
    have hwr : o.wr = t := ho.2.2 t (by rw [hu]; exact ht)
    have hts := (ok.un i t ht).2
    refine ⟨by rw [List.length_set]; exact h.1, fun j o' hj => ?_⟩
    rw [List.getElem?_set] at hj
    by_cases e : i = j
    · subst e
      rw [if_pos rfl] at hj
      split at hj
      · injection hj with hj
        subst hj
        have hn : (d.settle a (i + 1)).u i = none := by
          show (if a ≤ i ∧ i < i + 1 then none else d.u i) = none
          rw [if_pos (by omega)]
        refine ⟨?_, by rw [hn]; rfl, fun s hs => by rw [hn] at hs; cases hs⟩
        show o.wr = _
        rw [hwr, ← bs_all' hts]
        refine bs_congr fun k hk => ?_
        show at8 t (0 + k) = (if a ≤ (i * 128 + k) / 128 ∧ (i * 128 + k) / 128 < i + 1 then rdB d (i * 128 + k) else d.s (i * 128 + k))
        rw [if_pos (by omega), rd_sec ht k hk, Nat.zero_add]
      · cases hj
    · rw [if_neg e] at hj
      obtain ⟨h1, h2, h3⟩ := h.2 j o' hj
      have hn : (d.settle a (i + 1)).u j = (d.settle a i).u j := by
        show (if a ≤ j ∧ j < i + 1 then none else d.u j) = (if a ≤ j ∧ j < i then none else d.u j)
        by_cases h2 : a ≤ j ∧ j < i
        · rw [if_pos h2, if_pos (by omega)]
        · rw [if_neg h2, if_neg (by omega)]
      refine ⟨?_, by rw [hn]; exact h2, by rw [hn]; exact h3⟩
      rw [h1]
      refine bs_congr fun k hk => ?_
      show (if a ≤ (j * 128 + k) / 128 ∧ (j * 128 + k) / 128 < i then rdB d (j * 128 + k) else d.s (j * 128 + k)) = (if a ≤ (j * 128 + k) / 128 ∧ (j * 128 + k) / 128 < i + 1 then rdB d (j * 128 + k) else d.s (j * 128 + k))
      by_cases h2 : a ≤ (j * 128 + k) / 128 ∧ (j * 128 + k) / 128 < i
      · rw [if_pos h2, if_pos (by omega)]
      · rw [if_neg h2, if_neg (by omega)]
theorem wr_bad {d : Dk} {i : Int} {t : ByteArray} {v : Int} (h : d.writeE0 i t = v) (hv : v ≠ 0) : d.writeE i t = v ∧ d.writeS i t = d := by
  unfold Dk.writeE Dk.writeS
  rw [h, if_neg hv, if_neg hv]
  exact ⟨rfl, rfl⟩
theorem fl_bad {d : Dk} {a b : Int} {v : Int} (h : d.flushE0 a b = v) (hv : v ≠ 0) : d.flushE a b = v ∧ d.flushS a b = d := by
  unfold Dk.flushE Dk.flushS
  rw [h, if_neg hv, if_neg hv]
  exact ⟨rfl, rfl⟩
theorem RD.chs {w : World} {q : Nat} {d : Dk} (h : RD w q d) : ∃ A cap, w.cell? ⟨q, 2, none⟩ = some (.slice A d.ch.length cap) ∧ Zw w (.slice A d.ch.length cap) d.ch := by
  obtain ⟨ok, lv, cv, l, hb, hl, ha, hc⟩ := h
  have hc' := hc
  obtain ⟨A, cap, rfl, -⟩ := hc
  exact ⟨A, cap, by rw [hb.cell]; rfl, hc'.zw⟩
set_option maxRecDepth 100000 in
theorem rWrite_any (q : Nat) (d : Dk) (i : Int) (t : ByteArray) (w : World) (h : RD w q d) : Calls Try.prog 95 #[ptr q, .int .i64 i, .string t] w fun e w' => e = .returned (.int .i64 (d.writeE i t)) ∧ RTurn q w (d.writeS i t) w' := by
  obtain ⟨A0, cap0, cv, L, hb, hl, ha, hc, hA⟩ := h.form
  have c0 := hb.cell 0
  have c3 := hb.cell 3
  simp at c0 c3
  have HR := Lib.hid (RTurn.refl h)
  have hn1 := h.ok.n1
  have hn2 := h.ok.n2
  obtain ⟨N, hN⟩ : ∃ N, d.n = N := ⟨_, rfl⟩
  cases hd : d.dead with
  | true =>
    obtain ⟨E1, E2⟩ := wr_bad (v := 2) (show d.writeE0 i t = 2 by unfold Dk.writeE0; rw [hd]; rfl) (by decide)
    rw [E1, E2]
    rw [hd] at c3
    clear h hb hl ha hc hA c0 E1 E2
    go_enter Try.func95, Try.ntmps95
    go_wp2
    go_ret
    exact ⟨rfl, HR.out⟩
  | false =>
    rw [hd] at c3
    by_cases h1 : i < 0
    · obtain ⟨E1, E2⟩ := wr_bad (v := 71) (show d.writeE0 i t = 71 by unfold Dk.writeE0; rw [hd, if_neg (by simp), if_pos (.inl h1)]) (by decide)
      rw [E1, E2]
      clear h hb hl ha hc hA c0 E1 E2
      go_enter Try.func95, Try.ntmps95
      go_wp2
      go_ret
      exact ⟨rfl, HR.out⟩
    · by_cases h2 : (d.n : Int) ≤ i
      · obtain ⟨E1, E2⟩ := wr_bad (v := 71) (show d.writeE0 i t = 71 by unfold Dk.writeE0; rw [hd, if_neg (by simp), if_pos (.inr h2)]) (by decide)
        rw [E1, E2]
        clear h hb hl ha hc hA hd E1 E2
        rw [hN] at h2 c0
        clear hN
        go_enter Try.func95, Try.ntmps95
        go_wp2
        go_ret
        exact ⟨rfl, HR.out⟩
      · by_cases h3 : t.size ≠ 128
        · obtain ⟨E1, E2⟩ := wr_bad (v := 72) (show d.writeE0 i t = 72 by unfold Dk.writeE0; rw [hd, if_neg (by simp), if_neg (by omega), if_pos h3]) (by decide)
          rw [E1, E2]
          clear h hb hl ha hc hA hd E1 E2
          rw [hN] at h2 c0
          clear hN
          have h3' : ¬ (t.size : Int) = 128 := by omega
          go_enter Try.func95, Try.ntmps95
          go_wp2
          go_ret
          exact ⟨rfl, HR.out⟩
        · have ht : t.size = 128 := Decidable.not_not.1 h3
          obtain ⟨k, rfl⟩ : ∃ k : Nat, i = (k : Int) := ⟨i.toNat, by omega⟩
          have hE0 : d.writeE0 (k : Int) t = 0 := by unfold Dk.writeE0; rw [hd, if_neg (by simp), if_neg (by omega), if_neg h3]
          have hk : k < d.n := by omega
          obtain ⟨o, hLo, hOi⟩ := ha.get (i := k) hk
          have E1 := Lib.hid (show d.writeE (k : Int) t = if (d.put k t).gone then 2 else 0 by unfold Dk.writeE; rw [hE0, if_pos rfl]; rfl)
          have E2 := Lib.hid (show d.writeS (k : Int) t = if (d.put k t).gone then (d.put k t).tick.die (d.put k t).tick.ch else (d.put k t).tick by unfold Dk.writeS; rw [hE0, if_pos rfl, tick_ch]; rfl)
          rw [E1.out, E2.out]
          obtain ⟨i0, hi0, hz0, hz1, hz2⟩ := info3 Try.info129
          have hLl : L.length = d.n := ha.1
          have hf1 : Fr [] w (w.alloc (.cells #[] 129)) := (Fr.refl [] w).alloc _
          have HN := Lib.hid ((hl.fr hf1 (NoO.nil _)).news)
          have c0a := hf1.cell_some c0 (by simp)
          have hm0 := World.ownsRow_made (base := w.heap.size) (e := 129) (size := 3) w #[] 0 (by simp) (by simp [maxLen]) (by simp)
          have Hm0 := Lib.hid hm0
          have HE := Lib.hid (fun W v' (ho : W.ownsRow w.heap.size 129 3 v' d.n (ocs L)) (hf : Fr [] w W) =>
            (show ∃ g cap', v' = .slice (some ⟨g, 0, none⟩) d.n cap' ∧ W.cell? ⟨g, k * 3 + 1, none⟩ = some (.string o.wr) ∧ W.cell? ⟨g, k * 3 + 2, none⟩ = some (.bool o.un) ∧ (∀ j, W.frozen? ⟨g, j, none⟩ = false) ∧ g ≠ q ∧ W.cell? ⟨q, 0, none⟩ = some (.slice (some A0) d.n cap0) ∧ W.frozen? ⟨q, 0, none⟩ = false ∧ W.cell? ⟨q, 3, none⟩ = some (.bool false) ∧
              RTurn q w (d.put k t) (((W.setCell ⟨g, k * 3 + 1, none⟩ (.string t)).setCell ⟨g, k * 3 + 2, none⟩ (.bool true)).setCell ⟨q, 0, none⟩ (.slice (some ⟨g, 0, none⟩) d.n cap')) from by
              have hne : L ≠ [] := by
                intro hh
                rw [hh] at hLl
                simp at hLl
                omega
              have ho' : OOwn w.heap.size W v' L := by unfold OOwn; rw [hLl]; exact ho
              obtain ⟨g, cap', rfl, hg, hc1, hc2, hB⟩ := ho'.ob hne
              rw [hLl] at hc1 ⊢
              have hq := hb.lt
              have hgq : g ≠ q := by omega
              have hbW := hb.fr hf (by simp)
              obtain ⟨x0, x1, x2⟩ := hB.cells hLo
              have hB1 := hB.set hLo (o' := ⟨o.sf, t, o.un⟩) 1 (.string t) (by omega) rfl (fun j hj => by
                cases j with
                | zero => rfl
                | succ j => cases j with
                  | zero => exact absurd rfl hj
                  | succ j => rfl)
              have hkL : k < L.length := by omega
              have hLo1 : (L.set k ⟨o.sf, t, o.un⟩)[k]? = some ⟨o.sf, t, o.un⟩ := by rw [List.getElem?_set, if_pos rfl, if_pos hkL]
              have hB2 := hB1.set hLo1 (o' := ⟨o.sf, t, true⟩) 2 (.bool true) (by omega) rfl (fun j hj => by
                cases j with
                | zero => rfl
                | succ j => cases j with
                  | zero => rfl
                  | succ j => cases j with
                    | zero => exact absurd rfl hj
                    | succ j => rfl)
              rw [List.set_set] at hB2
              refine ⟨g, cap', rfl, x1, x2, fun j => hB.frozen j, hgq, by rw [hbW.cell]; rfl, hbW.frozen 0, by rw [hbW.cell, ← hd]; rfl, ?_⟩
              have hfW : Fr [q] w (((W.setCell ⟨g, k * 3 + 1, none⟩ (.string t)).setCell ⟨g, k * 3 + 2, none⟩ (.bool true)).setCell ⟨q, 0, none⟩ (.slice (some ⟨g, 0, none⟩) d.n cap')) := (((hf.mono (fun j hj => by cases hj)).setCell (.inr hg) _).setCell (.inr hg) _).setCell (.inl (by simp)) _
              have hb2 : Blk ((W.setCell ⟨g, k * 3 + 1, none⟩ (.string t)).setCell ⟨g, k * 3 + 2, none⟩ (.bool true)) q 127 _ := hbW.fr (S := [g]) (((Fr.refl [g] W).setCell (.inl (by simp)) _).setCell (.inl (by simp)) _) (by simp; omega)
              have hb3 := hb2.set_ 0 (.slice (some ⟨g, 0, none⟩) d.n cap')
              have hB3 := hB2.fr (S := [q]) ((Fr.refl [q] _).setCell (p := ⟨q, 0, none⟩) (.inl (by simp)) (.slice (some ⟨g, 0, none⟩) d.n cap')) (by simp; omega)
              refine ⟨⟨h.ok.put hk ht, _, cv, L.set k ⟨o.sf, t, true⟩, hb3, ?_, ha.putw hLo t, hc.fr hfW ?_⟩, hfW⟩
              · have := hB3.os (cap := cap') (by rw [List.length_set]; omega) hc2
                rw [List.length_set, hLl] at this
                exact this
              · exact h.noq.2))
          have hA0 := hA
          clear h hb hl ha hc hA hd hLo hOi hm0 hf1 hE0 E1 E2
          have hbound : (0 + d.n) * 40 ≤ 140737488355328 := by omega
          have hLn := Lib.hid (show (ocs L).length = d.n * 3 by rw [ocs_len, hLl])
          have hone := Lib.hid (ocs_one L)
          clear hLl
          generalize hXs : ocs L = XS at *
          clear hXs
          have hk' : (k : Int) < (N : Int) := by omega
          have hk0 : (0 : Int) ≤ (k : Int) := by omega
          generalize hdp : d.put k t = dp at *
          clear hdp
          rw [hN] at c0 c0a hk hbound hLn HE hn1 hn2 h2
          clear hN h3
          have ht' : (t.size : Int) = 128 := by omega
          go_enter Try.func95, Try.ntmps95
          have hm1 : 0 + N ≤ maxLen := by simp only [maxLen]; omega
          have Hsz : w.heap.size ≤ (w.alloc (.cells #[] 129)).heap.size := by simp
          obtain ⟨ab, ao, asp⟩ := A0
          simp only at hA0
          subst hA0
          go_wp2_with (first
            | (at_builtin; go_must (refine wpList_append_own _ rfl (.tmp 27) (.tmp 31) 125 rfl w.heap.size 129 i0 (.agg #[.string ⟨#[]⟩, .string ⟨#[]⟩, .bool false]) 3 40 Try.underlying125 hi0 hz0 hz1 hz2 rfl (Nat.succ_pos 2) (.slice (some ⟨w.heap.size, 0, none⟩) 0 0) 0 [] rfl Hm0.out ⟨ab, ao, none⟩ N cap0 XS rfl hLn.out HN.out hone.out hm1 hbound Hsz ?_; intro v3 w3 hown3 hg3 hnn3; simp only [List.nil_append, Nat.zero_add] at hown3; have hf3 := ((Fr.refl [] w).alloc (.cells #[] 129)).own Hm0.out hg3; obtain ⟨g, cp, rfl, x1, x2, fz, hgq, d0, df, d3, hT⟩ := HE.out _ _ hown3 hf3; have HT := Lib.hid hT; have f1 := fz (k * 3 + 1); have f2 := fz (k * 3 + 2); clear hT fz hf3 hown3 hg3 hnn3))
            | (go_at_call 108; refine HD.out.mono ?_; rintro e w5 ⟨rfl, ht5⟩)
            | (go_at_call 112; refine (rGoes_any q dp _ HT.out.1).mono ?_; rintro e w4 ⟨rfl, ht4⟩; obtain ⟨cA, ccp, c2, hzz⟩ := ht4.1.chs; have HD := Lib.hid (rDie_any q dp.tick cA dp.tick.ch.length ccp dp.tick.ch w4 ht4.1 hzz); have HT4 := Lib.hid (HT.out.trans ht4); clear ht4 hzz))
          all_goals (go_ret; first | exact ⟨rfl, HT4.out.trans ht5⟩ | exact ⟨rfl, HT4.out⟩)
end Go.Proofs.Ythmnloapjdalpaa
