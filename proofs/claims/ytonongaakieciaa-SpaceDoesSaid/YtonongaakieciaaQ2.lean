/- The reference's memory and space: Copy. -/
import Derived.Test.YtonongaakieciaaQ1
import Derived.Deep.RegionLaw
namespace Go.Proofs.Ytonongaakieciaa
open Go.RowKit
set_option linter.unusedVariables false
set_option linter.unusedSimpArgs false
set_option maxRecDepth 100000
def RMNew (w : World) (st : St) (e : Ending) (w' : World) : Prop := ∃ q G, e = .returned (ptr q) ∧ RMem w' q G st ∧ Fr [] w w' ∧ w.heap.size ≤ q ∧ w.heap.size ≤ G
theorem rMCopy_any (q G : Nat) (st : St) (w : World) (h : RMem w q G st) : Calls Try.prog 69 #[ptr q] w (RMNew w st) := by
  obtain ⟨i0, hi0, hz0, hz1, hz2⟩ := info3 Try.info9
  obtain ⟨⟨⟨cap, hb, hc1, hc2⟩, n1, n2⟩, cs, hG, hfr⟩ := h
  have c0 := hb.cell 0
  simp at c0
  obtain ⟨n, hn⟩ : ∃ n, st.n = n := ⟨_, rfl⟩
  rw [hn] at c0 hb hc1 n1 n2 hfr
  obtain ⟨vs, hvs⟩ : ∃ vs : List Value, (List.range n).map (fun i => Value.string (frS st i)) = vs := ⟨_, rfl⟩
  have hvl : vs.length = n := by rw [← hvs]; simp
  have hva : ∀ i, i < n → vs[i]? = some (.string (frS st i)) := fun i hi => by rw [← hvs]; simp [hi]
  have hv1 : ∀ u ∈ vs, u.oneCell' = true := fun u hu => by
    rw [← hvs] at hu
    obtain ⟨i, -, rfl⟩ := List.mem_map.1 hu
    rfl
  have hf0 : Fr [] w (w.alloc (.cells #[] 9)) := (Fr.refl [] w).alloc _
  have Hm0 := Lib.hid (World.ownsRow_made (base := w.heap.size) (e := 9) (size := 1) w #[] 0 (Nat.le_refl _) (by simp [maxLen]) (by simp))
  have Hc : Hid (∀ (j : Nat) (u : Value), vs[j]? = some u → (w.alloc (.cells #[] 9)).cell? ((⟨G, 0, none⟩ : Addr).add j) = some u) := Lib.hid fun j u hu => by
    have hj := (List.getElem?_eq_some_iff.1 hu).1
    rw [hva j (by omega)] at hu
    rw [addr_add, Nat.zero_add]
    exact hf0.cell_some (by rw [hG.cell, hfr j (by omega)]; exact hu) (by simp)
  have c0' := hf0.cell_some c0 (by simp)
  have Hf0 := Lib.hid hf0
  have Hl := Lib.hid (show vs.length = n * 1 by omega)
  have Ho := Lib.hid hv1
  have HE := Lib.hid (fun (W : World) (v : Value) (ho : W.ownsRow w.heap.size 9 1 v n vs) (hf : Fr [] w W) => (show ∃ g' cap, v = .slice (some ⟨g', 0, none⟩) n cap ∧ w.heap.size ≤ g' ∧ RMem (W.alloc (.cells #[.slice (some ⟨g', 0, none⟩) n cap] 126)) W.heap.size g' st from by
    have hv : v ≠ .slice none 0 0 := by
      intro hv
      rcases ho.2 with ⟨q1, q2⟩ | ⟨g, cap, cur, q1, -⟩
      · omega
      · rw [hv] at q1
        cases q1
    obtain ⟨g', cap, cs', rfl, q1, q2, q3, q4, q5⟩ := own_some ho hv
    have hfa : Fr [] W (W.alloc (.cells #[.slice (some ⟨g', 0, none⟩) n cap] 126)) := (Fr.refl [] W).alloc _
    refine ⟨g', cap, rfl, q1, ⟨⟨cap, by rw [hn]; exact Blk.new W 126 _, by omega, q3⟩, by omega, by omega⟩, cs', q4.fr hfa (by simp), fun i hi => ?_⟩
    exact q5 i _ (hva i (by omega))))
  have hm1 : 0 + n ≤ maxLen := by simp only [maxLen]; omega
  have hm2 : (0 + n) * 16 ≤ 140737488355328 := by omega
  unfold RMNew
  clear hb hG hfr hvs hvl hva hv1 hf0
  go_enter Try.func69, Try.ntmps69
  go_wp2_with (at_builtin; go_must (refine wpList_append_own _ rfl (.tmp 3) (.tmp 7) 70 rfl w.heap.size 9 i0 (.string ⟨#[]⟩) 1 16 Try.underlying70 hi0 hz0 hz1 hz2 rfl (Nat.succ_pos 0) _ 0 [] rfl Hm0.out ⟨G, 0, none⟩ n cap vs rfl Hl.out Hc.out Ho.out hm1 hm2 (by simp) ?_; intro v1 w1 hown1 hg1 hnn; simp only [List.nil_append, Nat.zero_add] at hown1; have hf1 := Hf0.out.own Hm0.out hg1; obtain ⟨g', cap', rfl, k1, k4⟩ := HE.out _ _ hown1 hf1; have K4 := Lib.hid k4; have HF1 := Lib.hid hf1; clear k4 hf1 hown1 hg1 hnn))
  go_ret
  exact ⟨w1.heap.size, g', rfl, K4.out, HF1.out.alloc _, HF1.out.size, k1⟩
def RSpNew (w : World) (x : Sp) (e : Ending) (w' : World) : Prop := ∃ y q G g, e = .returned (ptr y) ∧ RSp w' y q G g x ∧ Fr [] w w' ∧ w.heap.size ≤ y ∧ w.heap.size ≤ q ∧ w.heap.size ≤ G ∧ w.heap.size ≤ g
set_option maxHeartbeats 4000000 in
theorem rSCopy_any (y q G g : Nat) (x : Sp) (w : World) (h : RSp w y q G g x) : Calls Try.prog 26 #[ptr y] w (RSpNew w x) := by
  obtain ⟨i0, hi0, hz0, hz1, hz2⟩ := info3 Try.info62
  obtain ⟨cap, c0, c1⟩ := h.cells
  have HM := Lib.hid (fun W (hf : Fr [] w W) => rMCopy_any q G x.st W (h.to hf).mem)
  have HN := Lib.hid (And.intro h.n1 (And.intro h.n2 h.n3))
  have h1 := h.n1
  have h8 := h.n2
  obtain ⟨cs, hb, hr⟩ := h.row
  have hcs : ∀ i, i < x.tb.length → ∃ A n c, cs[i]? = some (.slice A n c) := fun i hi => by
    obtain ⟨v, e1, A, c, rfl, -⟩ := hr i _ (List.getElem?_eq_getElem hi)
    exact ⟨_, _, _, e1⟩
  have hsz : x.tb.length ≤ cs.size := by
    obtain ⟨A, n, c, e⟩ := hcs (x.tb.length - 1) (by omega)
    have := (Array.getElem?_eq_some_iff.1 e).1
    omega
  obtain ⟨vs, hvs⟩ : ∃ vs, cs.toList.take x.tb.length = vs := ⟨_, rfl⟩
  have hvl : vs.length = x.tb.length := by rw [← hvs, List.length_take]; have : cs.toList.length = cs.size := rfl; omega
  have hva : ∀ i, i < x.tb.length → vs[i]? = cs[i]? := fun i hi => by
    rw [← hvs, List.getElem?_take, if_pos hi, Array.getElem?_toList]
  have hv1 : ∀ u ∈ vs, u.oneCell' = true := fun u hu => by
    obtain ⟨i, hi⟩ := List.getElem?_of_mem hu
    have hil := (List.getElem?_eq_some_iff.1 hi).1
    obtain ⟨A, n, c, e⟩ := hcs i (by omega)
    rw [hva i (by omega), e] at hi
    injection hi with hi
    rw [← hi]
    rfl
  have Hc : Hid (∀ W, Fr [] w W → ∀ (j : Nat) (u : Value), vs[j]? = some u → W.cell? ((⟨g, 0, none⟩ : Addr).add j) = some u) := Lib.hid fun W hf j u hu => by
    have hj := (List.getElem?_eq_some_iff.1 hu).1
    rw [hva j (by omega)] at hu
    rw [addr_add, Nat.zero_add]
    exact hf.cell_some (by rw [hb.cell]; exact hu) (by simp)
  have Hl := Lib.hid (show vs.length = x.tb.length * 1 by omega)
  have Ho := Lib.hid hv1
  have HE := Lib.hid (fun (W : World) (v : Value) (ho : W.ownsRow w.heap.size 62 1 v x.tb.length vs) (hf : Fr [] w W) => (show ∃ g' cap, v = .slice (some ⟨g', 0, none⟩) x.tb.length cap ∧ w.heap.size ≤ g' ∧ x.tb.length ≤ cap ∧ cap ≤ maxLen ∧ RowT W g' x.tb from by
    have hv : v ≠ .slice none 0 0 := by
      intro hv
      rcases ho.2 with ⟨q1, q2⟩ | ⟨g, cap, cur, q1, -⟩
      · omega
      · rw [hv] at q1
        cases q1
    obtain ⟨g', cap, cs', rfl, q1, q2, q3, q4, q5⟩ := own_some ho hv
    refine ⟨g', cap, rfl, q1, q2, q3, cs', q4, fun i t hi => ?_⟩
    have hil := (List.getElem?_eq_some_iff.1 hi).1
    obtain ⟨v, e1, e2⟩ := hr i t hi
    exact ⟨v, q5 i v (by rw [hva i hil]; exact e1), e2.fr hf (NoT.nil _ _)⟩))
  have HK := Lib.hid (fun W (hf : Fr [] w W) => (show W.cell? ⟨y, 0, none⟩ = some (ptr q) ∧ W.cell? ⟨y, 1, none⟩ = some (.slice (some ⟨g, 0, none⟩) x.tb.length cap) from ⟨hf.cell_some c0 (by simp), hf.cell_some c1 (by simp)⟩))
  have hm0 : 0 < x.tb.length := h1
  have hm1 : 0 + x.tb.length ≤ maxLen := by simp only [maxLen]; omega
  have hm2 : (0 + x.tb.length) * 24 ≤ 140737488355328 := by omega
  have Hfw := Lib.hid (Fr.refl [] w)
  obtain ⟨ka, kb⟩ := HK.out _ (Hfw.out.alloc (.cells #[] 62))
  unfold RSpNew
  clear h hb hr hcs hsz hvs hvl hva hv1
  go_enter Try.func26, Try.ntmps26
  go_wp2_with fail
  go_region_law (first
    | (go_simp; go_at_call 69; refine (HM.out w.drew Hfw.out.drew).mono ?_; rintro e w2 ⟨q', G', rfl, hm2', hf2, b1, b2⟩
       have hfa : Fr [] w w2 := Hfw.out.drew.trans hf2
       have hfb : Fr [] w (w2.alloc (.cells #[] 62)) := hfa.alloc _
       have kk := (HK.out _ hfb).2
       have kk0 := (HK.out _ hfa).2
       have hsz2 := hfa.size
       have hq1 : w.heap.size ≤ q' := b1
       have hq2 : w.heap.size ≤ G' := b2
       have hq3 := hm2'.hd.lt
       have hq4 := hm2'.ltG
       have HMc := Lib.hid (hm2'.to ((Fr.refl [] w2).alloc (.cells #[] 62)) (by simp) (by simp)))
    | (go_simp; go_at_call 69; refine (HM.out (w.alloc (.cells #[] 62)).drew (Hfw.out.alloc _).drew).mono ?_; rintro e w2 ⟨q', G', rfl, hm2', hf2, b1, b2⟩
       have hfb : Fr [] w w2 := (Hfw.out.alloc (.cells #[] 62)).drew.trans hf2
       have hfo : Fr [] (w.alloc (.cells #[] 62)) w2 := (Fr.refl [] _).drew.trans hf2
       have kk := (HK.out _ hfb).2
       have hsz2 := hfb.size
       have hq3 : w.heap.size + 1 ≤ q' := by have h0 := b1; have h2 : (w.alloc (.cells #[] 62)).drew.heap.size = (w.alloc (.cells #[] 62)).heap.size := rfl; rw [h2, World.size_alloc] at h0; exact h0
       have hq4 : w.heap.size + 1 ≤ G' := by have h0 := b2; have h2 : (w.alloc (.cells #[] 62)).drew.heap.size = (w.alloc (.cells #[] 62)).heap.size := rfl; rw [h2, World.size_alloc] at h0; exact h0
       have hq1 : w.heap.size ≤ q' := Nat.le_of_succ_le hq3
       have hq2 : w.heap.size ≤ G' := Nat.le_of_succ_le hq4
       have HMc := Lib.hid hm2')
    | (refine step_append_lies _ rfl (.tmp 8) (.tmp 12) 112 rfl w.heap.size 62 i0 (.slice none 0 0) 1 24 Try.underlying112 hi0 hz0 hz1 hz2 rfl (Nat.succ_pos 0) (.slice (some ⟨w2.heap.size, 0, none⟩) 0 0) 0 [] (by simp [Act.eval]) (World.ownsRow_made (base := w.heap.size) (e := 62) (size := 1) w2 #[] 0 hsz2 (by simp [maxLen]) (by simp)) ⟨g, 0, none⟩ x.tb.length cap vs (by simp [Act.eval]) Hl.out (Hc.out _ hfb) Ho.out hm0 hm1 hm2 (by simp; omega) (w2.heap.size + 1) (by simp) ?_
       intro g' cc w4 ho4 hg4 hat4 hlt4
       have hf4 := hfb.own (World.ownsRow_made (base := w.heap.size) (e := 62) (size := 1) w2 #[] 0 hsz2 (by simp [maxLen]) (by simp)) hg4
       have hm4 := HMc.out.to (Fr.of_own hg4) (fun hj => by simp [Value.ownBlock] at hj; omega) (fun hj => by simp [Value.ownBlock] at hj; omega)
       rw [Nat.zero_add] at ho4
       simp only [List.nil_append] at ho4
       obtain ⟨g2, cap2, he2, k1, k2, k3, k4⟩ := HE.out _ _ ho4 hf4)
    | (refine step_append_lies _ rfl (.tmp 8) (.tmp 12) 112 rfl w.heap.size 62 i0 (.slice none 0 0) 1 24 Try.underlying112 hi0 hz0 hz1 hz2 rfl (Nat.succ_pos 0) (.slice (some ⟨w.heap.size, 0, none⟩) 0 0) 0 [] (by simp [Act.eval]) (own_fr (World.ownsRow_made (base := w.heap.size) (e := 62) (size := 1) w #[] 0 (Nat.le_refl _) (by simp [maxLen]) (by simp)) hfo (by simp)) ⟨g, 0, none⟩ x.tb.length cap vs (by simp [Act.eval]) Hl.out (Hc.out _ hfb) Ho.out hm0 hm1 hm2 hsz2 w2.heap.size rfl ?_
       intro g' cc w4 ho4 hg4 hat4 hlt4
       have hf4 := hfb.own (own_fr (World.ownsRow_made (base := w.heap.size) (e := 62) (size := 1) w #[] 0 (Nat.le_refl _) (by simp [maxLen]) (by simp)) hfo (by simp)) hg4
       have hm4 := HMc.out.to (Fr.of_own hg4) (fun hj => by simp [Value.ownBlock] at hj; omega) (fun hj => by simp [Value.ownBlock] at hj; omega)
       rw [Nat.zero_add] at ho4
       simp only [List.nil_append] at ho4
       obtain ⟨g2, cap2, he2, k1, k2, k3, k4⟩ := HE.out _ _ ho4 hf4)
    | fail)
  all_goals
    have hfe : Fr [] w4 (w4.alloc (.cells #[ptr q', .slice (some ⟨g2, 0, none⟩) x.tb.length cap2] 122)) := (Fr.refl [] w4).alloc _
    have HQ : Hid (RSp (w4.alloc (.cells #[ptr q', .slice (some ⟨g2, 0, none⟩) x.tb.length cap2] 122)) w4.heap.size q' G' g2 x ∧ Fr [] w (w4.alloc (.cells #[ptr q', .slice (some ⟨g2, 0, none⟩) x.tb.length cap2] 122)) ∧ w.heap.size ≤ w4.heap.size) := Lib.hid ⟨⟨⟨cap2, Blk.new w4 122 _, k2, k3⟩, hm4.to hfe (by simp) (by simp), k4.fr hfe, HN.out.1, HN.out.2.1, HN.out.2.2⟩, hf4.alloc _, hf4.size⟩
    clear hm4 hf4 k4 hfe ho4 hg4 hat4 hlt4 he2 kk
    go_wp2_with fail
    go_ret
    exact ⟨w4.heap.size, q', G', g2, rfl, HQ.out.1, HQ.out.2.1, HQ.out.2.2, hq1, hq2, k1⟩
end Go.Proofs.Ytonongaakieciaa
