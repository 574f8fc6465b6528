/- A space: Clone, Memory. -/
import Derived.Test.YtonongaakieciaaS3
namespace Go.Proofs.Ytonongaakieciaa
open Go.RowKit
set_option linter.unusedVariables false
set_option linter.unusedSimpArgs false
set_option maxRecDepth 100000
theorem Try.info62 : (Try.prog.info? 62).map (fun i => (i.zero, i.size, i.bytes)) = some (some (.slice none 0 0), 1, 24) := by kernel_rfl
/-- A row of tables. -/
def RowT (w : World) (g : Nat) (tb : List (List Pg)) : Prop := ∃ cs, Blk w g 62 cs ∧ ∀ (i : Nat) (t : List Pg), tb[i]? = some t → ∃ v, cs[i]? = some v ∧ TbT w v t
theorem RowT.fr {w w' : World} {g : Nat} {tb : List (List Pg)} (h : RowT w g tb) (hf : Fr [] w w') : RowT w' g tb := by
  obtain ⟨cs, hb, hr⟩ := h
  refine ⟨cs, hb.fr hf (by simp), fun i t hi => ?_⟩
  obtain ⟨v, e1, e2⟩ := hr i t hi
  exact ⟨v, e1, e2.fr hf (NoT.nil _ _)⟩
theorem SpAt.mk' {w : World} {s p F g cap : Nat} {x : Sp} (hb : Blk w s 114 #[ptr p, .slice (some ⟨g, 0, none⟩) x.tb.length cap]) (h1 : x.tb.length ≤ cap) (h2 : cap ≤ maxLen) (hm : MemAt w p F x.st) (hr : RowT w g x.tb) (n1 : 1 ≤ x.tb.length) (n2 : x.tb.length ≤ 8) (n3 : ∀ (i : Nat) (t : List Pg), x.tb[i]? = some t → t.length ≤ 16) : SpAt w s p F g x := ⟨⟨cap, hb, h1, h2⟩, hm, hr, n1, n2, n3⟩
def CloneRP (w : World) (tb : List (List Pg)) (e : Ending) (w' : World) : Prop := ∃ g cap, e = .returned (.slice (some ⟨g, 0, none⟩) tb.length cap) ∧ RowT w' g tb ∧ tb.length ≤ cap ∧ cap ≤ maxLen ∧ Fr [] w w' ∧ w.heap.size ≤ g
theorem cloneR_any (tb : List (List Pg)) (g c : Nat) (w : World) (h : RowT w g tb) (h1 : 1 ≤ tb.length) (h8 : tb.length ≤ 8) : Calls Try.prog 68 #[.slice (some ⟨g, 0, none⟩) tb.length c] w (CloneRP w tb) := by
  obtain ⟨i0, hi0, hz0, hz1, hz2⟩ := info3 Try.info62
  obtain ⟨cs, hb, hr⟩ := h
  have hcs : ∀ i, i < tb.length → ∃ A n c, cs[i]? = some (.slice A n c) := fun i hi => by
    obtain ⟨v, e1, A, c, rfl, -⟩ := hr i _ (List.getElem?_eq_getElem hi)
    exact ⟨_, _, _, e1⟩
  have hsz : tb.length ≤ cs.size := by
    obtain ⟨A, n, c, e⟩ := hcs (tb.length - 1) (by omega)
    have := (Array.getElem?_eq_some_iff.1 e).1
    omega
  obtain ⟨vs, hvs⟩ : ∃ vs, cs.toList.take tb.length = vs := ⟨_, rfl⟩
  have hvl : vs.length = tb.length := by rw [← hvs, List.length_take]; have : cs.toList.length = cs.size := rfl; omega
  have hva : ∀ i, i < tb.length → vs[i]? = cs[i]? := fun i hi => by
    rw [← hvs, List.getElem?_take, if_pos hi, Array.getElem?_toList]
  have hv1 : ∀ u ∈ vs, u.oneCell' = true := fun u hu => by
    obtain ⟨i, hi⟩ := List.getElem?_of_mem hu
    have hil := (List.getElem?_eq_some_iff.1 hi).1
    obtain ⟨A, n, c, e⟩ := hcs i (by omega)
    rw [hva i (by omega), e] at hi
    injection hi with hi
    rw [← hi]
    rfl
  have hf0 : Fr [] w (w.alloc (.cells #[] 62)) := (Fr.refl [] w).alloc _
  have hnil := fun w => Lib.run_eql_slice_nil (P := Try.prog) w 112 62 (some ⟨g, 0, none⟩) tb.length c 0 0 Try.underlying112
  have Hm0 := Lib.hid (World.ownsRow_made (base := w.heap.size) (e := 62) (size := 1) w #[] 0 (Nat.le_refl _) (by simp [maxLen]) (by simp))
  have Hc : Hid (∀ (j : Nat) (u : Value), vs[j]? = some u → (w.alloc (.cells #[] 62)).cell? ((⟨g, 0, none⟩ : Addr).add j) = some u) := Lib.hid fun j u hu => by
    have hj := (List.getElem?_eq_some_iff.1 hu).1
    rw [hva j (by omega)] at hu
    rw [addr_add, Nat.zero_add]
    exact hf0.cell_some (by rw [hb.cell]; exact hu) (by simp)
  have Hf0 := Lib.hid hf0
  have Hl := Lib.hid (show vs.length = tb.length * 1 by omega)
  have Ho := Lib.hid hv1
  have HE := Lib.hid (fun (W : World) (v : Value) (ho : W.ownsRow w.heap.size 62 1 v tb.length vs) (hf : Fr [] w W) => (show ∃ g' cap, v = .slice (some ⟨g', 0, none⟩) tb.length cap ∧ w.heap.size ≤ g' ∧ tb.length ≤ cap ∧ cap ≤ maxLen ∧ RowT W g' tb from by
    have hv : v ≠ .slice none 0 0 := by
      intro hv
      rcases ho.2 with ⟨q1, q2⟩ | ⟨g, cap, cur, q1, -⟩
      · omega
      · rw [hv] at q1
        cases q1
    obtain ⟨g', cap, cs', rfl, q1, q2, q3, q4, q5⟩ := own_some ho hv
    refine ⟨g', cap, rfl, q1, q2, q3, cs', q4, fun i t hi => ?_⟩
    have hil := (List.getElem?_eq_some_iff.1 hi).1
    obtain ⟨v, e1, e2⟩ := hr i t hi
    exact ⟨v, q5 i v (by rw [hva i hil]; exact e1), e2.fr hf (NoT.nil _ _)⟩))
  have hm1 : 0 + tb.length ≤ maxLen := by simp only [maxLen]; omega
  have hm2 : (0 + tb.length) * 24 ≤ 140737488355328 := by omega
  unfold CloneRP
  clear hb hr hcs hsz hvs hvl hva hv1 hf0
  go_enter Try.func68, Try.ntmps68
  go_wp2_with (at_builtin; go_must (refine wpList_append_own _ rfl (.tmp 5) (.tmp 6) 112 rfl w.heap.size 62 i0 (.slice none 0 0) 1 24 Try.underlying112 hi0 hz0 hz1 hz2 rfl (Nat.succ_pos 0) _ 0 [] rfl Hm0.out ⟨g, 0, none⟩ tb.length c vs rfl Hl.out Hc.out Ho.out hm1 hm2 (by simp) ?_; intro v1 w1 hown1 hg1 hnn; simp only [List.nil_append, Nat.zero_add] at hown1; have hf1 := Hf0.out.own Hm0.out hg1; obtain ⟨g', cap, rfl, k1, k2, k3, k4⟩ := HE.out _ _ hown1 hf1; have K4 := Lib.hid k4; have HF1 := Lib.hid hf1; clear k4 hf1 hown1 hg1 hnn))
  go_ret
  exact ⟨g', cap, rfl, K4.out, k2, k3, HF1.out, k1⟩
theorem Memory_any (s p F g : Nat) (x : Sp) (w : World) (h : SpAt w s p F g x) : Calls Try.prog 52 #[ptr s] w fun e w' => e = .returned (ptr p) ∧ w = w' := by
  obtain ⟨cap, c0, c1⟩ := h.cells
  clear h
  go_enter Try.func52, Try.ntmps52
  go_wp2
  go_ret
  exact ⟨rfl, rfl⟩
/-- What a copy is. -/
def SpNew (w : World) (x : Sp) (e : Ending) (w' : World) : Prop := ∃ s p F g, e = .returned (ptr s) ∧ SpAt w' s p F g x ∧ Fr [] w w' ∧ w.heap.size ≤ s ∧ w.heap.size ≤ p ∧ w.heap.size ≤ F ∧ w.heap.size ≤ g
theorem SClone_any (s p F g : Nat) (x : Sp) (w : World) (h : SpAt w s p F g x) : Calls Try.prog 25 #[ptr s] w (SpNew w x) := by
  obtain ⟨cap, c0, c1⟩ := h.cells
  have hrow : RowT w g x.tb := h.row
  have HM := Lib.hid (fun W (hf : Fr [] w W) => Clone_any p F x.st W (h.to hf).mem)
  have HR := Lib.hid (fun W (hf : Fr [] w W) => cloneR_any x.tb g cap W (hrow.fr hf) h.n1 h.n2)
  have HK := Lib.hid (fun W (hf : Fr [] w W) => (show W.cell? ⟨s, 0, none⟩ = some (ptr p) ∧ W.cell? ⟨s, 1, none⟩ = some (.slice (some ⟨g, 0, none⟩) x.tb.length cap) from ⟨hf.cell_some c0 (by simp), hf.cell_some c1 (by simp)⟩))
  have HN := Lib.hid (And.intro h.n1 (And.intro h.n2 h.n3))
  have hf := (Fr.refl [] w).drew
  have k0 := HK.out _ hf
  clear h hrow
  go_enter Try.func25, Try.ntmps25
  go_wp2_with fail
  go_region_held3 (fun W => W.cell? ⟨s, 0, none⟩ = some (ptr p) ∧ W.cell? ⟨s, 1, none⟩ = some (.slice (some ⟨g, 0, none⟩) x.tb.length cap)) (first | exact kk | exact k0 | exact kn) (first
    | (go_at_call 67; refine (HM.out _ hf).mono ?_; rintro e w2 ⟨p', F', rfl, hm2, hf2, b1, b2⟩; have hz2 := hf.size; have hf := hf.trans hf2; have kk := HK.out _ hf; have HMc := Lib.hid hm2; clear hm2 hf2)
    | (go_at_call 68; refine (HR.out _ hf).mono ?_; rintro e w3 ⟨g', cap', rfl, hr3, q1, q2, hf3, b3⟩; have hz3 := hf.size; have hf := hf.trans hf3; have kk := HK.out _ hf; have HMc := Lib.hid (HMc.out.to hf3 (by simp) (by simp)); have HRc := Lib.hid hr3; have kn := HK.out _ (hf.alloc (.cells #[ptr p', .slice (some ⟨g', 0, none⟩) x.tb.length cap'] 114)); clear hr3 hf3))
  go_wp2_with fail
  go_ret
  have hfa : Fr [] w3 (w3.alloc (.cells #[ptr p', .slice (some ⟨g', 0, none⟩) x.tb.length cap'] 114)) := (Fr.refl [] w3).alloc _
  exact ⟨w3.heap.size, p', F', g', rfl, SpAt.mk' (Blk.new w3 114 _) q1 q2 (HMc.out.to hfa (by simp) (by simp)) (HRc.out.fr hfa) HN.out.1 HN.out.2.1 HN.out.2.2, hf.trans hfa, hf.size, by omega, by omega, by omega⟩
end Go.Proofs.Ytonongaakieciaa
