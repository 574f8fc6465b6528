/- Another console in the same state. -/
import Derived.Test.YtkjahokffpihmaaDoorC15
import Derived.Deep.AppendLies
namespace Go.Proofs.YtkjahokffpihmaaDoor
open Go.RowKit
set_option linter.unusedVariables false
set_option linter.unusedSimpArgs false
set_option maxRecDepth 100000
set_option maxHeartbeats 1000000 in
/-- A row of strings, copied: slices.Clone. -/
theorem sclone_any (w : World) (k cap : Nat) (l : List ByteArray) (hk : KeysAt w k l) (h1 : 1 ≤ l.length) (h8 : l.length ≤ 8) : Calls Tryd.prog 46 #[.slice (some ⟨k, 0, none⟩) l.length cap] w (RowP w l) := by
  obtain ⟨i0, hi0, hz0, hz1, hz2⟩ := info3 Tryd.info9
  have hf0 : Fr [] w (w.alloc (.cells #[] 9)) := (Fr.refl [] w).alloc _
  have Hm0 := Lib.hid (World.ownsRow_made (base := w.heap.size) (e := 9) (size := 1) w #[] 0 (Nat.le_refl _) (by simp [maxLen]) (by simp))
  have Hf0 := Lib.hid hf0
  obtain ⟨vs, hvs⟩ : ∃ vs : List Value, l.map (fun s => Value.string s) = vs := ⟨_, rfl⟩
  have hvl : vs.length = l.length := by rw [← hvs]; simp
  have Hc : Hid (∀ (j : Nat) (u : Value), vs[j]? = some u → (w.alloc (.cells #[] 9)).cell? ((⟨k, 0, none⟩ : Addr).add j) = some u) := Lib.hid fun j u hu => by
    rw [← hvs, List.getElem?_map] at hu
    cases hj : l[j]? with
    | none => rw [hj] at hu; cases hu
    | some s =>
      rw [hj] at hu
      simp at hu
      rw [addr_add, Nat.zero_add, ← hu]
      exact hf0.cell_some (hk.at_ hj).1 (by simp)
  have Hl := Lib.hid (show vs.length = l.length * 1 by omega)
  have Ho : Hid (∀ u ∈ vs, u.oneCell' = true) := Lib.hid fun u hu => by
    rw [← hvs] at hu
    obtain ⟨s, -, rfl⟩ := List.mem_map.1 hu
    rfl
  have HE := Lib.hid (fun (W : World) (v : Value) (ho : W.ownsRow w.heap.size 9 1 v l.length vs) => (show ∃ g cp, v = .slice (some ⟨g, 0, none⟩) l.length cp ∧ l.length ≤ cp ∧ cp ≤ maxLen ∧ KeysAt W g l ∧ w.heap.size ≤ g from by
    have hv : v ≠ .slice none 0 0 := by
      intro hv
      rcases ho.2 with ⟨q1, q2⟩ | ⟨g, cap, cur, q1, -⟩
      · omega
      · rw [hv] at q1
        cases q1
    obtain ⟨g', cp, cs', rfl, q1, q2, q3, q4, q5⟩ := own_some ho hv
    refine ⟨g', cp, rfl, q2, q3, ⟨cs', q4, fun i s hi => q5 i _ ?_⟩, q1⟩
    rw [← hvs, List.getElem?_map, hi]
    rfl))
  have hm0 : 0 < l.length := h1
  have hm1 : 0 + l.length ≤ maxLen := by simp only [maxLen]; omega
  have hm2 : (0 + l.length) * 16 ≤ 140737488355328 := by omega
  have hnil : (binOp .eql 36 (.slice (some ⟨k, 0, none⟩) l.length cap) (.slice none 0 0)).run Tryd.prog w = .ok (.bool false) w := by kernel_rfl
  unfold RowP
  clear hf0 hvs hvl hk
  generalize l.length = n at *
  go_enter Tryd.func46, Tryd.ntmps46
  go_wp2_with (at_builtin; go_must (refine wpList_append_own _ rfl (.tmp 5) (.tmp 6) 36 rfl w.heap.size 9 i0 (.string ⟨#[]⟩) 1 16 Tryd.underlying36 hi0 hz0 hz1 hz2 rfl (Nat.succ_pos 0) _ 0 [] rfl Hm0.out ⟨k, 0, none⟩ n cap vs rfl Hl.out Hc.out Ho.out hm1 hm2 (by simp) ?_; intro v1 w1 hown1 hg1 hnn; simp only [List.nil_append, Nat.zero_add] at hown1; have hf1 := Hf0.out.own Hm0.out hg1; obtain ⟨g', cap', rfl, k1, k2, k3, k4⟩ := HE.out _ _ hown1; have K3 := Lib.hid k3; have HF1 := Lib.hid hf1; clear k3 hf1 hown1 hg1 hnn))
  go_ret
  exact ⟨g', cap', rfl, k1, k2, K3.out, HF1.out, k4⟩
/-- What a clone's call hands back. -/
def CloneP (w : World) (x : Con) (e : Ending) (w' : World) : Prop := ∃ c k, e = .returned (ptr c) ∧ ConAt w' c k x ∧ Fr [] w w' ∧ w.heap.size ≤ c ∧ w.heap.size ≤ k
theorem size70 (H : Array Value) (s : Sc) : (Tryd.prog.info? 70).map (·.size) = some (scells H s).size := by rw [scells_size]; kernel_rfl
set_option maxHeartbeats 1000000 in
theorem clone_any (w : World) (c k : Nat) (x : Con) (h : ConAt w c k x) : Calls Tryd.prog 29 #[ptr c] w (CloneP w x) := by
  obtain ⟨⟨cap, hb, h1, h2⟩, hk, ok⟩ := h
  have c5 := (conC hb).c5
  have hsz := size70 (hd x (.slice (some ⟨k, 0, none⟩) x.lv cap)) x.sc
  obtain ⟨hz, -⟩ := zero_of_info info70
  have hz70 : (scells hd0 (zs 0)).size = 152 := scells_size _ _
  have hzC := scells_size (hd x (.slice (some ⟨k, 0, none⟩) x.lv cap)) x.sc
  have hoC : (scells (hd x (.slice (some ⟨k, 0, none⟩) x.lv cap)) x.sc).all (·.oneCell') = true := by
    have hH := hd_Hd x (some ⟨k, 0, none⟩) x.lv cap
    refine Array.all_eq_true_iff_forall_mem.2 fun v hv => ?_
    obtain ⟨i, hi⟩ := Array.getElem?_of_mem hv
    exact scells_one hH.one hH.n _ i v hi
  have hcl := hb.lt
  have hkl := hk.lt
  have hn := ok.n
  have HX : Hid (∀ W, Fr [] w W → Blk W w.heap.size 70 (scells (hd x (.slice (some ⟨k, 0, none⟩) x.lv cap)) x.sc) → ∃ w9, W = w9 ∧ Calls Tryd.prog 46 #[.slice (some ⟨k, 0, none⟩) x.lv cap] W (fun e w' => ∃ g cp, e = .returned (.slice (some ⟨g, 0, none⟩) x.lv cp) ∧ w'.cell? ⟨w.heap.size, 5, none⟩ = some (.slice (some ⟨k, 0, none⟩) x.lv cap) ∧ w'.frozen? ⟨w.heap.size, 5, none⟩ = false ∧
      Hid (ConAt (w'.setCell ⟨w.heap.size, 5, none⟩ (.slice (some ⟨g, 0, none⟩) x.lv cp)) w.heap.size g x ∧ Fr [] w (w'.setCell ⟨w.heap.size, 5, none⟩ (.slice (some ⟨g, 0, none⟩) x.lv cp)) ∧ w.heap.size ≤ g))) := Lib.hid fun W hf hB => by
    refine ⟨W, rfl, ?_⟩
    have := sclone_any W k cap x.ks (hk.fr hf (by simp)) (by rw [hn]; exact ok.l1) (by rw [hn]; exact ok.l8)
    rw [hn] at this
    refine this.mono fun e w' ⟨g, cp, he, q1, q2, q3, q4, q5⟩ => ?_
    rw [hn] at he q1
    have hB' := hB.fr q4 (by simp)
    have hgc : g ≠ w.heap.size := by
      have := hB.lt
      omega
    refine ⟨g, cp, he, (conC hB').c5, hB'.frozen 5, Lib.hid ⟨⟨⟨cp, sethead (s := x.sc) hB' rfl (i := 5) (by omega) (.slice (some ⟨g, 0, none⟩) x.lv cp), q1, q2⟩, q3.fr ((Fr.refl [w.heap.size] w').setCell (by simp) _) (by simpa using hgc), ok⟩, (hf.trans q4).setCell (.inr (by simp)) _, ?_⟩⟩
    have := hf.size
    omega
  unfold CloneP
  clear h1 h2 hk ok hn
  generalize scells (hd x (.slice (some ⟨k, 0, none⟩) x.lv cap)) x.sc = C at *
  generalize scells hd0 (zs 0) = Z at *
  generalize x.lv = N at *
  go_enter Tryd.func29, Tryd.ntmps29
  go_wp2_with (first
    | (refine wpList_load_row rfl 70 (.tmp 5) rfl c rfl 70 C (0, 0) _ hb Tryd.underlying70 rfl hsz ?_)
    | (refine wpList_store_blk rfl 70 (.tmp 3) (.tmp 6) rfl rfl w.heap.size 0 C rfl rfl 70 Z (Blk.new w 70 Z) (by rw [hz70, hzC]; simp) hsz hoC ?_; intro w1 b1 f1; rw [lay_full _ _ (by rw [hzC, hz70])] at b1; have hf1 : Fr [] w w1 := ((Fr.refl [] w).alloc _).step f1 (by simp); have k5 := hf1.cell_some c5 (by simp); obtain ⟨w9, rfl, HS⟩ := HX.out w1 hf1 b1; have HS := Lib.hid HS)
    | (go_at_call 46; refine HS.out.mono ?_; rintro e w2 ⟨g, cp, rfl, m5, mf, HM⟩)
    | fail)
  go_ret
  exact ⟨w.heap.size, g, rfl, HM.out.1, HM.out.2.1, Nat.le_refl _, HM.out.2.2⟩
end Go.Proofs.YtkjahokffpihmaaDoor
