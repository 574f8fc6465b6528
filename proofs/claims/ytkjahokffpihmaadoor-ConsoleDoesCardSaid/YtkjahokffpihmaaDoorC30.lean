/- The reference's console: secure, keep, Reset, Write, Take, Copy, New. -/
import Derived.Test.YtkjahokffpihmaaDoorC29
namespace Go.Proofs.YtkjahokffpihmaaDoor
open Go.RowKit
set_option linter.unusedVariables false
set_option linter.unusedSimpArgs false
set_option maxRecDepth 100000
/-- The reference's console in block y: its keys in block g, its rows in block r. -/
structure RAt (W : World) (y : Nat) (x : Con) (g r : Nat) : Prop where
  b : ∃ ck, x.lv ≤ ck ∧ Rw W y (.int .i64 (x.lv : Int)) (.string x.lg) (.int .i64 x.fo) (.bool x.ch) (.string x.ty) (.slice (some ⟨g, 0, none⟩) x.lv ck) r x.sc
  k : KeysAt W g x.ks
  ok : x.Ok
section
variable {W W' : World} {y g r : Nat} {x : Con}
theorem RAt.fr {S : List Nat} (h : RAt W y x g r) (hf : Fr S W W') (hy : y ∉ S) (hg : g ∉ S) (hr : r ∉ S) : RAt W' y x g r := by
  obtain ⟨⟨ck, h1, ⟨cr, hb, h2⟩, hk, ok⟩, hk2, ok2⟩ := h
  exact ⟨⟨ck, h1, ⟨cr, hb.fr hf hy, h2⟩, hk.fr hf hr, ok⟩, hk2.fr hf hg, ok2⟩
theorem RAt.to (h : RAt W y x g r) (hf : Fr [] W W') : RAt W' y x g r := h.fr hf (by simp) (by simp) (by simp)
theorem RAt.blk (h : RAt W y x g r) : ∃ cs, Blk W y 62 cs := by
  obtain ⟨⟨ck, h1, ⟨cr, hb, h2⟩, hk, ok⟩, hk2, ok2⟩ := h
  exact ⟨_, hb⟩
theorem RAt.lists (h : RAt W y x g r) : (∃ cs, Blk W g 9 cs) ∧ ∃ cs, Blk W r 9 cs := by
  obtain ⟨⟨ck, h1, ⟨cr, hb, h2⟩, ⟨c1, hk, -⟩, ok⟩, ⟨c2, hk2, -⟩, ok2⟩ := h
  exact ⟨⟨_, hk2⟩, ⟨_, hk⟩⟩
theorem RAt.lt (h : RAt W y x g r) : y < W.heap.size ∧ g < W.heap.size ∧ r < W.heap.size := by
  obtain ⟨cs, hb⟩ := h.blk
  obtain ⟨⟨c1, h1⟩, c2, h2⟩ := h.lists
  exact ⟨hb.lt, h1.lt, h2.lt⟩
theorem RAt.ne (h : RAt W y x g r) : y ≠ g ∧ y ≠ r := by
  obtain ⟨cs, hb⟩ := h.blk
  obtain ⟨⟨c1, h1⟩, c2, h2⟩ := h.lists
  exact ⟨hb.ne_ h1 (by decide), hb.ne_ h2 (by decide)⟩
end
/-- What a call on it leaves. -/
def RaP (w : World) (y g r : Nat) (x : Con) (v : Value) (e : Ending) (w' : World) : Prop := e = .returned v ∧ ∃ g' r', RAt w' y x g' r' ∧ Fr [y] w w' ∧ (g' = g ∨ w.heap.size ≤ g') ∧ (r' = r ∨ w.heap.size ≤ r')
def pwB : ByteArray := ⟨#[112, 97, 115, 115, 119, 111, 114, 100, 58]⟩
set_option maxHeartbeats 1000000 in
theorem rsecure_head (w : World) (y : Nat) (h0 h1 v2 v3 v4 h5 v6 v7 v8 : Value) (hb : Blk w y 62 #[h0, h1, v2, v3, v4, h5, v6, v7, v8]) : Calls Tryd.prog 42 #[ptr y] w (RwP w y h0 h1 (.int .i64 (-1)) (.bool false) (.string ⟨#[]⟩) h5 (ssays sclear pwS) fun r => w.heap.size ≤ r) := by
  have c2 := hb.cell 2
  have c3 := hb.cell 3
  have c4 := hb.cell 4
  simp at c2 c3 c4
  have f2 := hb.frozen 2
  have f3 := hb.frozen 3
  have f4 := hb.frozen 4
  obtain ⟨W1, hW1⟩ : ∃ W1, ((w.setCell ⟨y, 2, none⟩ (.int .i64 (-1))).setCell ⟨y, 3, none⟩ (.bool false)).setCell ⟨y, 4, none⟩ (.string ⟨#[]⟩) = W1 := ⟨_, rfl⟩
  have hb1 : Blk W1 y 62 #[h0, h1, .int .i64 (-1), .bool false, .string ⟨#[]⟩, h5, v6, v7, v8] := by rw [← hW1]; exact ((hb.set_ 2 _).set_ 3 _).set_ 4 _
  have hf1 : Fr [y] w W1 := by rw [← hW1]; exact (((Fr.refl [y] w).setCell (by simp) _).setCell (by simp) _).setCell (by simp) _
  have HC := Lib.hid (rclear_any W1 y h0 h1 (.int .i64 (-1)) (.bool false) (.string ⟨#[]⟩) h5 v6 v7 v8 hb1)
  have HF1 := Lib.hid hf1
  have HW := Lib.hid hW1
  have HS := Lib.hid hf1.size
  clear hb hb1 hf1 hW1
  unfold RwP
  go_enter Tryd.func42, Tryd.ntmps42
  go_wp2_with fail
  rw [HW.out]
  refine HC.out.mono ?_
  rintro e w2 ⟨rfl, r, hR, hf2, hr⟩
  have HD := Lib.hid (rdraw_any w2 y r _ _ _ _ _ _ _ hR pwB (by decide +kernel))
  have HF2 := Lib.hid (HF1.out.trans hf2)
  have Hr := Lib.hid (Nat.le_trans HS.out hr)
  clear hR hf2 hr
  go_wp2_with fail
  refine HD.out.mono ?_
  rintro e w3 ⟨rfl, r', hR', hf3, hr'⟩
  have HR := Lib.hid hR'
  have HF3 := Lib.hid (HF2.out.trans hf3)
  have Hr' := Lib.hid (show w.heap.size ≤ r' by have := Hr.out; have := HF2.out.size; omega)
  clear hR' hf3 hr'
  go_wp2_with fail
  go_end0
  exact ⟨rfl, r', HR.out, HF3.out, Hr'.out⟩
theorem rsecure_any (w : World) (y g r : Nat) (x : Con) (h : RAt w y x g r) : Calls Tryd.prog 42 #[ptr y] w (RaP w y g r (trust x) (.tuple #[])) := by
  obtain ⟨⟨ck, h1, ⟨cr, hb, h2⟩, hk, oks⟩, hk2, ok⟩ := h
  have hyg : y ≠ g := by
    obtain ⟨c1, hg, -⟩ := hk2
    exact hb.ne_ hg (by decide)
  refine (rsecure_head w y _ _ _ _ _ _ _ _ _ hb).mono ?_
  rintro e w' ⟨rfl, r', hR, hf, hr⟩
  exact ⟨rfl, g, r', ⟨⟨ck, h1, hR⟩, hk2.fr hf (by simpa using Ne.symm hyg), trust_ok ok⟩, hf, .inl rfl, .inr hr⟩
theorem strs_set {l : List ByteArray} {cs : Array Value} {N : Nat} {X : ByteArray} (h : ∀ (j : Nat) (u : Value), (strL l)[j]? = some u → cs[j]? = some u) (hN : N < l.length) : ∀ (i : Nat) (s : ByteArray), (l.set N X)[i]? = some s → (cs.setIfInBounds N (.string X))[i]? = some (.string s) :=
  rows_set (fun i s hi => h i _ (by unfold strL; rw [List.getElem?_map, hi]; rfl)) hN
set_option maxHeartbeats 2000000 in
theorem rkeep_any (w : World) (y g r : Nat) (x : Con) (h : RAt w y x g r) (n : Nat) (hn : n < x.lv) (s : ByteArray) (hs : s.size ≤ 16) : Calls Tryd.prog 43 #[ptr y, .int .i64 (n : Int), .string s] w (RaP w y g r { x with ks := x.ks.set n s } (.tuple #[])) := by
  have hne := h.ne
  obtain ⟨⟨ck, hck, ⟨cr, hb, hcr⟩, hkr, oks⟩, hk2, ok⟩ := h
  have hok' : ({ x with ks := x.ks.set n s } : Con).Ok := ⟨ok.l1, ok.l8, ok.g1, ok.g, ok.f0, ok.f1, ok.t, by simp only [List.length_set]; exact ok.n, fun q hq => by
    rcases List.mem_or_eq_of_mem_set hq with h1 | h1
    · exact ok.k q h1
    · rw [h1]; exact hs, ok.s⟩
  have c5 := hb.cell 5
  simp at c5
  have f5 := hb.frozen 5
  have hlt := hb.lt
  obtain ⟨i0, hi0, hz0, hz1, hz2⟩ := info3 Tryd.info9
  have l8 := ok.l8
  have HO1 := Lib.hid (own_made0 (W := w) w.heap.size (Nat.le_refl _) rfl)
  have HN1 := Lib.hid (news_strs (hk2.fr ((Fr.refl [] w).alloc (.cells #[] 9)) (by simp)).strs)
  have HL1 : Hid ((strL x.ks).length = x.lv * 1) := Lib.hid (by rw [strL_len, ok.n, Nat.mul_one])
  have HS1 := Lib.hid (strL_one x.ks)
  have HN := Lib.hid ok.n
  have mx5 : 0 + x.lv ≤ maxLen := by simp only [maxLen]; omega
  have n0 : (0 : Int) ≤ (n : Int) := by omega
  have n1 : (n : Int) < (x.lv : Int) := by omega
  have HB := Lib.hid hb
  have HKR := Lib.hid hkr
  have HOK := Lib.hid hok'
  have HCK := Lib.hid (And.intro hcr oks)
  have HLV := Lib.hid (show n < x.lv ∧ 1 ≤ x.lv from ⟨hn, ok.l1⟩)
  have hbx : (0 + x.lv) * 16 ≤ 140737488355328 := by omega
  clear hb hkr hk2 oks ok hok' hck hcr hn hs
  unfold RaP
  go_enter Tryd.func43, Tryd.ntmps43
  go_wp2_with (first
    | (at_builtin; go_must (refine wpList_append_own _ rfl (.tmp 7) (.tmp 11) 36 rfl w.heap.size 9 i0 (.string ⟨#[]⟩) 1 16 Tryd.underlying36 hi0 hz0 hz1 hz2 rfl (Nat.succ_pos 0) (.slice (some ⟨w.heap.size, 0, none⟩) 0 0) 0 [] rfl HO1.out ⟨g, 0, none⟩ x.lv ck (strL x.ks) rfl HL1.out HN1.out HS1.out mx5 hbx (by simp) ?_; intro v3 w3 ho3 hg3 hn3; rw [List.nil_append, Nat.zero_add] at ho3; obtain ⟨g3, c3, cs3, rfl, q1, q2, q3, hb3, q5⟩ := own_some ho3 (fun h => by rw [h] at hn3; have := hn3.1 rfl; cases this.1); have HF3 : Hid (Fr [w.heap.size] (w.alloc (.cells #[] 9)) w3) := Lib.hid (Fr.of_own hg3); have HB3 := Lib.hid ((HB.out.alloc (.cells #[] 9)).fr HF3.out (by simp; omega)); have HK3 := Lib.hid (And.intro q1 (And.intro q2 (And.intro hb3 q5))); have e1 := hb3.cell n; rw [q5 n (.string (x.ks[n]'(by rw [HN.out]; exact HLV.out.1))) (by unfold strL; rw [List.getElem?_map, List.getElem?_eq_getElem (by rw [HN.out]; exact HLV.out.1)]; rfl)] at e1; have e2 := hb3.frozen n; have hyg3 : y ≠ g3 := (by omega); have d5 := HB3.out.cell 5; simp at d5; have d6 := HB3.out.frozen 5; clear ho3 hg3 hn3 q1 q2 q3 hb3 q5 c5 f5)))
  go_end0
  have hyg : y ≠ g3 := by have := HK3.out.1; omega
  have hff := ((Fr.refl [y, g3] w3).setCell (p := ⟨g3, n, none⟩) (by simp) (.string s)).setCell (p := ⟨y, 5, none⟩) (by simp) (.slice (some ⟨g3, 0, none⟩) x.lv c3)
  have hf3 := ((Fr.refl [] w).alloc (.cells #[] 9)).step HF3.out (fun k hk => by simp at hk; exact .inr (by omega))
  have hbr := HKR.out.lt
  refine ⟨rfl, g3, r, ⟨⟨c3, HK3.out.2.1, ⟨cr, ((HB3.out.far hyg _).set_ 5 _), HCK.out.1⟩, ?_, HCK.out.2⟩, ?_, HOK.out⟩, ?_, .inr HK3.out.1, .inl rfl⟩
  · exact (KeysAt.fr HKR.out hf3 (by simp)).fr hff (by have := HK3.out.1; have := hne.2; simp; omega)
  · refine KeysAt.fr ?_ ((Fr.refl [y] (w3.setCell ⟨g3, n, none⟩ (.string s))).setCell (p := ⟨y, 5, none⟩) (by simp) _) (by simpa using Ne.symm hyg)
    exact ⟨_, HK3.out.2.2.1.set_ n _, strs_set HK3.out.2.2.2 (by rw [HN.out]; exact HLV.out.1)⟩
  · exact ((hf3.mono (by simp)).step hff (fun k hk => by simp at hk; rcases hk with rfl | rfl; exact .inl (by simp); exact .inr HK3.out.1))
end Go.Proofs.YtkjahokffpihmaaDoor
