/- The reference's console (castellanref22) in memory: blank, clear, feed. -/
import Derived.Test.YtkjahokffpihmaaDoorC27
namespace Go.Proofs.YtkjahokffpihmaaDoor
open Go.RowKit
set_option linter.unusedVariables false
set_option linter.unusedSimpArgs false
set_option maxRecDepth 100000
theorem blank_any (w : World) : Calls Tryd.prog 61 #[] w fun e w' => e = .returned (.string sp24) ∧ w = w' := by
  have HE := Lib.hid (rfl : sp24 = ⟨#[32, 32, 32, 32, 32, 32, 32, 32, 32, 32, 32, 32, 32, 32, 32, 32, 32, 32, 32, 32, 32, 32, 32, 32]⟩)
  rw [HE.out]
  go_enter Tryd.func61, Tryd.ntmps61
  go_wp2
  go_ret
  exact ⟨rfl, rfl⟩
/-- The reference's console in block y: six cells of its own, its rows in block r, and where the next byte goes. -/
structure Rw (W : World) (y : Nat) (h0 h1 h2 h3 h4 h5 : Value) (r : Nat) (s : Sc) : Prop where
  b : ∃ cr, Blk W y 62 #[h0, h1, h2, h3, h4, h5, .slice (some ⟨r, 0, none⟩) 6 cr, .int .i64 (s.ln : Int), .int .i64 (s.cl : Int)] ∧ 6 ≤ cr
  k : KeysAt W r (screenL s)
  ok : s.Ok
theorem keys_of6 {W : World} {g : Nat} {a0 a1 a2 a3 a4 a5 : ByteArray} (h : Blk W g 9 #[.string a0, .string a1, .string a2, .string a3, .string a4, .string a5]) : KeysAt W g [a0, a1, a2, a3, a4, a5] := by
  refine ⟨_, h, fun i s hi => ?_⟩
  match i, hi with
  | 0, hi => simp at hi; subst hi; rfl
  | 1, hi => simp at hi; subst hi; rfl
  | 2, hi => simp at hi; subst hi; rfl
  | 3, hi => simp at hi; subst hi; rfl
  | 4, hi => simp at hi; subst hi; rfl
  | 5, hi => simp at hi; subst hi; rfl
  | i + 6, hi => simp at hi
/-- What a call leaves that lays the rows anew. -/
def RwP (w : World) (y : Nat) (h0 h1 h2 h3 h4 h5 : Value) (s : Sc) (P : Nat → Prop) (e : Ending) (w' : World) : Prop := e = .returned (.tuple #[]) ∧ ∃ r, Rw w' y h0 h1 h2 h3 h4 h5 r s ∧ Fr [y] w w' ∧ P r
set_option maxHeartbeats 1000000 in
theorem rclear_any (w : World) (y : Nat) (h0 h1 h2 h3 h4 h5 v6 v7 v8 : Value) (hb : Blk w y 62 #[h0, h1, h2, h3, h4, h5, v6, v7, v8]) : Calls Tryd.prog 44 #[ptr y] w (RwP w y h0 h1 h2 h3 h4 h5 sclear fun r => w.heap.size ≤ r) := by
  have c6 := hb.cell 6
  have c7 := hb.cell 7
  have c8 := hb.cell 8
  simp at c6 c7 c8
  have f6 := hb.frozen 6
  have f7 := hb.frozen 7
  have f8 := hb.frozen 8
  have hlt := hb.lt
  have HBl := Lib.hid blank_any
  have H1 : Hid (Rw ((((w.setCell ⟨y, 6, none⟩ (.slice (some ⟨w.heap.size, 0, none⟩) 6 6)).setCell ⟨y, 7, none⟩ (.int .i64 0)).setCell ⟨y, 8, none⟩ (.int .i64 0)).alloc (.cells #[.string sp24, .string sp24, .string sp24, .string sp24, .string sp24, .string sp24] 9)) y h0 h1 h2 h3 h4 h5 w.heap.size sclear ∧ Fr [y] w ((((w.setCell ⟨y, 6, none⟩ (.slice (some ⟨w.heap.size, 0, none⟩) 6 6)).setCell ⟨y, 7, none⟩ (.int .i64 0)).setCell ⟨y, 8, none⟩ (.int .i64 0)).alloc (.cells #[.string sp24, .string sp24, .string sp24, .string sp24, .string sp24, .string sp24] 9))) := Lib.hid (by
    refine ⟨⟨⟨6, (((hb.set_ 6 _).set_ 7 _).set_ 8 _).alloc _, Nat.le_refl _⟩, ?_, sclear_ok⟩, ((((Fr.refl [y] w).setCell (by simp) _).setCell (by simp) _).setCell (by simp) _).alloc _⟩
    rw [clear_rows]
    exact keys_of6 (Blk.new' (by simp)))
  clear hb
  unfold RwP
  go_enter Tryd.func44, Tryd.ntmps44
  go_wp2_with (go_at_call 61; refine (HBl.out _).mono ?_; rintro e wz ⟨rfl, rfl⟩)
  go_end0
  exact ⟨rfl, _, H1.out.1, H1.out.2, Nat.le_refl _⟩
theorem sfeed_rows {s : Sc} (h : s.ln = 5) : screenL (sfeed s) = (screenL s).drop 1 ++ [sp24] := by
  have hf : sfeed s = ⟨fun p => if p < 120 then s.g (p + 24) else 32, 5, 0⟩ := by unfold sfeed; rw [if_neg (by omega)]
  rw [hf]
  apply List.ext_getElem?
  intro j
  by_cases hj : j < 6
  · have e1 : (screenL ⟨fun p => if p < 120 then s.g (p + 24) else 32, 5, 0⟩)[j]? = some (rowB ⟨fun p => if p < 120 then s.g (p + 24) else 32, 5, 0⟩ j) := by simp [screenL, hj]
    rw [e1]
    by_cases h5 : j < 5
    · rw [List.getElem?_append_left (by rw [List.length_drop, screen_len]; omega), List.getElem?_drop]
      have e2 : (screenL s)[1 + j]? = some (rowB s (1 + j)) := by simp [screenL, show 1 + j < 6 by omega]
      rw [e2]
      congr 1
      apply ByteArray.ext
      show (rowL _ j).toArray = (rowL s (1 + j)).toArray
      congr 1
      apply List.ext_getElem?
      intro c
      by_cases hc : c < 24
      · rw [rowL_at _ j hc, rowL_at s (1 + j) hc]
        show some (if j * 24 + c < 120 then s.g (j * 24 + c + 24) else 32) = _
        rw [if_pos (by omega), show j * 24 + c + 24 = (1 + j) * 24 + c by omega]
      · rw [List.getElem?_eq_none (by rw [rowL_len]; omega), List.getElem?_eq_none (by rw [rowL_len]; omega)]
    · obtain rfl : j = 5 := by omega
      rw [List.getElem?_append_right (by rw [List.length_drop, screen_len]; omega), List.length_drop, screen_len]
      show some _ = some sp24
      rw [← pad_empty]
      exact congrArg some (pad_row fun c hc => by
        show (if 5 * 24 + c < 120 then s.g (5 * 24 + c + 24) else 32) = _
        rw [if_neg (by omega)]
        rfl)
  · rw [List.getElem?_eq_none (by rw [screen_len]; omega), List.getElem?_eq_none (by rw [List.length_append, List.length_drop, screen_len]; simp; omega)]
theorem news_strs {W : World} {g d : Nat} {l : List ByteArray} (h : StrsAt W g d l) : ∀ (j : Nat) (u : Value), (strL l)[j]? = some u → W.cell? ((⟨g, d, none⟩ : Addr).add j) = some u := by
  intro j u hu
  rw [addr_add]
  unfold strL at hu
  rw [List.getElem?_map] at hu
  cases hl : l[j]? with
  | none => rw [hl] at hu; cases hu
  | some s =>
    rw [hl] at hu
    simp at hu
    rw [← hu]
    exact h j s hl
theorem strL_one (l : List ByteArray) : ∀ u ∈ strL l, u.oneCell' = true := by
  intro u hu
  unfold strL at hu
  rw [List.mem_map] at hu
  obtain ⟨s, -, rfl⟩ := hu
  rfl
theorem strL_len (l : List ByteArray) : (strL l).length = l.length := by simp [strL]
theorem keys_own {W : World} {B g n c : Nat} {l : List ByteArray} (h : W.ownsRow B 9 1 (.slice (some ⟨g, 0, none⟩) n c) n (strL l)) : KeysAt W g l ∧ B ≤ g ∧ n ≤ c ∧ c ≤ maxLen := by
  obtain ⟨g', c', cs, he, q1, q2, q3, q4, q5⟩ := own_some h (fun h => by cases h)
  injection he with he1 _ he2
  subst he2
  injection he1 with he1
  injection he1 with he1 _ _
  subst he1
  exact ⟨⟨cs, q4, fun i s hi => q5 i _ (by unfold strL; rw [List.getElem?_map, hi]; rfl)⟩, q1, q2, q3⟩
set_option maxHeartbeats 2000000 in
theorem rfeed_any (w : World) (y r : Nat) (h0 h1 h2 h3 h4 h5 : Value) (s : Sc) (h : Rw w y h0 h1 h2 h3 h4 h5 r s) : Calls Tryd.prog 62 #[ptr y] w (RwP w y h0 h1 h2 h3 h4 h5 (sfeed s) fun r' => r' = r ∨ w.heap.size ≤ r') := by
  obtain ⟨⟨cr, hb, hcr⟩, hk, hok⟩ := h
  have hokf := (sfeed_ok hok).1
  have hl5 := hok.l
  have c6 := hb.cell 6
  have c7 := hb.cell 7
  have c8 := hb.cell 8
  simp at c6 c7 c8
  have f6 := hb.frozen 6
  have f7 := hb.frozen 7
  have f8 := hb.frozen 8
  have hlt := hb.lt
  have hyr : y ≠ r := by
    obtain ⟨cs, hr, -⟩ := hk
    exact hb.ne_ hr (by decide)
  unfold RwP
  by_cases h5' : s.ln < 5
  · have hs : sfeed s = ⟨s.g, s.ln + 1, 0⟩ := by unfold sfeed; rw [if_pos h5']
    rw [hs] at hokf ⊢
    have hrows : screenL ⟨s.g, s.ln + 1, 0⟩ = screenL s := rfl
    have H1 : Hid (Rw ((w.setCell ⟨y, 8, none⟩ (.int .i64 0)).setCell ⟨y, 7, none⟩ (.int .i64 ((s.ln : Int) + 1))) y h0 h1 h2 h3 h4 h5 r ⟨s.g, s.ln + 1, 0⟩ ∧ Fr [y] w ((w.setCell ⟨y, 8, none⟩ (.int .i64 0)).setCell ⟨y, 7, none⟩ (.int .i64 ((s.ln : Int) + 1)))) := Lib.hid (by
      have hf : Fr [y] w ((w.setCell ⟨y, 8, none⟩ (.int .i64 0)).setCell ⟨y, 7, none⟩ (.int .i64 ((s.ln : Int) + 1))) := ((Fr.refl [y] w).setCell (by simp) _).setCell (by simp) _
      exact ⟨⟨⟨cr, (hb.set_ 8 _).set_ 7 _, hcr⟩, by rw [hrows]; exact hk.fr hf (by simpa using Ne.symm hyr), hokf⟩, hf⟩)
    have e1 : IntKind.i64.wrap ((s.ln : Int) + 1) = (s.ln : Int) + 1 := IntWalk.i64_in _ (by omega)
    have e2 : ((s.ln : Int) + 1 == 6) = false := beq_eq_false_iff_ne.2 (by omega)
    clear hb hk hok hokf hs hrows
    go_enter Tryd.func62, Tryd.ntmps62
    go_wp2
    go_end0
    exact ⟨rfl, r, H1.out.1, H1.out.2, .inl rfl⟩
  · have hs5 : s.ln = 5 := by omega
    have hrows := sfeed_rows hs5
    have hln : (sfeed s).ln = 5 := by unfold sfeed; rw [if_neg h5']
    have hcl := (sfeed_ok hok).2
    rw [hs5] at c7
    obtain ⟨i0, hi0, hz0, hz1, hz2⟩ := info3 Tryd.info9
    obtain ⟨Wa, hWa⟩ : ∃ Wa, ((w.setCell ⟨y, 8, none⟩ (.int .i64 0)).setCell ⟨y, 7, none⟩ (.int .i64 6)).alloc (.cells #[] 9) = Wa := ⟨_, rfl⟩
    have hfa : Fr [y] w Wa := by rw [← hWa]; exact (((Fr.refl [y] w).setCell (by simp) _).setCell (by simp) _).alloc _
    have hba : Blk Wa y 62 #[h0, h1, h2, h3, h4, h5, .slice (some ⟨r, 0, none⟩) 6 cr, .int .i64 6, .int .i64 0] := by rw [← hWa]; exact ((hb.set_ 8 _).set_ 7 _).alloc _
    have hsz : Wa.heap.size = w.heap.size + 1 := by rw [← hWa]; simp
    have HO1 : Hid (Wa.ownsRow w.heap.size 9 1 (.slice (some ⟨w.heap.size, 0, none⟩) 0 0) 0 []) := Lib.hid (by
      have := own_made0 (W' := Wa) (W := (w.setCell ⟨y, 8, none⟩ (.int .i64 0)).setCell ⟨y, 7, none⟩ (.int .i64 6)) w.heap.size (by simp) hWa.symm
      simpa using this)
    have hka := hk.fr hfa (by simpa using Ne.symm hyr)
    have HN1 := Lib.hid (news_strs (StrsAt.drop hka.strs 1))
    have HBA := Lib.hid hba
    have HFA := Lib.hid hfa
    have HL1 : Hid ((strL ((screenL s).drop 1)).length = 5 * 1) := Lib.hid (by rw [strL_len, List.length_drop, screen_len])
    have HS1 := Lib.hid (strL_one ((screenL s).drop 1))
    have HRW := Lib.hid hrows
    have HWa := Lib.hid hWa
    have HBl := Lib.hid blank_any
    have HOK := Lib.hid hokf
    have HLC := Lib.hid (And.intro hln hcl)
    have mx5 : 0 + 5 ≤ maxLen := by simp [maxLen]
    have mx6 : 0 + 5 + 1 ≤ maxLen := by simp [maxLen]
    have hb1 : w.heap.size ≤ Wa.heap.size := by omega
    clear hb hk hok hokf hrows hln hcl hfa hba hka hWa hsz h5' hl5
    have HSL : Hid (strL ((screenL s).drop 1) ++ [.string sp24] = strL (screenL (sfeed s))) := Lib.hid (by rw [HRW.out, strL_snoc])
    generalize strL ((screenL s).drop 1) = LS at *
    generalize sfeed s = s2 at *
    go_enter Tryd.func62, Tryd.ntmps62
    go_wp2_with (first
      | (go_at_call 61; refine (HBl.out _).mono ?_; rintro e wz ⟨rfl, rfl⟩)
      | (at_builtin; refine wpList_append_own _ rfl (.tmp 24) (.tmp 26) 36 rfl w.heap.size 9 i0 (.string ⟨#[]⟩) 1 16 Tryd.underlying36 hi0 hz0 hz1 hz2 rfl (Nat.succ_pos 0) (.slice (some ⟨g3, 0, none⟩) 5 c3) 5 LS rfl HO4.out ⟨w3.heap.size, 0, none⟩ 1 1 [.string sp24] rfl rfl HN4.out (by simp [Value.oneCell']) mx6 (by omega) (by simp; omega) ?_; intro v5 w5 ho5 hg5 hn5; rw [HSL.out] at ho5; obtain ⟨g5, c5, rfl⟩ : ∃ g cap, v5 = .slice (some ⟨g, 0, none⟩) 6 cap := own_succ ho5; have hB5 := (HB3.out.alloc (.cells #[.string sp24] 9)).fr (Fr.of_own hg5) (by simp [Value.ownBlock]; have := HG3.out; omega); have HB5 := Lib.hid hB5; have HF5 := Lib.hid ((HF3.out.alloc _).own HO4.out hg5); have HK5 := Lib.hid (keys_own ho5); have d6 := hB5.cell 6; have d7 := hB5.cell 7; simp at d6 d7; have e6 := hB5.frozen 6; have e7 := hB5.frozen 7; clear ho5 hg5 hn5 hB5)
      | (at_builtin; rw [HWa.out]; refine wpList_append_own _ rfl (.tmp 18) (.tmp 23) 36 rfl w.heap.size 9 i0 (.string ⟨#[]⟩) 1 16 Tryd.underlying36 hi0 hz0 hz1 hz2 rfl (Nat.succ_pos 0) (.slice (some ⟨w.heap.size, 0, none⟩) 0 0) 0 [] rfl HO1.out ⟨r, 1, none⟩ 5 (cr - 1) LS rfl HL1.out HN1.out HS1.out mx5 (by omega) hb1 ?_; intro v3 w3 ho3 hg3 hn3; rw [List.nil_append] at ho3; obtain ⟨g3, c3, rfl⟩ : ∃ g cap, v3 = .slice (some ⟨g, 0, none⟩) 5 cap := own_succ ho3; have HB3 := Lib.hid (HBA.out.fr (Fr.of_own hg3) (by simp [Value.ownBlock]; omega)); have HF3 := Lib.hid (HFA.out.own HO1.out hg3); have HG3 := Lib.hid (own_blk ho3 g3 (by simp [Value.ownBlock])).1; have HO4 : Hid ((w3.alloc (.cells #[.string sp24] 9)).ownsRow w.heap.size 9 1 (.slice (some ⟨g3, 0, none⟩) 5 c3) 5 LS) := Lib.hid (own_far ho3 ((Fr.refl [] w3).alloc (.cells #[.string sp24] 9)) (by simp)); have HN4 := Lib.hid (news1 (w := w3.alloc (.cells #[.string sp24] 9)) (b := w3.heap.size) (x := .string sp24) (by simp)); have hb3 : w.heap.size ≤ w3.heap.size + 1 := (by have := HF3.out.size; omega); clear ho3 hg3 hn3))
    go_end0
    have hff := (HF5.out.setCell (p := ⟨y, 6, none⟩) (by simp) (.slice (some ⟨g5, 0, none⟩) 6 c5)).setCell (p := ⟨y, 7, none⟩) (by simp) (.int .i64 5)
    refine ⟨rfl, g5, ⟨⟨c5, ?_, HK5.out.2.2.1⟩, ?_, HOK.out⟩, hff, .inr HK5.out.2.1⟩
    · rw [HLC.out.1, HLC.out.2]
      exact (HB5.out.set_ 6 _).set_ 7 _
    · exact HK5.out.1.fr (((Fr.refl [y] w5).setCell (p := ⟨y, 6, none⟩) (by simp) _).setCell (p := ⟨y, 7, none⟩) (by simp) _) (by have := HK5.out.2.1; simp; omega)
end Go.Proofs.YtkjahokffpihmaaDoor
