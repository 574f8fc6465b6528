/- Same rows of texts; frames; the document's table. -/
import Derived.Test.YtdkihajajdhpnaaW13
namespace Go.Proofs.Ytdkihajajdhpnaa
open Go.RowKit
set_option linter.unusedVariables false
set_option linter.unusedSimpArgs false
def encS (l : List ByteArray) : List Value := l.map .string
theorem encS_len (l : List ByteArray) : (encS l).length = l.length := by simp [encS]
theorem encS_at {l : List ByteArray} {i : Nat} {p : ByteArray} (h : l[i]? = some p) : (encS l)[i]? = some (.string p) := by simp [encS, h]
theorem encS_one (l : List ByteArray) : ∀ u ∈ encS l, u.oneCell' = true := by
  intro u hu
  rw [encS, List.mem_map] at hu
  obtain ⟨_, _, rfl⟩ := hu
  rfl
theorem Sl.str_at {w : World} {v : Value} {n : Nat} {l : List ByteArray} (h : Sl w 9 1 v n (encS l)) {i : Nat} {p : ByteArray} (hp : l[i]? = some p) :
    ∃ g o cap, v = .slice (some ⟨g, o, none⟩) n cap ∧ w.cell? ⟨g, o + i, none⟩ = some (.string p) := by
  rcases h.form with ⟨rfl, rfl, h1⟩ | ⟨g, o, cap, rfl, h1, h2, h3, h4, h5⟩
  · have := encS_at hp
    rw [h1] at this
    simp at this
  · exact ⟨g, o, cap, rfl, by have := h5 i _ (encS_at hp); rwa [addr_add] at this⟩
set_option maxRecDepth 100000 in
set_option maxHeartbeats 1000000 in
theorem same_strs (l : List ByteArray) (v v' : Value) (n : Nat) (w : World) (h : Sl w 9 1 v n (encS l)) (h' : Sl w 9 1 v' n (encS l)) (hn : n ≤ 4096) :
    Calls Try.prog 15 #[v, v'] w fun e w' => e = .returned (.bool true) ∧ Fr [] w w' := by
  have hl : l.length = n := by have := h.1; rw [encS_len] at this; omega
  obtain ⟨A, cap, rfl, -⟩ := h.shape
  obtain ⟨A', cap', rfl, -⟩ := h'.shape
  have H := Lib.hid h
  have H' := Lib.hid h'
  have Hl := Lib.hid hl
  clear h h' hl
  go_enter Try.func15, Try.ntmps15
  go_wp2_with fail
  go_loopg [5] n (fun gg i wr => ∃ k : Nat, k + gg = n ∧ i = .int .i64 k ∧ Fr [] w wr)
  case atStart => exact ⟨0, by omega, rfl, Fr.refl _ _⟩
  case round =>
    obtain ⟨k, hk, rfl, hf⟩ := hrel
    have Hf := Lib.hid hf
    have Hk := Lib.hid hk
    by_cases hlt : k < n
    · obtain ⟨x, hp⟩ : ∃ p, l[k]? = some p := ⟨_, List.getElem?_eq_getElem (by have := Hl.out; omega)⟩
      obtain ⟨g, o, c, e1, c1⟩ := (H.out.fr hf (by simp)).str_at hp
      obtain ⟨g', o', c', e1', c1'⟩ := (H'.out.fr hf (by simp)).str_at hp
      injection e1 with e1 _ e2
      injection e1' with e1' _ e2'
      subst e1
      subst e1'
      subst e2
      subst e2'
      have hki : (k : Int) < (n : Int) := by omega
      have hk0 : (0 : Int) ≤ (k : Int) := by omega
      clear hk hf hp
      go_wp2_with fail
      go_quiet (fail)
      go_wp2
      go_roundg (n - (k + 1))
      case measure => have := Hk.out; omega
      case rel => exact ⟨k + 1, by have := Hk.out; omega, by go_num, Hf.out.drewN _⟩
    · go_wp2_with fail
      go_ret
      exact ⟨rfl, hf⟩
/-- A memory's frames. -/
def framesL (st : St) (k : Nat) : List ByteArray := (List.range k).map (frS st)
theorem framesL_succ (st : St) (k : Nat) : framesL st (k + 1) = framesL st k ++ [frS st k] := by simp [framesL, List.range_succ]
theorem Try.info9 : (Try.prog.info? 9).map (fun i => (i.zero, i.size, i.bytes)) = some (some (.string ⟨#[]⟩), 1, 16) := by kernel_rfl
def FramesP (w : World) (st : St) (e : Ending) (w' : World) : Prop := ∃ v, e = .returned v ∧ w'.ownsRow w.heap.size 9 1 v st.n (encS (framesL st st.n)) ∧ Fr [] w w'
set_option maxRecDepth 100000 in
set_option maxHeartbeats 1000000 in
theorem frames_any (p F : Nat) (st : St) (w : World) (h : MemAt w p F st) : Calls Try.prog 13 #[ptr p] w (FramesP w st) := by
  obtain ⟨i0, hi0, hz0, hz1, hz2⟩ := info3 Try.info9
  have Hn := Lib.hid fun W (hf : Fr [] w W) => Frames_any p F st W (h.to hf (by simp) (by simp))
  have Hf := Lib.hid fun W (hf : Fr [] w W) f (hff : f < st.n) => Frame_ok p F st W f (h.to hf (by simp) (by simp)) hff
  have hn2 := h.hd.n2
  have Hm0 := Lib.hid (World.ownsRow_made (base := w.heap.size) (e := 9) (size := 1) w #[] 0 (Nat.le_refl _) (by simp [maxLen]) (by simp))
  have Hf0 := Lib.hid ((Fr.refl [] w).alloc (.cells #[] 9))
  clear h
  obtain ⟨N, hN⟩ : ∃ N, st.n = N := ⟨_, rfl⟩
  rw [hN] at hn2
  simp only [hN] at Hn Hf
  have HN := Lib.hid hN
  clear hN
  go_enter Try.func13, Try.ntmps13
  go_wp2_with fail
  go_loopg [3, 4] N (fun gg x i wr => ∃ (k : Nat) (A : Option Addr) (c : Nat), k + gg = N ∧ i = .int .i64 k ∧ x = .slice A k c ∧ wr.ownsRow w.heap.size 9 1 (.slice A k c) k (encS (framesL st k)) ∧ Fr [] w wr)
  case atStart => exact ⟨0, _, _, by omega, rfl, rfl, Hm0.out, Hf0.out⟩
  case round =>
    obtain ⟨k, A, c, hk, rfl, rfl, ho, hf⟩ := hrel
    have Hk := Lib.hid hk
    have HF := Lib.hid hf
    have HO := Lib.hid ho
    have hsz := hf.size
    by_cases hlt : k < N
    · have hki : (k : Int) < (N : Int) := by omega
      have hki2 : (k : Int) < 160 := by omega
      have hX0 := own_fr ho ((Fr.refl [] wr).alloc (.cells #[.string (frS st k)] 9)) (by simp)
      have HX := Lib.hid hX0
      have HFk := Lib.hid (Hf.out wr hf k hlt)
      clear hk hf ho hX0
      generalize hfk : frS st k = FS at *
      have Hfk := Lib.hid hfk
      clear hfk
      go_wp2_with (first
        | (go_at_call 17; go_must ((with_reducible refine (Hn.out _ HF.out).mono ?_); rintro e w1 ⟨rfl, rfl⟩))
        | (go_at_call 26; go_must ((with_reducible refine HFk.out.mono ?_); rintro e w1 ⟨rfl, rfl⟩))
        | (at_builtin; go_must (refine wpList_append_own _ rfl (.tmp 24) (.tmp 26) 33 rfl w.heap.size 9 i0 (.string ⟨#[]⟩) 1 16 Try.underlying33 hi0 hz0 hz1 hz2 rfl (by decide) _ _ _ rfl HX.out ⟨wr.heap.size, 0, none⟩ 1 1 [.string FS] rfl rfl (news1 ((Blk.new wr 9 #[.string FS]).cell 0)) (by simp [Value.oneCell']) (by simp only [maxLen]; omega) (by omega) (by simp; omega) ?_; intro x' w4 hox4 hgx4 _; have hf4 := (HF.out.alloc (.cells #[.string FS] 9)).own HX.out hgx4; obtain ⟨A4, c4, rfl⟩ := own_shape hox4))
        | fail)
      go_roundg (N - (k + 1))
      case measure => have := Hk.out; omega
      case rel =>
        refine ⟨k + 1, A4, c4, by have := Hk.out; omega, by go_num, rfl, ?_, hf4⟩
        rw [framesL_succ, Hfk.out, encS, List.map_append]
        exact hox4
    · have hkN : k = N := by omega
      have hki : ¬ (k : Int) < (N : Int) := by omega
      have HkN := Lib.hid hkN
      clear hk hf ho hkN
      go_wp2_with (first
        | (go_at_call 17; go_must ((with_reducible refine (Hn.out _ HF.out).mono ?_); rintro e w1 ⟨rfl, rfl⟩))
        | fail)
      go_ret
      refine ⟨_, rfl, ?_, HF.out⟩
      rw [HN.out, ← HkN.out]
      exact HO.out
theorem table_any (w : World) : Calls Try.prog 30 #[] w fun e w' => e = .returned (.slice (some ⟨w.heap.size, 0, none⟩) 3 3) ∧ w' = w.alloc (.cells #[.int .i64 1, .int .i64 3, .int .i64 (-1), .int .i64 0, .int .i64 0, .int .i64 5] 31) := by
  go_enter Try.func30, Try.ntmps30
  go_wp2
  go_ret
  exact ⟨rfl, rfl⟩
def tab0 : List Pg := [⟨1, 3⟩, ⟨-1, 0⟩, ⟨0, 5⟩]
theorem tab0_at (w : World) : Tb (w.alloc (.cells #[.int .i64 1, .int .i64 3, .int .i64 (-1), .int .i64 0, .int .i64 0, .int .i64 5] 31)) w.heap.size (.slice (some ⟨w.heap.size, 0, none⟩) 3 3) tab0 := by
  have hb := Blk.new w 31 #[.int .i64 1, .int .i64 3, .int .i64 (-1), .int .i64 0, .int .i64 0, .int .i64 5]
  refine ⟨by simp [tab0, maxLen], _, 3, rfl, fun i p hi => ⟨0, rfl, hb.lt, ?_⟩⟩
  match i, hi with
  | 0, hi => simp [tab0] at hi; subst hi; exact ⟨hb.cell 0, hb.cell 1⟩
  | 1, hi => simp [tab0] at hi; subst hi; exact ⟨hb.cell 2, hb.cell 3⟩
  | 2, hi => simp [tab0] at hi; subst hi; exact ⟨hb.cell 4, hb.cell 5⟩
  | i + 3, hi => simp [tab0] at hi
end Go.Proofs.Ytdkihajajdhpnaa
