/- The reference's memories: noughts, Frame, Lay, Clear. -/
import Derived.Test.YtdkihajajdhpnaaW17
import Derived.StillTailTactics
namespace Go.Proofs.Ytdkihajajdhpnaa
open Go.RowKit
set_option linter.unusedVariables false
set_option linter.unusedSimpArgs false
/-- A memory of the reference. -/
structure RMem (w : World) (q G : Nat) (st : St) : Prop where
  hd : RHd w q G st.n
  fr : ∃ cs, Blk w G 9 cs ∧ ∀ i, i < st.n → cs[i]? = some (.string (frS st i))
theorem RMem.to {S : List Nat} {w w' : World} {q G : Nat} {st : St} (h : RMem w q G st) (hf : Fr S w w') (hp : q ∉ S) (hG : G ∉ S) : RMem w' q G st := by
  obtain ⟨hd, cs, hb, hc⟩ := h
  exact ⟨hd.fr hf hp, cs, hb.fr hf hG, hc⟩
theorem RMem.ltG {w : World} {q G : Nat} {st : St} (h : RMem w q G st) : G < w.heap.size := by
  obtain ⟨hd, cs, hb, hc⟩ := h
  exact hb.lt
theorem RMem.ne {w : World} {q G : Nat} {st : St} (h : RMem w q G st) : q ≠ G := by
  obtain ⟨⟨⟨cap, hb', _⟩, _⟩, cs, hb, hc⟩ := h
  exact hb'.ne_ hb (by decide)
theorem RMem.cell {w : World} {q G : Nat} {st : St} (h : RMem w q G st) {f : Nat} (hf : f < st.n) : w.cell? ⟨G, f, none⟩ = some (.string (frS st f)) := by
  obtain ⟨hd, cs, hb, hc⟩ := h
  rw [hb.cell]
  exact hc f hf
theorem RMem.frozen {w : World} {q G : Nat} {st : St} (h : RMem w q G st) (j : Nat) : w.frozen? ⟨G, j, none⟩ = false := by
  obtain ⟨hd, cs, hb, hc⟩ := h
  exact hb.frozen j
/-- Zeros as a text. -/
def zsS : ByteArray := ⟨zs256.toArray⟩
theorem made_zs : ∃ Z : Array Value, (∀ j, j < 256 → Z[j]? = some (.int .u8 0)) ∧ ∀ w : World, (Instr.makeSlice 42 (.int .i64 256) (.int .i64 256)).run Try.prog w = .ok (.slice (some ⟨w.heap.size, 0, none⟩) 256 256) (w.alloc (.cells Z 5)) := by
  obtain ⟨i0, hi0, hz0, hz1, hz2⟩ := info3 Try.info5
  refine ⟨madeCells (Value.int .u8 0).cells (256 * i0.size), fun j hj => ?_, fun w => ?_⟩
  · rw [hz1]
    have h3 : (Value.int .u8 0).cells = #[.int .u8 0] := rfl
    rw [h3]
    simp [madeCells, hj, Nat.mod_one]
  · have := run_make (P := Try.prog) w 42 5 i0 _ Try.underlying42 hi0 hz0 .i64 .i64 256 256 (by omega) (by omega) (by rw [hz2]; omega) (by omega)
    simpa using this
theorem zs256_at {j : Nat} {c : UInt8} (h : zs256[j]? = some c) : c = 0 ∧ j < 256 := by
  have h1 := (List.getElem?_eq_some_iff.1 h).1
  rw [zs256_len] at h1
  refine ⟨?_, h1⟩
  unfold zs256 at h
  rw [List.getElem?_replicate, if_pos h1] at h
  injection h with h
  exact h.symm
theorem noughts_any (w : World) : Calls Try.prog 32 #[.int .i64 256] w fun e w' => e = .returned (.string zsS) ∧ Fr [] w w' := by
  obtain ⟨Z, hZ, hmk⟩ := made_zs
  have hcv : (convert 42 9 (.slice (some ⟨w.heap.size, 0, none⟩) 256 256)).run Try.prog (w.alloc (.cells Z 5)) = .ok (.string zsS) (w.alloc (.cells Z 5)) :=
    conv_list zs256 zs256_len (fun j c hj => by
      obtain ⟨rfl, hlt⟩ := zs256_at hj
      rw [Nat.zero_add, (Blk.new w 5 Z).cell, hZ j hlt]
      rfl)
  have HZ := Lib.hid hZ
  clear hZ
  generalize zsS = ZS at *
  go_enter Try.func32, Try.ntmps32
  go_wp2
  go_ret
  exact ⟨rfl, (Fr.refl [] w).alloc _⟩
theorem rFrame_bad (q G : Nat) (st : St) (w : World) (f : Int) (h : RMem w q G st) (hf : f < 0 ∨ (st.n : Int) ≤ f) : Calls Try.prog 27 #[ptr q, .int .i64 f] w fun e w' => e = .returned (.tuple #[.string ⟨#[]⟩, .int .i64 83]) ∧ w = w' := by
  obtain ⟨cap, hc, -, -⟩ := h.hd.cell
  clear h
  rcases hf with hf | hf
  · go_enter Try.func27, Try.ntmps27
    go_wp2
    go_ret2
    exact ⟨rfl, rfl⟩
  · have hf' : ¬ f < 0 := by omega
    go_enter Try.func27, Try.ntmps27
    go_wp2
    go_ret2
    exact ⟨rfl, rfl⟩
theorem rFrame_ok (q G : Nat) (st : St) (w : World) (f : Nat) (h : RMem w q G st) (hf : f < st.n) : Calls Try.prog 27 #[ptr q, .int .i64 f] w fun e w' => e = .returned (.tuple #[.string (frS st f), .int .i64 0]) ∧ w = w' := by
  obtain ⟨cap, hc, -, -⟩ := h.hd.cell
  have c0 := h.cell hf
  have hf' : ¬ (st.n : Int) ≤ (f : Int) := by omega
  have hf2 : (f : Int) < (st.n : Int) := by omega
  generalize frS st f = FS at *
  clear h
  go_enter Try.func27, Try.ntmps27
  go_wp2
  go_ret2
  exact ⟨rfl, rfl⟩
/-- A frame with bytes laid into it, as a text. -/
theorem lay_str (st : St) (f a : Nat) (s : ByteArray) (ha : a + s.size ≤ 256) : (frS st f).extract 0 a ++ s ++ (frS st f).extract (a + s.size) 256 = frS ⟨st.n, putL st.b (f * 256 + a) s.data.toList⟩ f := by
  apply ByteArray.ext
  apply Array.ext'
  apply List.ext_getElem?
  intro i
  have hsl : s.data.toList.length = s.size := rfl
  simp only [ByteArray.data_append, ByteArray.data_extract, Array.toList_append, Array.toList_extract, frS_list, List.extract]
  have hL : (frB st f).length = 256 := frB_len st f
  simp only [Nat.sub_zero, List.drop_zero]
  by_cases h1 : i < a
  · rw [List.getElem?_append_left (by simp; omega), List.getElem?_append_left (by simp; omega), List.getElem?_take, if_pos h1, frB_at _ _ _ (by omega), frB_at _ _ _ (by omega)]
    show some (st.b (f * 256 + i)) = some (putL st.b (f * 256 + a) s.data.toList (f * 256 + i))
    rw [putL_out _ _ _ _ (by omega)]
  · by_cases h2 : i < a + s.size
    · rw [List.getElem?_append_left (by simp; omega), List.getElem?_append_right (by simp; omega)]
      have hi : i - ((frB st f).take a).length = i - a := by rw [List.length_take]; congr 1; omega
      rw [hi, frB_at _ _ _ (by omega)]
      obtain ⟨c, hc⟩ : ∃ c, s.data.toList[i - a]? = some c := ⟨_, List.getElem?_eq_getElem (by omega)⟩
      rw [hc]
      show some c = some (putL st.b (f * 256 + a) s.data.toList (f * 256 + i))
      have := putL_in s.data.toList st.b (f * 256 + a) (i - a) c hc
      rw [show f * 256 + a + (i - a) = f * 256 + i from by omega] at this
      rw [this]
    · rw [List.getElem?_append_right (by simp; omega)]
      have hi : i - ((frB st f).take a ++ s.data.toList).length = i - (a + s.size) := by rw [List.length_append, List.length_take]; omega
      rw [hi, List.getElem?_take]
      by_cases h3 : i < 256
      · rw [if_pos (by omega), List.getElem?_drop, show a + s.size + (i - (a + s.size)) = i from by omega, frB_at _ _ _ h3, frB_at _ _ _ h3]
        show some (st.b (f * 256 + i)) = some (putL st.b (f * 256 + a) s.data.toList (f * 256 + i))
        rw [putL_out _ _ _ _ (by omega)]
      · rw [if_neg (by omega)]
        symm
        exact List.getElem?_eq_none (by rw [frB_len]; omega)
theorem lay_other (st : St) (f a i : Nat) (s : ByteArray) (ha : a + s.size ≤ 256) (hi : i ≠ f) : frS ⟨st.n, putL st.b (f * 256 + a) s.data.toList⟩ i = frS st i := by
  have hsl : s.data.toList.length = s.size := rfl
  have : frB ⟨st.n, putL st.b (f * 256 + a) s.data.toList⟩ i = frB st i := by
    unfold frB
    refine List.map_congr_left (fun j hj => ?_)
    have := List.mem_range.1 hj
    exact putL_out _ _ _ _ (by omega)
  unfold frS
  rw [this]
theorem RMem.put {w : World} {q G : Nat} {st : St} (h : RMem w q G st) {f a : Nat} {s : ByteArray} (hf : f < st.n) (ha : a + s.size ≤ 256) :
    RMem (w.setCell ⟨G, f, none⟩ (.string (frS ⟨st.n, putL st.b (f * 256 + a) s.data.toList⟩ f))) q G ⟨st.n, putL st.b (f * 256 + a) s.data.toList⟩ := by
  have hne := h.ne
  obtain ⟨hd, cs, hb, hc⟩ := h
  refine ⟨hd.fr ((Fr.refl [G] w).setCell (.inl (by simp)) _) (by simpa using hne), _, hb.set_ _ _, fun i hi => ?_⟩
  have hi' : i < st.n := hi
  by_cases hif : i = f
  · subst hif
    rw [Array.getElem?_setIfInBounds_self_of_lt (Array.getElem?_eq_some_iff.1 (hc i hi')).1]
  · rw [Array.getElem?_setIfInBounds_ne (by omega), hc i hi', lay_other st f a i s ha hif]
def RLayP (w : World) (q G : Nat) (st : St) (f a : Int) (s : ByteArray) (e : Ending) (w' : World) : Prop :=
  e = .returned (.int .i64 (layE st.n f a s)) ∧ RMem w' q G (if layE st.n f a s = 0 then ⟨st.n, putL st.b (f.toNat * 256 + a.toNat) s.data.toList⟩ else st) ∧ Fr [G] w w'
set_option maxRecDepth 100000 in
set_option maxHeartbeats 400000 in
theorem rLay_bad (q G : Nat) (st : St) (w : World) (f a : Int) (s : ByteArray) (h : RMem w q G st) (hs : s.size ≤ maxLen) (hb : (f < 0 ∨ (st.n : Int) ≤ f) ∨ (a < 0 ∨ 256 < a ∨ 256 - a < s.size)) :
    Calls Try.prog 40 #[ptr q, .int .i64 f, .int .i64 a, .string s] w fun e w' => e = .returned (.int .i64 (layE st.n f a s)) ∧ w = w' := by
  obtain ⟨cap, hc, -, -⟩ := h.hd.cell
  have e0 : (if f < 0 ∨ (st.n : Int) ≤ f then (83 : Int) else 80) = layE st.n f a s := by
    unfold layE
    by_cases h1 : f < 0 ∨ (st.n : Int) ≤ f
    · rw [if_pos h1, if_pos h1]
    · rw [if_neg h1, if_neg h1, if_pos (hb.resolve_left h1)]
  have E := Lib.hid e0
  clear h e0
  obtain ⟨N, hN⟩ : ∃ N, s.size = N := ⟨_, rfl⟩
  rw [hN] at hb hs
  simp only [maxLen] at hs
  generalize st.n = M at *
  by_cases h1 : f < 0
  · rw [if_pos (.inl h1)] at E
    go_enter Try.func40, Try.ntmps40
    go_wp2
    go_ret
    exact ⟨ret_int E.out, rfl⟩
  · by_cases h2 : (M : Int) ≤ f
    · rw [if_pos (.inr h2)] at E
      go_enter Try.func40, Try.ntmps40
      go_wp2
      go_ret
      exact ⟨ret_int E.out, rfl⟩
    · rw [if_neg (by omega)] at E
      have hb' := hb.resolve_left (by omega)
      by_cases h3 : a < 0
      · clear hb hb'
        go_enter Try.func40, Try.ntmps40
        go_wp2
        go_ret
        exact ⟨ret_int E.out, rfl⟩
      · by_cases h4 : 256 < a
        · clear hb hb'
          go_enter Try.func40, Try.ntmps40
          go_wp2
          go_ret
          exact ⟨ret_int E.out, rfl⟩
        · have h5 : 256 - a < (N : Int) := by omega
          clear hb hb'
          go_enter Try.func40, Try.ntmps40
          go_wp2
          go_ret
          exact ⟨ret_int E.out, rfl⟩
set_option maxRecDepth 100000 in
set_option maxHeartbeats 400000 in
theorem rLay_ok (q G : Nat) (st : St) (w : World) (f a : Nat) (s : ByteArray) (h : RMem w q G st) (hf : f < st.n) (ha : a + s.size ≤ 256) :
    Calls Try.prog 40 #[ptr q, .int .i64 f, .int .i64 a, .string s] w fun e w' => e = .returned (.int .i64 0) ∧ RMem w' q G ⟨st.n, putL st.b (f * 256 + a) s.data.toList⟩ ∧ Fr [G] w w' := by
  obtain ⟨cap, hc, hcap, hcm⟩ := h.hd.cell
  have c0 := h.cell hf
  have hfz : w.drew.frozen? ⟨G, f, none⟩ = false := h.frozen f
  have HP := Lib.hid ((h.put hf ha).to ((Fr.refl [] _).drew) (by simp) (by simp))
  have HF : Hid (Fr [G] w (w.setCell ⟨G, f, none⟩ (.string (frS ⟨st.n, putL st.b (f * 256 + a) s.data.toList⟩ f))).drew) := Lib.hid (((Fr.refl [G] w).setCell (.inl (by simp)) _).drew)
  have hls := Lib.hid (lay_str st f a s ha)
  have hFs := frS_size st f
  generalize frS ⟨st.n, putL st.b (f * 256 + a) s.data.toList⟩ f = NS at *
  generalize frS st f = FS at *
  generalize (⟨st.n, putL st.b (f * 256 + a) s.data.toList⟩ : St) = st1 at *
  have h1 : (f : Int) < (st.n : Int) := by omega
  have h2 : (0 : Int) ≤ (f : Int) := by omega
  obtain ⟨N, hN⟩ : ∃ N, s.size = N := ⟨_, rfl⟩
  rw [hN] at ha hls
  have h3 : ¬ (256 : Int) < (a : Int) := by omega
  have h4 : ¬ (256 : Int) - (a : Int) < (N : Int) := by omega
  have h5 : (a : Int) ≤ 256 := by omega
  have h6 : (0 : Int) ≤ (a : Int) := by omega
  have h7 : (a : Int) + (N : Int) ≤ 256 := by omega
  have h8 : (0 : Int) ≤ (a : Int) + (N : Int) := by omega
  clear h
  generalize st.n = M at *
  go_enter Try.func40, Try.ntmps40
  go_wp2_with fail
  have hsum : IntKind.i64.wrap ((a : Int) + (N : Int)) = (a : Int) + (N : Int) := IntWalk.i64_in _ (by omega)
  have hnt : ((a : Int) + (N : Int)).toNat = a + N := by omega
  have hmin : min a 256 = a := by omega
  have hc1 : ¬ 9223372036854775807 < a + N := by omega
  go_still_tail 30, (by kernel_rfl)
  change wpList _ _ _ _ _ w.drew
  go_wp2_with fail
  go_ret
  have hls' := hls.out
  subst hls'
  exact ⟨rfl, HP.out, HF.out⟩
theorem rLay_any (q G : Nat) (st : St) (w : World) (f a : Int) (s : ByteArray) (h : RMem w q G st) (hs : s.size ≤ maxLen) : Calls Try.prog 40 #[ptr q, .int .i64 f, .int .i64 a, .string s] w (RLayP w q G st f a s) := by
  by_cases hb : (f < 0 ∨ (st.n : Int) ≤ f) ∨ (a < 0 ∨ 256 < a ∨ 256 - a < s.size)
  · refine (rLay_bad q G st w f a s h hs hb).mono fun e w' ⟨he, hw⟩ => ?_
    subst hw
    refine ⟨he, ?_, Fr.refl _ _⟩
    have hne : layE st.n f a s ≠ 0 := by
      unfold layE
      rcases hb with h1 | h1
      · rw [if_pos h1]; omega
      · split
        · omega
        · first | omega | (rw [if_pos h1]; omega)
    rw [if_neg hne]
    exact h
  · obtain ⟨f', rfl⟩ := Int.eq_ofNat_of_zero_le (by omega : 0 ≤ f)
    obtain ⟨a', rfl⟩ := Int.eq_ofNat_of_zero_le (by omega : 0 ≤ a)
    have h0 : layE st.n f' a' s = 0 := by
      unfold layE
      rw [if_neg (by omega), if_neg (by omega)]
    refine (rLay_ok q G st w f' a' s h (by omega) (by omega)).mono fun e w' ⟨he, hm, hf⟩ => ⟨by rw [h0]; exact he, ?_, hf⟩
    rw [if_pos h0]
    exact hm
def RClearP (w : World) (q G : Nat) (st : St) (f : Int) (e : Ending) (w' : World) : Prop :=
  e = .returned (.int .i64 (clE st.n f)) ∧ RMem w' q G (if clE st.n f = 0 then ⟨st.n, putL st.b (f.toNat * 256) zs256⟩ else st) ∧ Fr [G] w w'
theorem zsS_size : zsS.size = 256 := zs256_len
set_option maxHeartbeats 400000 in
theorem rClear_go (q G : Nat) (st1 : St) (w : World) (f e1 : Int) (HL : Hid (∀ W, Fr [] w W → Calls Try.prog 40 #[ptr q, .int .i64 f, .int .i64 0, .string zsS] W fun e w' => e = .returned (.int .i64 e1) ∧ RMem w' q G st1 ∧ Fr [G] W w')) :
    Calls Try.prog 41 #[ptr q, .int .i64 f] w fun e w' => e = .returned (.int .i64 e1) ∧ RMem w' q G st1 ∧ Fr [G] w w' := by
  have Hz := Lib.hid (noughts_any w)
  generalize zsS = ZS at *
  go_enter Try.func41, Try.ntmps41
  go_wp2_with (first
    | (go_at_call 32; go_must ((with_reducible refine Hz.out.mono ?_); rintro e w1 ⟨rfl, hf1⟩))
    | (go_at_call 40; go_must ((with_reducible refine (HL.out _ hf1).mono ?_); rintro e w2 ⟨rfl, hm2, hf2⟩))
    | fail)
  go_ret
  exact ⟨rfl, hm2, (hf1.mono (by simp)).trans hf2⟩
theorem rClear_any (q G : Nat) (st : St) (w : World) (f : Int) (h : RMem w q G st) : Calls Try.prog 41 #[ptr q, .int .i64 f] w (RClearP w q G st f) := by
  have e0 : layE st.n f 0 zsS = clE st.n f := by
    unfold layE clE
    by_cases h1 : f < 0 ∨ (st.n : Int) ≤ f
    · rw [if_pos h1, if_pos h1]
    · rw [if_neg h1, if_neg h1, if_neg]
      rw [zsS_size]
      omega
  refine rClear_go q G _ w f _ (Lib.hid fun W hW => ?_)
  have h1 := rLay_any q G st W f 0 zsS (h.to hW (by simp) (by simp)) (by rw [zsS_size]; simp [maxLen])
  unfold RLayP at h1
  have e1 : (0 : Int).toNat = 0 := rfl
  have e2 : zsS.data.toList = zs256 := by simp [zsS]
  rw [e0, e1, e2, Nat.add_zero] at h1
  exact h1
end Go.Proofs.Ytdkihajajdhpnaa
