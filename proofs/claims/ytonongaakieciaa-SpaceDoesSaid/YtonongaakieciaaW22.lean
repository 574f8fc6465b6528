/- The reference's memories: noughts, Frame, Lay, Clear. The reference's Write and Read. The reference's Read. The reference's word, Load, Store. The reference's New. -/
import Derived.Test.YtonongaakieciaaB5
import Derived.StillTailTactics
import Derived.Deep.RegionHeld3
import Derived.Deep.AppendLies
import Derived.Deep.DrawnRows
import Derived.Laws.BytesArg
namespace Go.Proofs.Ytonongaakieciaa
open Go.RowKit
set_option linter.unusedVariables false
set_option maxRecDepth 100000
set_option linter.unusedSimpArgs false
/-- A memory of the reference. -/
structure RMem (w : World) (q G : Nat) (st : St) : Prop where
  hd : RHd w q G st.n
  fr : ∃ cs, Blk w G 9 cs ∧ ∀ i, i < st.n → cs[i]? = some (.string (frS st i))
theorem RMem.to {S : List Nat} {w w' : World} {q G : Nat} {st : St} (h : RMem w q G st) (hf : Fr S w w') (hp : q ∉ S) (hG : G ∉ S) : RMem w' q G st := by
  obtain ⟨hd, cs, hb, hc⟩ := h
  exact ⟨hd.fr hf hp, cs, hb.fr hf hG, hc⟩
theorem RMem.ltG {w : World} {q G : Nat} {st : St} (h : RMem w q G st) : G < w.heap.size := by
  obtain ⟨hd, cs, hb, hc⟩ := h
  exact hb.lt
theorem RMem.ne {w : World} {q G : Nat} {st : St} (h : RMem w q G st) : q ≠ G := by
  obtain ⟨⟨⟨cap, hb', _⟩, _⟩, cs, hb, hc⟩ := h
  exact hb'.ne_ hb (by decide)
theorem RMem.cell {w : World} {q G : Nat} {st : St} (h : RMem w q G st) {f : Nat} (hf : f < st.n) : w.cell? ⟨G, f, none⟩ = some (.string (frS st f)) := by
  obtain ⟨hd, cs, hb, hc⟩ := h
  rw [hb.cell]
  exact hc f hf
theorem RMem.frozen {w : World} {q G : Nat} {st : St} (h : RMem w q G st) (j : Nat) : w.frozen? ⟨G, j, none⟩ = false := by
  obtain ⟨hd, cs, hb, hc⟩ := h
  exact hb.frozen j
/-- Zeros as a text. -/
def zsS : ByteArray := ⟨zs256.toArray⟩
theorem made_zs : ∃ Z : Array Value, (∀ j, j < 256 → Z[j]? = some (.int .u8 0)) ∧ ∀ w : World, (Instr.makeSlice 118 (.int .i64 256) (.int .i64 256)).run Try.prog w = .ok (.slice (some ⟨w.heap.size, 0, none⟩) 256 256) (w.alloc (.cells Z 5)) := by
  obtain ⟨i0, hi0, hz0, hz1, hz2⟩ := info3 Try.info5
  refine ⟨madeCells (Value.int .u8 0).cells (256 * i0.size), fun j hj => ?_, fun w => ?_⟩
  · rw [hz1]
    have h3 : (Value.int .u8 0).cells = #[.int .u8 0] := rfl
    rw [h3]
    simp [madeCells, hj, Nat.mod_one]
  · have := run_make (P := Try.prog) w 118 5 i0 _ Try.underlying118 hi0 hz0 .i64 .i64 256 256 (by omega) (by omega) (by rw [hz2]; omega) (by omega)
    simpa using this
theorem zs256_at {j : Nat} {c : UInt8} (h : zs256[j]? = some c) : c = 0 ∧ j < 256 := by
  have h1 := (List.getElem?_eq_some_iff.1 h).1
  rw [zs256_len] at h1
  refine ⟨?_, h1⟩
  unfold zs256 at h
  rw [List.getElem?_replicate, if_pos h1] at h
  injection h with h
  exact h.symm
theorem noughts_any (w : World) : Calls Try.prog 79 #[.int .i64 256] w fun e w' => e = .returned (.string zsS) ∧ Fr [] w w' := by
  obtain ⟨Z, hZ, hmk⟩ := made_zs
  have hcv : (convert 118 9 (.slice (some ⟨w.heap.size, 0, none⟩) 256 256)).run Try.prog (w.alloc (.cells Z 5)) = .ok (.string zsS) (w.alloc (.cells Z 5)) :=
    conv_list zs256 zs256_len (fun j c hj => by
      obtain ⟨rfl, hlt⟩ := zs256_at hj
      rw [Nat.zero_add, (Blk.new w 5 Z).cell, hZ j hlt]
      rfl)
  have HZ := Lib.hid hZ
  clear hZ
  generalize zsS = ZS at *
  go_enter Try.func79, Try.ntmps79
  go_wp2
  go_ret
  exact ⟨rfl, (Fr.refl [] w).alloc _⟩
theorem rFrame_bad (q G : Nat) (st : St) (w : World) (f : Int) (h : RMem w q G st) (hf : f < 0 ∨ (st.n : Int) ≤ f) : Calls Try.prog 71 #[ptr q, .int .i64 f] w fun e w' => e = .returned (.tuple #[.string ⟨#[]⟩, .int .i64 83]) ∧ w = w' := by
  obtain ⟨cap, hc, -, -⟩ := h.hd.cell
  clear h
  rcases hf with hf | hf
  · go_enter Try.func71, Try.ntmps71
    go_wp2
    go_ret2
    exact ⟨rfl, rfl⟩
  · have hf' : ¬ f < 0 := by omega
    go_enter Try.func71, Try.ntmps71
    go_wp2
    go_ret2
    exact ⟨rfl, rfl⟩
theorem rFrame_ok (q G : Nat) (st : St) (w : World) (f : Nat) (h : RMem w q G st) (hf : f < st.n) : Calls Try.prog 71 #[ptr q, .int .i64 f] w fun e w' => e = .returned (.tuple #[.string (frS st f), .int .i64 0]) ∧ w = w' := by
  obtain ⟨cap, hc, -, -⟩ := h.hd.cell
  have c0 := h.cell hf
  have hf' : ¬ (st.n : Int) ≤ (f : Int) := by omega
  have hf2 : (f : Int) < (st.n : Int) := by omega
  generalize frS st f = FS at *
  clear h
  go_enter Try.func71, Try.ntmps71
  go_wp2
  go_ret2
  exact ⟨rfl, rfl⟩
/-- A frame with bytes laid into it, as a text. -/
theorem lay_str (st : St) (f a : Nat) (s : ByteArray) (ha : a + s.size ≤ 256) : (frS st f).extract 0 a ++ s ++ (frS st f).extract (a + s.size) 256 = frS ⟨st.n, putL st.b (f * 256 + a) s.data.toList⟩ f := by
  apply ByteArray.ext
  apply Array.ext'
  apply List.ext_getElem?
  intro i
  have hsl : s.data.toList.length = s.size := rfl
  simp only [ByteArray.data_append, ByteArray.data_extract, Array.toList_append, Array.toList_extract, frS_list, List.extract]
  have hL : (frB st f).length = 256 := frB_len st f
  simp only [Nat.sub_zero, List.drop_zero]
  by_cases h1 : i < a
  · rw [List.getElem?_append_left (by simp; omega), List.getElem?_append_left (by simp; omega), List.getElem?_take, if_pos h1, frB_at _ _ _ (by omega), frB_at _ _ _ (by omega)]
    show some (st.b (f * 256 + i)) = some (putL st.b (f * 256 + a) s.data.toList (f * 256 + i))
    rw [putL_out _ _ _ _ (by omega)]
  · by_cases h2 : i < a + s.size
    · rw [List.getElem?_append_left (by simp; omega), List.getElem?_append_right (by simp; omega)]
      have hi : i - ((frB st f).take a).length = i - a := by rw [List.length_take]; congr 1; omega
      rw [hi, frB_at _ _ _ (by omega)]
      obtain ⟨c, hc⟩ : ∃ c, s.data.toList[i - a]? = some c := ⟨_, List.getElem?_eq_getElem (by omega)⟩
      rw [hc]
      show some c = some (putL st.b (f * 256 + a) s.data.toList (f * 256 + i))
      have := putL_in s.data.toList st.b (f * 256 + a) (i - a) c hc
      rw [show f * 256 + a + (i - a) = f * 256 + i from by omega] at this
      rw [this]
    · rw [List.getElem?_append_right (by simp; omega)]
      have hi : i - ((frB st f).take a ++ s.data.toList).length = i - (a + s.size) := by rw [List.length_append, List.length_take]; omega
      rw [hi, List.getElem?_take]
      by_cases h3 : i < 256
      · rw [if_pos (by omega), List.getElem?_drop, show a + s.size + (i - (a + s.size)) = i from by omega, frB_at _ _ _ h3, frB_at _ _ _ h3]
        show some (st.b (f * 256 + i)) = some (putL st.b (f * 256 + a) s.data.toList (f * 256 + i))
        rw [putL_out _ _ _ _ (by omega)]
      · rw [if_neg (by omega)]
        symm
        exact List.getElem?_eq_none (by rw [frB_len]; omega)
theorem lay_other (st : St) (f a i : Nat) (s : ByteArray) (ha : a + s.size ≤ 256) (hi : i ≠ f) : frS ⟨st.n, putL st.b (f * 256 + a) s.data.toList⟩ i = frS st i := by
  have hsl : s.data.toList.length = s.size := rfl
  have : frB ⟨st.n, putL st.b (f * 256 + a) s.data.toList⟩ i = frB st i := by
    unfold frB
    refine List.map_congr_left (fun j hj => ?_)
    have := List.mem_range.1 hj
    exact putL_out _ _ _ _ (by omega)
  unfold frS
  rw [this]
theorem RMem.put {w : World} {q G : Nat} {st : St} (h : RMem w q G st) {f a : Nat} {s : ByteArray} (hf : f < st.n) (ha : a + s.size ≤ 256) :
    RMem (w.setCell ⟨G, f, none⟩ (.string (frS ⟨st.n, putL st.b (f * 256 + a) s.data.toList⟩ f))) q G ⟨st.n, putL st.b (f * 256 + a) s.data.toList⟩ := by
  have hne := h.ne
  obtain ⟨hd, cs, hb, hc⟩ := h
  refine ⟨hd.fr ((Fr.refl [G] w).setCell (.inl (by simp)) _) (by simpa using hne), _, hb.set_ _ _, fun i hi => ?_⟩
  have hi' : i < st.n := hi
  by_cases hif : i = f
  · subst hif
    rw [Array.getElem?_setIfInBounds_self_of_lt (Array.getElem?_eq_some_iff.1 (hc i hi')).1]
  · rw [Array.getElem?_setIfInBounds_ne (by omega), hc i hi', lay_other st f a i s ha hif]
def RLayP (w : World) (q G : Nat) (st : St) (f a : Int) (s : ByteArray) (e : Ending) (w' : World) : Prop :=
  e = .returned (.int .i64 (layE st.n f a s)) ∧ RMem w' q G (if layE st.n f a s = 0 then ⟨st.n, putL st.b (f.toNat * 256 + a.toNat) s.data.toList⟩ else st) ∧ Fr [G] w w'
set_option maxRecDepth 100000 in
set_option maxHeartbeats 400000 in
theorem rLay_bad (q G : Nat) (st : St) (w : World) (f a : Int) (s : ByteArray) (h : RMem w q G st) (hs : s.size ≤ maxLen) (hb : (f < 0 ∨ (st.n : Int) ≤ f) ∨ (a < 0 ∨ 256 < a ∨ 256 - a < s.size)) :
    Calls Try.prog 43 #[ptr q, .int .i64 f, .int .i64 a, .string s] w fun e w' => e = .returned (.int .i64 (layE st.n f a s)) ∧ w = w' := by
  obtain ⟨cap, hc, -, -⟩ := h.hd.cell
  have e0 : (if f < 0 ∨ (st.n : Int) ≤ f then (83 : Int) else 80) = layE st.n f a s := by
    unfold layE
    by_cases h1 : f < 0 ∨ (st.n : Int) ≤ f
    · rw [if_pos h1, if_pos h1]
    · rw [if_neg h1, if_neg h1, if_pos (hb.resolve_left h1)]
  have E := Lib.hid e0
  clear h e0
  obtain ⟨N, hN⟩ : ∃ N, s.size = N := ⟨_, rfl⟩
  rw [hN] at hb hs
  simp only [maxLen] at hs
  generalize st.n = M at *
  by_cases h1 : f < 0
  · rw [if_pos (.inl h1)] at E
    go_enter Try.func43, Try.ntmps43
    go_wp2
    go_ret
    exact ⟨ret_int E.out, rfl⟩
  · by_cases h2 : (M : Int) ≤ f
    · rw [if_pos (.inr h2)] at E
      go_enter Try.func43, Try.ntmps43
      go_wp2
      go_ret
      exact ⟨ret_int E.out, rfl⟩
    · rw [if_neg (by omega)] at E
      have hb' := hb.resolve_left (by omega)
      by_cases h3 : a < 0
      · clear hb hb'
        go_enter Try.func43, Try.ntmps43
        go_wp2
        go_ret
        exact ⟨ret_int E.out, rfl⟩
      · by_cases h4 : 256 < a
        · clear hb hb'
          go_enter Try.func43, Try.ntmps43
          go_wp2
          go_ret
          exact ⟨ret_int E.out, rfl⟩
        · have h5 : 256 - a < (N : Int) := by omega
          clear hb hb'
          go_enter Try.func43, Try.ntmps43
          go_wp2
          go_ret
          exact ⟨ret_int E.out, rfl⟩
set_option maxRecDepth 100000 in
set_option maxHeartbeats 400000 in
theorem rLay_ok (q G : Nat) (st : St) (w : World) (f a : Nat) (s : ByteArray) (h : RMem w q G st) (hf : f < st.n) (ha : a + s.size ≤ 256) :
    Calls Try.prog 43 #[ptr q, .int .i64 f, .int .i64 a, .string s] w fun e w' => e = .returned (.int .i64 0) ∧ RMem w' q G ⟨st.n, putL st.b (f * 256 + a) s.data.toList⟩ ∧ Fr [G] w w' := by
  obtain ⟨cap, hc, hcap, hcm⟩ := h.hd.cell
  have c0 := h.cell hf
  have hfz : w.drew.frozen? ⟨G, f, none⟩ = false := h.frozen f
  have HP := Lib.hid ((h.put hf ha).to ((Fr.refl [] _).drew) (by simp) (by simp))
  have HF : Hid (Fr [G] w (w.setCell ⟨G, f, none⟩ (.string (frS ⟨st.n, putL st.b (f * 256 + a) s.data.toList⟩ f))).drew) := Lib.hid (((Fr.refl [G] w).setCell (.inl (by simp)) _).drew)
  have hls := Lib.hid (lay_str st f a s ha)
  have hFs := frS_size st f
  generalize frS ⟨st.n, putL st.b (f * 256 + a) s.data.toList⟩ f = NS at *
  generalize frS st f = FS at *
  generalize (⟨st.n, putL st.b (f * 256 + a) s.data.toList⟩ : St) = st1 at *
  have h1 : (f : Int) < (st.n : Int) := by omega
  have h2 : (0 : Int) ≤ (f : Int) := by omega
  obtain ⟨N, hN⟩ : ∃ N, s.size = N := ⟨_, rfl⟩
  rw [hN] at ha hls
  have h3 : ¬ (256 : Int) < (a : Int) := by omega
  have h4 : ¬ (256 : Int) - (a : Int) < (N : Int) := by omega
  have h5 : (a : Int) ≤ 256 := by omega
  have h6 : (0 : Int) ≤ (a : Int) := by omega
  have h7 : (a : Int) + (N : Int) ≤ 256 := by omega
  have h8 : (0 : Int) ≤ (a : Int) + (N : Int) := by omega
  clear h
  generalize st.n = M at *
  go_enter Try.func43, Try.ntmps43
  go_wp2_with fail
  have hsum : IntKind.i64.wrap ((a : Int) + (N : Int)) = (a : Int) + (N : Int) := IntWalk.i64_in _ (by omega)
  have hnt : ((a : Int) + (N : Int)).toNat = a + N := by omega
  have hmin : min a 256 = a := by omega
  have hc1 : ¬ 9223372036854775807 < a + N := by omega
  go_still_tail 30, (by kernel_rfl)
  change wpList _ _ _ _ _ w.drew
  go_wp2_with fail
  go_ret
  have hls' := hls.out
  subst hls'
  exact ⟨rfl, HP.out, HF.out⟩
theorem rLay_any (q G : Nat) (st : St) (w : World) (f a : Int) (s : ByteArray) (h : RMem w q G st) (hs : s.size ≤ maxLen) : Calls Try.prog 43 #[ptr q, .int .i64 f, .int .i64 a, .string s] w (RLayP w q G st f a s) := by
  by_cases hb : (f < 0 ∨ (st.n : Int) ≤ f) ∨ (a < 0 ∨ 256 < a ∨ 256 - a < s.size)
  · refine (rLay_bad q G st w f a s h hs hb).mono fun e w' ⟨he, hw⟩ => ?_
    subst hw
    refine ⟨he, ?_, Fr.refl _ _⟩
    have hne : layE st.n f a s ≠ 0 := by
      unfold layE
      rcases hb with h1 | h1
      · rw [if_pos h1]; omega
      · split
        · omega
        · first | omega | (rw [if_pos h1]; omega)
    rw [if_neg hne]
    exact h
  · obtain ⟨f', rfl⟩ := Int.eq_ofNat_of_zero_le (by omega : 0 ≤ f)
    obtain ⟨a', rfl⟩ := Int.eq_ofNat_of_zero_le (by omega : 0 ≤ a)
    have h0 : layE st.n f' a' s = 0 := by
      unfold layE
      rw [if_neg (by omega), if_neg (by omega)]
    refine (rLay_ok q G st w f' a' s h (by omega) (by omega)).mono fun e w' ⟨he, hm, hf⟩ => ⟨by rw [h0]; exact he, ?_, hf⟩
    rw [if_pos h0]
    exact hm
def RClearP (w : World) (q G : Nat) (st : St) (f : Int) (e : Ending) (w' : World) : Prop :=
  e = .returned (.int .i64 (clE st.n f)) ∧ RMem w' q G (if clE st.n f = 0 then ⟨st.n, putL st.b (f.toNat * 256) zs256⟩ else st) ∧ Fr [G] w w'
theorem zsS_size : zsS.size = 256 := zs256_len
set_option maxHeartbeats 400000 in
theorem rClear_go (q G : Nat) (st1 : St) (w : World) (f e1 : Int) (HL : Hid (∀ W, Fr [] w W → Calls Try.prog 43 #[ptr q, .int .i64 f, .int .i64 0, .string zsS] W fun e w' => e = .returned (.int .i64 e1) ∧ RMem w' q G st1 ∧ Fr [G] W w')) :
    Calls Try.prog 64 #[ptr q, .int .i64 f] w fun e w' => e = .returned (.int .i64 e1) ∧ RMem w' q G st1 ∧ Fr [G] w w' := by
  have Hz := Lib.hid (noughts_any w)
  generalize zsS = ZS at *
  go_enter Try.func64, Try.ntmps64
  go_wp2_with (first
    | (go_at_call 79; go_must ((with_reducible refine Hz.out.mono ?_); rintro e w1 ⟨rfl, hf1⟩))
    | (go_at_call 43; go_must ((with_reducible refine (HL.out _ hf1).mono ?_); rintro e w2 ⟨rfl, hm2, hf2⟩))
    | fail)
  go_ret
  exact ⟨rfl, hm2, (hf1.mono (by simp)).trans hf2⟩
theorem rClear_any (q G : Nat) (st : St) (w : World) (f : Int) (h : RMem w q G st) : Calls Try.prog 64 #[ptr q, .int .i64 f] w (RClearP w q G st f) := by
  have e0 : layE st.n f 0 zsS = clE st.n f := by
    unfold layE clE
    by_cases h1 : f < 0 ∨ (st.n : Int) ≤ f
    · rw [if_pos h1, if_pos h1]
    · rw [if_neg h1, if_neg h1, if_neg]
      rw [zsS_size]
      omega
  refine rClear_go q G _ w f _ (Lib.hid fun W hW => ?_)
  have h1 := rLay_any q G st W f 0 zsS (h.to hW (by simp) (by simp)) (by rw [zsS_size]; simp [maxLen])
  unfold RLayP at h1
  have e1 : (0 : Int).toNat = 0 := rfl
  have e2 : zsS.data.toList = zs256 := by simp [zsS]
  rw [e0, e1, e2, Nat.add_zero] at h1
  exact h1
end Go.Proofs.Ytonongaakieciaa
namespace Go.Proofs.Ytonongaakieciaa
open Go.RowKit
set_option linter.unusedVariables false
set_option maxRecDepth 100000
set_option linter.unusedSimpArgs false
theorem rCheck_no (b q G n m cap : Nat) (A : Option Addr) (t : List Pg) (w : World) (ht : Tb w b (.slice A m cap) t) (h : RHd w q G n) (hT : okT n t = false) :
    Calls Try.prog 92 #[ptr q, .slice A m cap] w fun e w' => e = .returned (.int .i64 84) ∧ Fr [] w w' :=
  (rCheck_any b q G n m cap A t w ht h).mono fun e w' ⟨he, hf⟩ => ⟨by rw [he, chT_no hT], hf⟩
theorem rCheck_ok (b q G n m cap : Nat) (A : Option Addr) (t : List Pg) (w : World) (ht : Tb w b (.slice A m cap) t) (h : RHd w q G n) (hT : okT n t = true) :
    Calls Try.prog 92 #[ptr q, .slice A m cap] w fun e w' => e = .returned (.int .i64 0) ∧ Fr [] w w' :=
  (rCheck_any b q G n m cap A t w ht h).mono fun e w' ⟨he, hf⟩ => ⟨by rw [he, chT_ok hT], hf⟩
def RWriteP (w : World) (q G : Nat) (st : St) (t : List Pg) (a : Int) (s : ByteArray) (e : Ending) (w' : World) : Prop :=
  e = .returned (.int .i64 (wrE st t a s)) ∧ RMem w' q G (wrS st t a s) ∧ Fr [G] w w'
set_option maxRecDepth 100000 in
set_option maxHeartbeats 400000 in
theorem rWrite_no (b q G m cap : Nat) (st : St) (A : Option Addr) (t : List Pg) (a : Int) (s : ByteArray) (w : World) (ht : Tb w b (.slice A m cap) t) (h : RMem w q G st) (hT : okT st.n t = false) :
    Calls Try.prog 66 #[ptr q, .slice A m cap, .int .i64 a, .string s] w fun e w' => e = .returned (.int .i64 84) ∧ Fr [] w w' := by
  have Hc := Lib.hid (rCheck_no b q G st.n m cap A t w ht h.hd hT)
  clear h ht hT
  go_enter Try.func66, Try.ntmps66
  go_wp2_with (go_at_call 92; go_must ((with_reducible refine Hc.out.mono ?_); rintro e w1 ⟨rfl, hf1⟩))
  go_ret
  exact ⟨rfl, hf1⟩
set_option maxRecDepth 100000 in
set_option maxHeartbeats 400000 in
theorem rWrite_long (b q G m cap : Nat) (st : St) (A : Option Addr) (t : List Pg) (a : Int) (s : ByteArray) (w : World) (ht : Tb w b (.slice A m cap) t) (h : RMem w q G st) (hT : okT st.n t = true) (hs : 4096 < s.size) :
    Calls Try.prog 66 #[ptr q, .slice A m cap, .int .i64 a, .string s] w fun e w' => e = .returned (.int .i64 80) ∧ Fr [] w w' := by
  have Hc := Lib.hid (rCheck_ok b q G st.n m cap A t w ht h.hd hT)
  have d1 : (4096 : Int) < (s.size : Int) := by omega
  clear h ht hT
  go_enter Try.func66, Try.ntmps66
  go_wp2_with (go_at_call 92; go_must ((with_reducible refine Hc.out.mono ?_); rintro e w1 ⟨rfl, hf1⟩))
  go_ret
  exact ⟨rfl, hf1⟩
theorem sub_one (s : ByteArray) (k : Nat) (hk : k < s.size) : s.extract k (k + 1) = ⟨#[s[k]]⟩ := by
  apply ByteArray.ext
  apply Array.ext'
  have h3 : s[k] = s.data[k] := rfl
  simp only [ByteArray.data_extract, Array.toList_extract, List.extract]
  have hl : k < s.data.toList.length := by simpa using hk
  rw [show k + 1 - k = 1 from by omega, List.drop_eq_getElem_cons hl, h3]
  simp
set_option maxRecDepth 100000 in
set_option maxHeartbeats 1000000 in
theorem rWrite_main (b q G m cap : Nat) (st : St) (A : Option Addr) (t : List Pg) (a : Int) (s : ByteArray) (w : World) (ht : Tb w b (.slice A m cap) t) (h : RMem w q G st) (hT : okT st.n t = true) (hn : s.size ≤ 4096) (ha : a ≤ 9223372036854775807) (hbG : b ≠ G) :
    Calls Try.prog 66 #[ptr q, .slice A m cap, .int .i64 a, .string s] w fun e w' => e = .returned (.int .i64 (thr t 2 a s.size)) ∧ RMem w' q G (if thr t 2 a s.size = 0 then ⟨st.n, wrB t st.b a s.data.toList⟩ else st) ∧ Fr [G] w w' := by
  have hm16 : m ≤ 16 := by have := okT_len hT; have := ht.n_eq; omega
  have Hc := Lib.hid (rCheck_ok b q G st.n m cap A t w ht h.hd hT)
  have Hth := Lib.hid fun W (hf : Fr [] w W) => there_any b m cap A t W a 2 s.size (ht.fr hf (by simp)) hm16 hn ha
  have HT := Lib.hid ht
  have HM := Lib.hid h
  have HTT := Lib.hid hT
  have hmt := Lib.hid ht.n_eq
  have d1 : ¬ (4096 : Int) < (s.size : Int) := by omega
  clear h ht hT
  by_cases h0 : thr t 2 a s.size = 0
  · have Hch := Lib.hid (thr_of_zero h0)
    rw [h0] at Hth
    rw [h0, if_pos rfl]
    clear h0
    go_enter Try.func66, Try.ntmps66
    go_wp2_with (first
      | (go_at_call 92; go_must ((with_reducible refine Hc.out.mono ?_); rintro e w1 ⟨rfl, hf1⟩))
      | (go_at_call 93; go_must ((with_reducible refine (Hth.out _ hf1).mono ?_); rintro e w2 ⟨rfl, hf2⟩))
      | fail)
    have HF2 := Lib.hid (hf1.trans hf2)
    have HM2 := Lib.hid (HM.out.to HF2.out (by simp) (by simp))
    clear hf1 hf2
    go_loopg [10] s.size (fun gg i wr => ∃ k : Nat, k + gg = s.size ∧ i = .int .i64 k ∧ RMem wr q G ⟨st.n, wrB t st.b a (s.data.toList.take k)⟩ ∧ Fr [G] w2 wr)
    case atStart => exact ⟨0, by omega, rfl, HM2.out, Fr.refl _ _⟩
    case round =>
      obtain ⟨k, hk, rfl, hM, hf⟩ := hrel
      have Hk := Lib.hid hk
      have Hf := Lib.hid hf
      by_cases hlt : k < s.size
      · have hki : (k : Int) < (s.size : Int) := by omega
        have hk0 : (0 : Int) ≤ (k : Int) := by omega
        obtain ⟨a', _, ha', -⟩ := ch1_wr HTT.out (Hch.out 0 (by omega))
        obtain ⟨q', pg, hq, hql, hpg, f0, f1, r0, r7, -, hloc⟩ := ch1_wr HTT.out (Hch.out k hlt)
        obtain rfl : a = (a' : Int) := by omega
        obtain rfl : q' = a' + k := by omega
        obtain ⟨f, hpf⟩ := Int.eq_ofNat_of_zero_le f0
        obtain ⟨off, rfl, hbl, c0, c1⟩ := ((HT.out.fr HF2.out (by simp)).fr hf (by simpa using hbG)).at_ hpg
        rw [hpf] at c0 hloc
        have hsub := sub_one s k hlt
        have hB := wrB_take (t := t) (b := st.b) (a := (a' : Int)) hlt
        rw [hloc] at hB
        have HL : Hid (∀ W, Fr [] wr W → Calls Try.prog 43 #[ptr q, .int .i64 f, .int .i64 ((a' + k) % 256 : Nat), .string (s.extract k (k + 1))] W fun e w' => e = .returned (.int .i64 0) ∧ RMem w' q G ⟨st.n, wrB t st.b a' (s.data.toList.take (k + 1))⟩ ∧ Fr [G] W w') := by
          refine Lib.hid fun W hW => ?_
          rw [hsub]
          refine (rLay_ok q G _ W f ((a' + k) % 256) ⟨#[s[k]]⟩ (hM.to hW (by simp) (by simp)) (by show f < st.n; omega) (by show _ + 1 ≤ 256; omega)).mono fun e w' ⟨he, hm, hf⟩ => ⟨he, ?_, hf⟩
          have e1 : putL (wrB t st.b a' (s.data.toList.take k)) (f * 256 + (a' + k) % 256) [s[k]] = wrB t st.b a' (s.data.toList.take (k + 1)) := by
            rw [hB]
            rfl
          have e2 : (⟨#[s[k]]⟩ : ByteArray).data.toList = [s[k]] := rfl
          rw [e2, e1] at hm
          exact hm
        have hd0 : (0 : Int) ≤ (a' : Int) + (k : Int) := by omega
        have hd1 : (a' : Int) + (k : Int) < 4096 := by have := okT_len HTT.out; omega
        have hm0 := hmt.out
        have hd2 : ((a' : Int) + (k : Int)) / 256 < (m : Int) := by omega
        have hd3 : (0 : Int) ≤ ((a' : Int) + (k : Int)) / 256 := by omega
        have hdt : (((a' : Int) + (k : Int)) / 256).toNat = (a' + k) / 256 := by omega
        have hmd' : (((a' + k) % 256 : Nat) : Int) = ((a' : Int) + (k : Int)) % 256 := by omega
        rw [hmd'] at HL
        clear hk hf hM hq hql hpg hloc hpf hbl hB hsub hm0 hmd' f0 f1 r0 r7
        go_wp2_with fail
        have hsum : IntKind.i64.wrap ((a' : Int) + (k : Int)) = (a' : Int) + (k : Int) := IntWalk.i64_in _ (by omega)
        have hdv : IntKind.i64.wrap (((a' : Int) + (k : Int)).tdiv 256) = ((a' : Int) + (k : Int)) / 256 := by rw [Int.tdiv_eq_ediv_of_nonneg hd0]; exact IntWalk.i64_in _ (by omega)
        have hmd : ((a' : Int) + (k : Int)).tmod 256 = ((a' : Int) + (k : Int)) % 256 := Int.tmod_eq_emod_of_nonneg hd0
        have hk1 : IntKind.i64.wrap ((k : Int) + 1) = (k : Int) + 1 := IntWalk.i64_in _ (by omega)
        have hk1n : ((k : Int) + 1).toNat = k + 1 := by omega
        have hk2 : (k : Int) + 1 ≤ (s.size : Int) := by omega
        have hk3 : (k : Int) ≤ (k : Int) + 1 := by omega
        go_still_tail 18, (by kernel_rfl)
        change wpList _ _ _ _ _ wr.drew
        go_wp2_with (go_at_call 43; go_must ((with_reducible refine (HL.out _ ((Fr.refl [] wr).drew)).mono ?_); rintro e w3 ⟨rfl, hm3, hf3⟩; have hf4 := Hf.out.drew.trans hf3))
        go_roundg (s.size - (k + 1))
        case measure => have := Hk.out; omega
        case rel => exact ⟨k + 1, by have := Hk.out; omega, by go_num, hm3, hf4⟩
      · have hki : ¬ (k : Int) < (s.size : Int) := by omega
        have hks : s.data.toList.take k = s.data.toList := List.take_of_length_le (by have : s.data.toList.length = s.size := rfl; omega)
        rw [hks] at hM
        have HMf := Lib.hid hM
        clear hk hf hM hks
        go_wp2_with fail
        go_ret
        exact ⟨rfl, HMf.out, (HF2.out.mono (by simp)).trans Hf.out⟩
  · rw [if_neg h0]
    have h0b : (thr t 2 a s.size != 0) = true := by rw [bne_iff_ne]; exact h0
    generalize thr t 2 a s.size = E at *
    clear h0
    go_enter Try.func66, Try.ntmps66
    go_wp2_with (first
      | (go_at_call 92; go_must ((with_reducible refine Hc.out.mono ?_); rintro e w1 ⟨rfl, hf1⟩))
      | (go_at_call 93; go_must ((with_reducible refine (Hth.out _ hf1).mono ?_); rintro e w2 ⟨rfl, hf2⟩))
      | fail)
    go_ret
    exact ⟨rfl, HM.out.to (hf1.trans hf2) (by simp) (by simp), (hf1.trans hf2).mono (by simp)⟩
theorem rWrite_any (b q G m cap : Nat) (st : St) (A : Option Addr) (t : List Pg) (a : Int) (s : ByteArray) (w : World) (ht : Tb w b (.slice A m cap) t) (h : RMem w q G st) (ha : a ≤ 9223372036854775807) (hbG : b ≠ G) :
    Calls Try.prog 66 #[ptr q, .slice A m cap, .int .i64 a, .string s] w (RWriteP w q G st t a s) := by
  cases hT : okT st.n t with
  | false =>
    refine (rWrite_no b q G m cap st A t a s w ht h hT).mono fun e w' ⟨he, hf⟩ => ?_
    have e0 : wrE st t a s = 84 := by unfold wrE; rw [if_pos hT]
    refine ⟨by rw [he, e0], ?_, hf.mono (by simp)⟩
    unfold wrS
    rw [e0, if_neg (by omega)]
    exact h.to hf (by simp) (by simp)
  | true =>
    by_cases hs : 4096 < s.size
    · refine (rWrite_long b q G m cap st A t a s w ht h hT hs).mono fun e w' ⟨he, hf⟩ => ?_
      have e0 : wrE st t a s = 80 := by unfold wrE; rw [if_neg (by rw [hT]; simp), if_pos hs]
      refine ⟨by rw [he, e0], ?_, hf.mono (by simp)⟩
      unfold wrS
      rw [e0, if_neg (by omega)]
      exact h.to hf (by simp) (by simp)
    · refine (rWrite_main b q G m cap st A t a s w ht h hT (by omega) ha hbG).mono fun e w' ⟨he, hm, hf⟩ => ?_
      have e0 : wrE st t a s = thr t 2 a s.size := by unfold wrE; rw [if_neg (by rw [hT]; simp), if_neg hs]
      refine ⟨by rw [he, e0], ?_, hf⟩
      unfold wrS
      rw [e0]
      exact hm
end Go.Proofs.Ytonongaakieciaa
namespace Go.Proofs.Ytonongaakieciaa
open Go.RowKit
set_option linter.unusedVariables false
set_option maxRecDepth 100000
set_option linter.unusedSimpArgs false
attribute [local go_sem ↓] Go.wp_at_zero Go.wp_at_succ
def RReadP (w : World) (st : St) (t : List Pg) (a n r : Int) (e : Ending) (w' : World) : Prop :=
  e = .returned (.tuple #[.string ⟨(rdR st t a n r).1.toArray⟩, .int .i64 (rdR st t a n r).2]) ∧ Fr [] w w'
set_option maxRecDepth 100000 in
set_option maxHeartbeats 400000 in
theorem rRead_no (b q G m cap : Nat) (st : St) (A : Option Addr) (t : List Pg) (a n r : Int) (w : World) (ht : Tb w b (.slice A m cap) t) (h : RMem w q G st) (hT : okT st.n t = false) :
    Calls Try.prog 65 #[ptr q, .slice A m cap, .int .i64 a, .int .i64 n, .int .i64 r] w fun e w' => e = .returned (.tuple #[.string ⟨#[]⟩, .int .i64 84]) ∧ Fr [] w w' := by
  have Hc := Lib.hid (rCheck_no b q G st.n m cap A t w ht h.hd hT)
  clear h ht hT
  go_enter Try.func65, Try.ntmps65
  go_wp2_with (go_at_call 92; go_must ((with_reducible refine Hc.out.mono ?_); rintro e w1 ⟨rfl, hf1⟩))
  go_ret2
  exact ⟨rfl, hf1⟩
set_option maxRecDepth 100000 in
set_option maxHeartbeats 800000 in
theorem rRead_size (b q G m cap : Nat) (st : St) (A : Option Addr) (t : List Pg) (a n r : Int) (w : World) (ht : Tb w b (.slice A m cap) t) (h : RMem w q G st) (hT : okT st.n t = true) (hs : n < 0 ∨ 4096 < n ∨ (r ≠ 1 ∧ r ≠ 4)) :
    Calls Try.prog 65 #[ptr q, .slice A m cap, .int .i64 a, .int .i64 n, .int .i64 r] w fun e w' => e = .returned (.tuple #[.string ⟨#[]⟩, .int .i64 80]) ∧ Fr [] w w' := by
  have Hc := Lib.hid (rCheck_ok b q G st.n m cap A t w ht h.hd hT)
  clear h ht hT
  by_cases h1 : n < 0
  · clear hs
    go_enter Try.func65, Try.ntmps65
    go_wp2_with (go_at_call 92; go_must ((with_reducible refine Hc.out.mono ?_); rintro e w1 ⟨rfl, hf1⟩))
    go_ret2
    exact ⟨rfl, hf1⟩
  · by_cases h2 : 4096 < n
    · clear hs
      go_enter Try.func65, Try.ntmps65
      go_wp2_with (go_at_call 92; go_must ((with_reducible refine Hc.out.mono ?_); rintro e w1 ⟨rfl, hf1⟩))
      go_ret2
      exact ⟨rfl, hf1⟩
    · have h3 : r ≠ 1 ∧ r ≠ 4 := by omega
      have h4 : (r != 1) = true := by rw [bne_iff_ne]; exact h3.1
      have h5 : (r != 4) = true := by rw [bne_iff_ne]; exact h3.2
      clear hs h3
      go_enter Try.func65, Try.ntmps65
      go_wp2_with (go_at_call 92; go_must ((with_reducible refine Hc.out.mono ?_); rintro e w1 ⟨rfl, hf1⟩))
      go_ret2
      exact ⟨rfl, hf1⟩
/-- The bytes that are read, as values. -/
def rdV (st : St) (t : List Pg) (a : Int) (k : Nat) : List Value := (List.range k).map fun (i : Nat) => bv (st.b (loc t (a + (i : Int))))
theorem rdV_succ (st : St) (t : List Pg) (a : Int) (k : Nat) : rdV st t a (k + 1) = rdV st t a k ++ [bv (st.b (loc t (a + (k : Int))))] := by
  unfold rdV
  rw [List.range_succ, List.map_append]
  rfl
theorem rdV_len (st : St) (t : List Pg) (a : Int) (k : Nat) : (rdV st t a k).length = k := by simp [rdV]
theorem frS_byte {st : St} {f i : Nat} (hi : i < 256) (h : i < (frS st f).size) : (frS st f)[i] = st.b (f * 256 + i) := by
  have h1 := frB_at st f i hi
  have h2 := (List.getElem?_eq_some_iff.1 h1).2
  have h3 : (frS st f)[i] = (frS st f).data[i] := rfl
  rw [h3, ← h2]
  simp [frS]
theorem own_bytes {w : World} {base k c : Nat} {A : Option Addr} {xs : List UInt8} (h : w.ownsRow base 5 1 (.slice A k c) k (xs.map bv)) : (convert 118 9 (.slice A k c)).run Try.prog w = .ok (.string ⟨xs.toArray⟩) w := by
  have hl : xs.length = k := by have := h.1; simpa using this
  rcases h.2 with ⟨h1, h2⟩ | ⟨g, cap, cur, hv, hb, hh, h3, h4, h5, h6⟩
  · subst h2
    have hx : xs = [] := List.eq_nil_of_length_eq_zero hl
    subst hx
    injection h1 with hA hk hc
    subst hA; subst hc
    exact run_convert_bytes_nil w 118 5 Try.underlying118 Try.underlying5 0 0 9 Try.underlying9
  · injection hv with hA _ hc
    subst hA; subst hc
    refine conv_list xs hl (fun j c hj => ?_)
    have hjk : j < k := by have := (List.getElem?_eq_some_iff.1 hj).1; omega
    have h7 : (cur.toList.take (k * 1))[j]? = some (bv c) := by rw [h6, List.getElem?_map, hj]; rfl
    rw [List.getElem?_take, if_pos (by omega)] at h7
    rw [Nat.zero_add, (show Blk w g 5 cur from hh).cell]
    simpa [bv] using h7
set_option maxRecDepth 100000 in
set_option maxHeartbeats 2000000 in
theorem rRead_main (b q G m cap N : Nat) (st : St) (A : Option Addr) (t : List Pg) (a r : Int) (w : World) (ht : Tb w b (.slice A m cap) t) (h : RMem w q G st) (hT : okT st.n t = true) (hn : N ≤ 4096) (hr : r = 1 ∨ r = 4) (ha : a ≤ 9223372036854775807) :
    Calls Try.prog 65 #[ptr q, .slice A m cap, .int .i64 a, .int .i64 N, .int .i64 r] w fun e w' => e = .returned (.tuple #[.string ⟨(if thr t r a N = 0 then (List.range N).map fun (i : Nat) => st.b (loc t (a + (i : Int))) else []).toArray⟩, .int .i64 (thr t r a N)]) ∧ Fr [] w w' := by
  obtain ⟨i0, hi0, hz0, hz1, hz2⟩ := info3 Try.info5
  have hm16 : m ≤ 16 := by have := okT_len hT; have := ht.n_eq; omega
  have Hc := Lib.hid (rCheck_ok b q G st.n m cap A t w ht h.hd hT)
  have Hth := Lib.hid fun W (hf : Fr [] w W) => there_any b m cap A t W a r N (ht.fr hf (by simp)) hm16 hn ha
  have HT := Lib.hid ht
  have HM := Lib.hid h
  have HTT := Lib.hid hT
  have hmt := Lib.hid ht.n_eq
  have d1 : ¬ (N : Int) < 0 := by omega
  have d2 : ¬ (4096 : Int) < (N : Int) := by omega
  have d3 : (r != 1 && r != 4) = false := by rcases hr with rfl | rfl <;> rfl
  have d4 : (r != 1) = true → (r != 4) = false := by rcases hr with rfl | rfl <;> decide
  clear h ht hT
  by_cases h0 : thr t r a N = 0
  · have Hch := Lib.hid (thr_of_zero h0)
    rw [h0] at Hth
    rw [h0, if_pos rfl]
    clear h0
    have hrr : (r = 1 ∧ (r != 1) = false) ∨ (r = 4 ∧ (r != 1) = true ∧ (r != 4) = false) := by rcases hr with rfl | rfl <;> decide
    clear d3 d4
    rcases hrr with ⟨rfl, e1⟩ | ⟨rfl, e1, e2⟩
    all_goals
      clear hr
      go_enter Try.func65, Try.ntmps65
      go_wp2_with (first
        | (go_at_call 92; go_must ((with_reducible refine Hc.out.mono ?_); rintro e w1 ⟨rfl, hf1⟩))
        | (go_at_call 93; go_must ((with_reducible refine (Hth.out _ hf1).mono ?_); rintro e w2 ⟨rfl, hf2⟩))
        | fail)
      have HF2 := Lib.hid (hf1.trans hf2)
      have Hm0 := Lib.hid (World.ownsRow_made (base := w2.heap.size) (e := 5) (size := 1) w2 #[] 0 (Nat.le_refl _) (by simp [maxLen]) (by simp))
      have Hf0 := Lib.hid ((Fr.refl [] w2).alloc (.cells #[] 5))
      clear hf1 hf2
      go_loopg [13, 14] N (fun gg x i wr => ∃ (k : Nat) (B : Option Addr) (c : Nat), k + gg = N ∧ i = .int .i64 k ∧ x = .slice B k c ∧ wr.ownsRow w2.heap.size 5 1 (.slice B k c) k (rdV st t a k) ∧ Fr [] w2 wr)
      case atStart => exact ⟨0, _, _, by omega, rfl, rfl, Hm0.out, Hf0.out⟩
      case round =>
        obtain ⟨k, B, c, hk, rfl, rfl, ho, hf⟩ := hrel
        have Hk := Lib.hid hk
        have Hf := Lib.hid hf
        have HO := Lib.hid ho
        by_cases hlt : k < N
        · have hki : (k : Int) < (N : Int) := by omega
          have hk0 : (0 : Int) ≤ (k : Int) := by omega
          have hc0 := Hch.out 0 (by omega)
          have hck := Hch.out k hlt
          obtain ⟨a', ha'⟩ : ∃ a' : Nat, a = (a' : Int) := Int.eq_ofNat_of_zero_le (by
            apply Int.not_lt.1
            intro hneg
            rw [ch1_neg (by omega)] at hc0
            omega)
          subst ha'
          have e0 : (a' : Int) + ((k : Nat) : Int) = ((a' + k : Nat) : Int) := by omega
          rw [e0] at hck
          have hql : a' + k < t.length * 256 := by
            apply Nat.lt_of_not_le
            intro hge
            rw [ch1_far hge] at hck
            omega
          obtain ⟨pg, hpg⟩ : ∃ p, t[(a' + k) / 256]? = some p := ⟨_, List.getElem?_eq_getElem (by omega)⟩
          have hpok := okT_at HTT.out hpg
          have f0 : 0 ≤ pg.f := by
            rw [ch1_at hpg] at hck
            by_cases hf0 : pg.f < 0
            · rw [if_pos hf0] at hck; omega
            · omega
          have hloc := loc_at hpg
          rw [← e0] at hloc
          obtain ⟨f, hpf⟩ := Int.eq_ofNat_of_zero_le f0
          obtain ⟨off, rfl, hbl, c0, c1⟩ := (HT.out.fr HF2.out (by simp)).at_ hpg
          have hMk := HM.out.to HF2.out (by simp) (by simp)
          obtain ⟨capG, hcG, -, -⟩ := hMk.hd.cell
          have hfn : f < st.n := by omega
          have hcF := hMk.cell hfn
          have hby := frS_byte (st := st) (f := f) (i := (a' + k) % 256) (by omega) (by rw [frS_size]; omega)
          have hsz := frS_size st f
          have hlb : st.b (f * 256 + (a' + k) % 256) = st.b (loc t ((a' : Int) + (k : Int))) := by rw [hloc, hpf]; rfl
          have HV := Lib.hid (rdV_succ st t a' k)
          obtain ⟨x, hx⟩ : ∃ x, st.b (loc t ((a' : Int) + (k : Int))) = x := ⟨_, rfl⟩
          rw [hx] at hlb HV
          obtain ⟨FS, hFS, hsz, z6⟩ : ∃ FS, frS st f = FS ∧ FS.size = 256 ∧ (∀ h : (a' + k) % 256 < FS.size, FS[(a' + k) % 256] = x) := ⟨_, rfl, frS_size _ _, fun _ => hby.trans hlb⟩
          rw [hFS] at hcF
          rw [hpf] at c0
          have hk6 : (a' + k) % 256 < FS.size := by omega
          have z6' := z6 hk6
          have hd0 : (0 : Int) ≤ (a' : Int) + (k : Int) := by omega
          have hd1 : (a' : Int) + (k : Int) < 4096 := by have := okT_len HTT.out; omega
          have hm0 := hmt.out
          have hd2 : ((a' : Int) + (k : Int)) / 256 < (m : Int) := by omega
          have hd3 : (0 : Int) ≤ ((a' : Int) + (k : Int)) / 256 := by omega
          have hd4 : (0 : Int) ≤ ((a' : Int) + (k : Int)) % 256 := by omega
          have hd5 : ((a' : Int) + (k : Int)) % 256 < 256 := by omega
          have hf0 : (0 : Int) ≤ (f : Int) := by omega
          have hf1 : (f : Int) < (st.n : Int) := by omega
          have hdt : (((a' : Int) + (k : Int)) / 256).toNat = (a' + k) / 256 := by omega
          have hmt' : (((a' : Int) + (k : Int)) % 256).toNat = (a' + k) % 256 := by omega
          have HX := Lib.hid (own_fr ho (((Fr.refl [] wr).alloc (.cells #[.int .u8 (x.toNat : Int)] 5)).drew) (by simp))
          have hsw := hf.size
          have Hx := Lib.hid hx
          have Hbk : Hid (((wr.alloc (.cells #[.int .u8 (x.toNat : Int)] 5)).drew).cell? ⟨wr.heap.size, 0, none⟩ = some (.int .u8 (x.toNat : Int))) := Lib.hid ((Blk.new wr 5 #[.int .u8 (x.toNat : Int)]).drew.cell 0)
          have hkk : k + 1 ≤ maxLen := by simp only [maxLen]; omega
          generalize st.n = M at *
          have Kp : Hid (∀ W, Fr [] w2 W → W.cell? ⟨q, 0, none⟩ = some (.slice (some ⟨G, 0, none⟩) M capG) ∧ W.cell? ⟨b, off + (a' + k) / 256 * 2, none⟩ = some (.int .i64 f) ∧ W.cell? ⟨G, f, none⟩ = some (.string FS)) := Lib.hid fun W hW => ⟨hW.cell_some hcG (by simp), hW.cell_some c0 (by simp), hW.cell_some hcF (by simp)⟩
          clear hcG c0 hcF
          obtain ⟨hcG, c0, hcF⟩ := Kp.out wr hf
          clear hk hf ho hc0 hck e0 hql hpg hpok f0 hloc hpf hbl hMk hfn hby hlb hx hFS z6 hm0 c1
          go_wp2_with fail
          have hsum : IntKind.i64.wrap ((a' : Int) + (k : Int)) = (a' : Int) + (k : Int) := IntWalk.i64_in _ (by omega)
          have hdv : IntKind.i64.wrap (((a' : Int) + (k : Int)).tdiv 256) = ((a' : Int) + (k : Int)) / 256 := by rw [Int.tdiv_eq_ediv_of_nonneg hd0]; exact IntWalk.i64_in _ (by omega)
          have hmd : ((a' : Int) + (k : Int)).tmod 256 = ((a' : Int) + (k : Int)) % 256 := Int.tmod_eq_emod_of_nonneg hd0
          go_region_held3 (fun w' => w'.cell? ⟨q, 0, none⟩ = some (.slice (some ⟨G, 0, none⟩) M capG) ∧ w'.cell? ⟨b, off + (a' + k) / 256 * 2, none⟩ = some (.int .i64 f) ∧ w'.cell? ⟨G, f, none⟩ = some (.string FS))
            (first
              | exact ⟨hcG, c0, hcF⟩
              | go_keep
              | exact ll)
            ((refine step_append_lies _ (by rfl) _ _ _ (by rfl) w2.heap.size 5 i0 _ 1 1 Try.underlying118 hi0 hz0 hz1 hz2 rfl (by omega) _ k _ (by rfl) HX.out ⟨wr.heap.size, 0, none⟩ 1 1 [.int .u8 (x.toNat : Int)] (by rfl) (by rfl) (news1 Hbk.out) (by simp [Value.oneCell']) (by omega) hkk (by omega) (by simp; omega) (wr.heap.size + 1) (by simp) ?_; intro gg cc w3 ho3 hg3 hat3 hlt3; have hf3 := (Hf.out.trans (((Fr.refl [] wr).alloc (.cells #[.int .u8 (x.toNat : Int)] 5)).drew)).own HX.out hg3; have ll := Kp.out _ hf3))
          have HO3 := Lib.hid ho3
          have HF3 := Lib.hid hf3
          clear ho3 hg3 hat3 hlt3 hf3
          go_wp2_with fail
          go_roundg (N - (k + 1))
          case measure => have := Hk.out; omega
          case rel => exact ⟨k + 1, _, _, by have := Hk.out; omega, by go_num, rfl, by rw [HV.out]; exact HO3.out, HF3.out⟩
        · have hki : ¬ (k : Int) < (N : Int) := by omega
          obtain rfl : N = k := by omega
          have hcv := own_bytes (xs := (List.range N).map fun (i : Nat) => st.b (loc t (a + (i : Int)))) (by
            rw [List.map_map]
            exact ho)
          obtain ⟨R, hR⟩ : ∃ R, ((List.range N).map fun (i : Nat) => st.b (loc t (a + (i : Int)))).toArray = R := ⟨_, rfl⟩
          rw [hR] at hcv
          have HR := Lib.hid hR
          clear hk hf ho hR
          go_wp2_with fail
          go_ret2
          refine ⟨?_, HF2.out.trans Hf.out⟩
          rw [HR.out]
          rfl
  · rw [if_neg h0]
    have h0b : (thr t r a N != 0) = true := by rw [bne_iff_ne]; exact h0
    generalize thr t r a N = E at *
    have hrr : (r = 1 ∧ (r != 1) = false) ∨ (r = 4 ∧ (r != 1) = true ∧ (r != 4) = false) := by rcases hr with rfl | rfl <;> decide
    clear h0 d3 d4
    rcases hrr with ⟨rfl, e1⟩ | ⟨rfl, e1, e2⟩
    all_goals
      clear hr
      go_enter Try.func65, Try.ntmps65
      go_wp2_with (first
        | (go_at_call 92; go_must ((with_reducible refine Hc.out.mono ?_); rintro e w1 ⟨rfl, hf1⟩))
        | (go_at_call 93; go_must ((with_reducible refine (Hth.out _ hf1).mono ?_); rintro e w2 ⟨rfl, hf2⟩))
        | fail)
      go_ret2
      exact ⟨rfl, hf1.trans hf2⟩
theorem rRead_any (b q G m cap : Nat) (st : St) (A : Option Addr) (t : List Pg) (a n r : Int) (w : World) (ht : Tb w b (.slice A m cap) t) (h : RMem w q G st) (ha : a ≤ 9223372036854775807) :
    Calls Try.prog 65 #[ptr q, .slice A m cap, .int .i64 a, .int .i64 n, .int .i64 r] w (RReadP w st t a n r) := by
  cases hT : okT st.n t with
  | false =>
    refine (rRead_no b q G m cap st A t a n r w ht h hT).mono fun e w' ⟨he, hf⟩ => ⟨?_, hf⟩
    have e0 : rdR st t a n r = ([], 84) := by unfold rdR; rw [if_pos hT]
    rw [he, e0]
  | true =>
    by_cases hs : n < 0 ∨ 4096 < n ∨ (r ≠ 1 ∧ r ≠ 4)
    · refine (rRead_size b q G m cap st A t a n r w ht h hT hs).mono fun e w' ⟨he, hf⟩ => ⟨?_, hf⟩
      have e0 : rdR st t a n r = ([], 80) := by unfold rdR; rw [if_neg (by rw [hT]; simp), if_pos hs]
      rw [he, e0]
    · obtain ⟨k, rfl⟩ := Int.eq_ofNat_of_zero_le (by omega : 0 ≤ n)
      refine (rRead_main b q G m cap k st A t a r w ht h hT (by omega) (by omega) ha).mono fun e w' ⟨he, hf⟩ => ⟨?_, hf⟩
      have e0 : rdR st t a k r = (if thr t r a k = 0 then (List.range k).map fun (i : Nat) => st.b (loc t (a + (i : Int))) else [], thr t r a k) := by unfold rdR; rw [if_neg (by rw [hT]; simp), if_neg hs, Int.toNat_natCast]
      rw [he, e0]
end Go.Proofs.Ytonongaakieciaa
namespace Go.Proofs.Ytonongaakieciaa
open Go.RowKit
set_option linter.unusedVariables false
set_option maxRecDepth 100000
set_option linter.unusedSimpArgs false
theorem bits_255 (x : Int) : bits .and .i64 x 255 = x % 256 := by
  show IntKind.i64.wrap (((BitVec.ofInt 64 x &&& BitVec.ofInt 64 255).toNat : Nat) : Int) = _
  have h1 : (BitVec.ofInt 64 x &&& BitVec.ofInt 64 255).toNat = (x % 256).toNat := by
    rw [BitVec.toNat_and, BitVec.toNat_ofInt, show (BitVec.ofInt 64 255).toNat = 2 ^ 8 - 1 from rfl, Nat.and_two_pow_sub_one_eq_mod]
    omega
  rw [h1]
  have h2 : 0 ≤ x % 256 := Int.emod_nonneg _ (by omega)
  have h3 : x % 256 < 256 := Int.emod_lt_of_pos _ (by omega)
  rw [Int.toNat_of_nonneg h2]
  exact IntWalk.i64_in _ (by omega)
theorem word_any (k : Int) (w : World) : Calls Try.prog 113 #[.int .i64 k] w fun e w' => e = .returned (.bool (decide (k = 1 ∨ k = 2 ∨ k = 4))) ∧ w = w' := by
  by_cases h1 : k = 1
  · subst h1
    go_enter Try.func113, Try.ntmps113
    go_wp2
    go_ret
    exact ⟨rfl, rfl⟩
  · have b1 : (k == 1) = false := by rw [beq_eq_false_iff_ne]; exact h1
    by_cases h2 : k = 2
    · subst h2
      go_enter Try.func113, Try.ntmps113
      go_wp2
      go_ret
      exact ⟨rfl, rfl⟩
    · have b2 : (k == 2) = false := by rw [beq_eq_false_iff_ne]; exact h2
      by_cases h4 : k = 4
      · subst h4
        go_enter Try.func113, Try.ntmps113
        go_wp2
        go_ret
        exact ⟨rfl, rfl⟩
      · have b4 : (k == 4) = false := by rw [beq_eq_false_iff_ne]; exact h4
        have e : decide (k = 1 ∨ k = 2 ∨ k = 4) = false := by rw [decide_eq_false_iff_not]; omega
        rw [e]
        clear e h1 h2 h4
        go_enter Try.func113, Try.ntmps113
        go_wp2
        go_ret
        exact ⟨rfl, rfl⟩
theorem word_yes {k : Int} (h : k = 1 ∨ k = 2 ∨ k = 4) (w : World) : Calls Try.prog 113 #[.int .i64 k] w fun e w' => e = .returned (.bool true) ∧ w = w' :=
  (word_any k w).mono fun e w' ⟨he, hw⟩ => ⟨by rw [he, decide_eq_true h], hw⟩
theorem word_no {k : Int} (h : ¬ (k = 1 ∨ k = 2 ∨ k = 4)) (w : World) : Calls Try.prog 113 #[.int .i64 k] w fun e w' => e = .returned (.bool false) ∧ w = w' :=
  (word_any k w).mono fun e w' ⟨he, hw⟩ => ⟨by rw [he, decide_eq_false h], hw⟩
set_option maxRecDepth 100000 in
set_option maxHeartbeats 400000 in
theorem rLoad_no (b q G m cap : Nat) (st : St) (A : Option Addr) (t : List Pg) (a k r : Int) (w : World) (ht : Tb w b (.slice A m cap) t) (h : RMem w q G st) (hT : okT st.n t = false) :
    Calls Try.prog 83 #[ptr q, .slice A m cap, .int .i64 a, .int .i64 k, .int .i64 r] w fun e w' => e = .returned (.tuple #[.int .i64 0, .int .i64 84]) ∧ Fr [] w w' := by
  have Hc := Lib.hid (rCheck_no b q G st.n m cap A t w ht h.hd hT)
  clear h ht hT
  go_enter Try.func83, Try.ntmps83
  go_wp2_with (go_at_call 92; go_must ((with_reducible refine Hc.out.mono ?_); rintro e w1 ⟨rfl, hf1⟩))
  go_ret2
  exact ⟨rfl, hf1⟩
set_option maxRecDepth 100000 in
set_option maxHeartbeats 400000 in
theorem rLoad_size (b q G m cap : Nat) (st : St) (A : Option Addr) (t : List Pg) (a k r : Int) (w : World) (ht : Tb w b (.slice A m cap) t) (h : RMem w q G st) (hT : okT st.n t = true) (hk : ¬ (k = 1 ∨ k = 2 ∨ k = 4)) :
    Calls Try.prog 83 #[ptr q, .slice A m cap, .int .i64 a, .int .i64 k, .int .i64 r] w fun e w' => e = .returned (.tuple #[.int .i64 0, .int .i64 80]) ∧ Fr [] w w' := by
  have Hc := Lib.hid (rCheck_ok b q G st.n m cap A t w ht h.hd hT)
  have Hw := Lib.hid fun W => word_no hk W
  clear h ht hT hk
  go_enter Try.func83, Try.ntmps83
  go_wp2_with (first
    | (go_at_call 92; go_must ((with_reducible refine Hc.out.mono ?_); rintro e w1 ⟨rfl, hf1⟩))
    | (go_at_call 113; go_must ((with_reducible refine (Hw.out _).mono ?_); rintro e w2 ⟨rfl, rfl⟩))
    | fail)
  go_ret2
  exact ⟨rfl, hf1⟩
set_option maxRecDepth 100000 in
set_option maxHeartbeats 1000000 in
theorem rLoad_main (b q G m cap : Nat) (st : St) (A : Option Addr) (t : List Pg) (a k r : Int) (w : World) (ht : Tb w b (.slice A m cap) t) (h : RMem w q G st) (hT : okT st.n t = true) (hk : k = 1 ∨ k = 2 ∨ k = 4) (ha : a ≤ 9223372036854775807) (l : List UInt8) (er : Int) (hrd : rdR st t a k r = (l, er)) (hl : l.length ≤ 4) :
    Calls Try.prog 83 #[ptr q, .slice A m cap, .int .i64 a, .int .i64 k, .int .i64 r] w fun e w' => e = .returned (.tuple #[.int .i64 (word l : Nat), .int .i64 er]) ∧ Fr [] w w' := by
  have Hc := Lib.hid (rCheck_ok b q G st.n m cap A t w ht h.hd hT)
  have Hw := Lib.hid fun W => word_yes hk W
  have Hr : Hid (∀ W, Fr [] w W → Calls Try.prog 65 #[ptr q, .slice A m cap, .int .i64 a, .int .i64 k, .int .i64 r] W fun e w' => e = .returned (.tuple #[.string ⟨l.toArray⟩, .int .i64 er]) ∧ Fr [] W w') :=
    Lib.hid fun W hf => (rRead_any b q G m cap st A t a k r W (ht.fr hf (by simp)) (h.to hf (by simp) (by simp)) ha).mono fun e w' ⟨he, hf⟩ => ⟨by rw [he, hrd], hf⟩
  obtain ⟨SR, hSR⟩ : ∃ SR : ByteArray, SR = ⟨l.toArray⟩ := ⟨_, rfl⟩
  rw [← hSR] at Hr
  have hSl : SR.data.toList = l := by rw [hSR]
  obtain ⟨N, hN⟩ : ∃ N, SR.size = N := ⟨_, rfl⟩
  have hlN : l.length = N := by rw [← hN, ← hSl]; rfl
  rw [hlN] at hl
  have HSl := Lib.hid hSl
  have HlN := Lib.hid hlN
  clear h ht hT hk hrd hSR hSl hlN
  go_enter Try.func83, Try.ntmps83
  go_wp2_with (first
    | (go_at_call 92; go_must ((with_reducible refine Hc.out.mono ?_); rintro e w1 ⟨rfl, hf1⟩))
    | (go_at_call 113; go_must ((with_reducible refine (Hw.out _).mono ?_); rintro e w2 ⟨rfl, rfl⟩))
    | (go_at_call 65; go_must ((with_reducible refine (Hr.out _ hf1).mono ?_); rintro e w3 ⟨rfl, hf3⟩))
    | fail)
  have HF3 := Lib.hid (hf1.trans hf3)
  clear hf1 hf3
  go_loopg [14, 15] N (fun gg x i wq => ∃ j : Nat, j + gg = N ∧ i = .int .i64 j ∧ x = .int .i64 (word (l.take j) : Nat) ∧ wq = w3)
  case atStart => exact ⟨0, by omega, rfl, rfl, rfl⟩
  case round =>
    obtain ⟨j, hj, rfl, rfl, rfl⟩ := hrel
    have Hj := Lib.hid hj
    by_cases hlt : j < N
    · obtain ⟨c, hc⟩ : ∃ c, l[j]? = some c := ⟨_, List.getElem?_eq_getElem (by have := HlN.out; omega)⟩
      have hjs : j < SR.size := by omega
      have c0 : SR[j] = c := by
        have h2 := (List.getElem?_eq_some_iff.1 (show SR.data.toList[j]? = some c by rw [HSl.out]; exact hc)).2
        have h3 : SR[j] = SR.data[j] := rfl
        rw [h3]
        simpa using h2
      have hcl := c.toNat_lt
      have hw := word_lt (l.take j)
      have hlen : (l.take j).length ≤ 3 := by rw [List.length_take]; omega
      have hw2 : word (l.take j) < 16777216 := Nat.lt_of_lt_of_le hw (Nat.pow_le_pow_right (by omega) hlen)
      have hsn : word (l.take (j + 1)) = 256 * word (l.take j) + c.toNat := by rw [List.take_add_one, hc]; exact word_snoc _ _
      have Hsn := Lib.hid hsn
      have hki : (j : Int) < (N : Int) := by omega
      have hj0 : (0 : Int) ≤ (j : Int) := by omega
      clear hw hlen hsn hc hj
      generalize word (l.take j) = X at *
      generalize hY : c.toNat = Y at *
      have HY := Lib.hid hY
      go_wp2
      go_roundg (N - (j + 1))
      case measure => have := Hj.out; omega
      case rel => refine ⟨j + 1, by have := Hj.out; omega, by go_num, by rw [Hsn.out]; go_num, rfl⟩
    · have hjN : j = N := by omega
      have hki : ¬ (j : Int) < (N : Int) := by omega
      have hw : word (l.take j) = word l := by rw [hjN, ← HlN.out, List.take_length]
      have Hw2 := Lib.hid hw
      clear hw hj hjN
      go_wp2
      go_ret2
      exact ⟨ret_tup (by rw [Hw2.out]), HF3.out⟩
theorem rLoad_any (b q G m cap : Nat) (st : St) (A : Option Addr) (t : List Pg) (a k r : Int) (w : World) (ht : Tb w b (.slice A m cap) t) (h : RMem w q G st) (ha : a ≤ 9223372036854775807) :
    Calls Try.prog 83 #[ptr q, .slice A m cap, .int .i64 a, .int .i64 k, .int .i64 r] w fun e w' => e = .returned (.tuple #[.int .i64 (ldR st t a k r).1, .int .i64 (ldR st t a k r).2]) ∧ Fr [] w w' := by
  cases hT : okT st.n t with
  | false =>
    have e0 : ldR st t a k r = (0, 84) := by unfold ldR; rw [if_pos hT]
    rw [e0]
    exact rLoad_no b q G m cap st A t a k r w ht h hT
  | true =>
    by_cases hk : k = 1 ∨ k = 2 ∨ k = 4
    · have e0 : ldR st t a k r = (((word (rdR st t a k r).1 : Nat) : Int), (rdR st t a k r).2) := by unfold ldR; rw [if_neg (by rw [hT]; simp), if_neg (by omega)]
      rw [e0]
      exact rLoad_main b q G m cap st A t a k r w ht h hT hk ha _ _ rfl (rdR_len hk)
    · have e0 : ldR st t a k r = (0, 80) := by unfold ldR; rw [if_neg (by rw [hT]; simp), if_pos (by omega)]
      rw [e0]
      exact rLoad_size b q G m cap st A t a k r w ht h hT hk
def RStoreP (w : World) (q G : Nat) (st : St) (t : List Pg) (a k n : Int) (e : Ending) (w' : World) : Prop :=
  e = .returned (.int .i64 (stE st t a k n)) ∧ RMem w' q G (stS st t a k n) ∧ Fr [G] w w'
set_option maxRecDepth 100000 in
set_option maxHeartbeats 400000 in
theorem rStore_no (b q G m cap : Nat) (st : St) (A : Option Addr) (t : List Pg) (a k n : Int) (w : World) (ht : Tb w b (.slice A m cap) t) (h : RMem w q G st) (hT : okT st.n t = false) :
    Calls Try.prog 84 #[ptr q, .slice A m cap, .int .i64 a, .int .i64 k, .int .i64 n] w fun e w' => e = .returned (.int .i64 84) ∧ Fr [] w w' := by
  have Hc := Lib.hid (rCheck_no b q G st.n m cap A t w ht h.hd hT)
  clear h ht hT
  go_enter Try.func84, Try.ntmps84
  go_wp2_with (go_at_call 92; go_must ((with_reducible refine Hc.out.mono ?_); rintro e w1 ⟨rfl, hf1⟩))
  go_ret
  exact ⟨rfl, hf1⟩
set_option maxRecDepth 100000 in
set_option maxHeartbeats 400000 in
theorem rStore_size (b q G m cap : Nat) (st : St) (A : Option Addr) (t : List Pg) (a k n : Int) (w : World) (ht : Tb w b (.slice A m cap) t) (h : RMem w q G st) (hT : okT st.n t = true) (hk : ¬ (k = 1 ∨ k = 2 ∨ k = 4)) :
    Calls Try.prog 84 #[ptr q, .slice A m cap, .int .i64 a, .int .i64 k, .int .i64 n] w fun e w' => e = .returned (.int .i64 80) ∧ Fr [] w w' := by
  have Hc := Lib.hid (rCheck_ok b q G st.n m cap A t w ht h.hd hT)
  have Hw := Lib.hid fun W => word_no hk W
  clear h ht hT hk
  go_enter Try.func84, Try.ntmps84
  go_wp2_with (first
    | (go_at_call 92; go_must ((with_reducible refine Hc.out.mono ?_); rintro e w1 ⟨rfl, hf1⟩))
    | (go_at_call 113; go_must ((with_reducible refine (Hw.out _).mono ?_); rintro e w2 ⟨rfl, rfl⟩))
    | fail)
  go_ret
  exact ⟨rfl, hf1⟩
set_option maxRecDepth 100000 in
set_option maxHeartbeats 2000000 in
theorem rStore_1 (b q G m cap : Nat) (st : St) (A : Option Addr) (t : List Pg) (a nn : Int) (w : World) (ht : Tb w b (.slice A m cap) t) (h : RMem w q G st) (hT : okT st.n t = true) (ha : a ≤ 9223372036854775807) (hbG : b ≠ G) :
    Calls Try.prog 84 #[ptr q, .slice A m cap, .int .i64 a, .int .i64 1, .int .i64 nn] w (RWriteP w q G st t a (wordS nn 1)) := by
  obtain ⟨i0, hi0, hz0, hz1, hz2⟩ := info3 Try.info5
  have Hc := Lib.hid (rCheck_ok b q G st.n m cap A t w ht h.hd hT)
  have Hw := Lib.hid fun W => word_yes (k := 1) (by omega) W
  have HW := Lib.hid fun W (hf : Fr [] w W) => rWrite_any b q G m cap st A t a (wordS nn 1) W (ht.fr hf (by simp)) (h.to hf (by simp) (by simp)) ha hbG
  have hb16777216 : bits .and .i64 (nn / 16777216) 255 % 256 = ((byt nn 16777216).toNat : Int) := by rw [bits_255, byt_val, Int.emod_emod_of_dvd _ (by omega)]
  have hb65536 : bits .and .i64 (nn / 65536) 255 % 256 = ((byt nn 65536).toNat : Int) := by rw [bits_255, byt_val, Int.emod_emod_of_dvd _ (by omega)]
  have hb256 : bits .and .i64 (nn / 256) 255 % 256 = ((byt nn 256).toNat : Int) := by rw [bits_255, byt_val, Int.emod_emod_of_dvd _ (by omega)]
  have hb1 : bits .and .i64 (nn) 255 % 256 = ((byt nn 1).toNat : Int) := by rw [bits_255, byt_val, Int.ediv_one, Int.emod_emod_of_dvd _ (by omega)]
  clear h ht hT
  go_enter Try.func84, Try.ntmps84
  go_wp2_with (first
    | (go_at_call 92; go_must ((with_reducible refine Hc.out.mono ?_); rintro e w1 ⟨rfl, hf1⟩))
    | (go_at_call 113; go_must ((with_reducible refine (Hw.out _).mono ?_); rintro e w2 ⟨rfl, rfl⟩))
    | fail)
  have HF1 := Lib.hid hf1
  have Hm0 := Lib.hid (World.ownsRow_made (base := w1.heap.size) (e := 5) (size := 1) w1 #[] 0 (Nat.le_refl _) (by simp [maxLen]) (by simp))
  have Hf0 := Lib.hid ((Fr.refl [] w1).alloc (.cells #[] 5))
  clear hf1
  go_loopg [12, 13] 1 (fun gg x i wr => ∃ (m1 : Nat) (z : Int) (B : Option Addr) (c : Nat), m1 + gg = 1 ∧ z = (gg : Int) - 1 ∧ i = .int .i64 z ∧ x = .slice B m1 c ∧ wr.ownsRow w1.heap.size 5 1 (.slice B m1 c) m1 (((wordB nn 1).take m1).map bv) ∧ Fr [] w1 wr)
  case atStart => exact ⟨0, _, _, _, by omega, by omega, rfl, rfl, Hm0.out, Hf0.out⟩
  case round =>
    obtain ⟨m1, z, B, c, hm1, hz, rfl, rfl, ho, hf⟩ := hrel
    have HF := Lib.hid hf
    have hcs : (m1 = 1 ∧ z = -1) ∨ (m1 = 0 ∧ z = 0) := by omega
    clear hz
    rcases hcs with ⟨rfl, rfl⟩ | ⟨rfl, rfl⟩
    · have hcv := own_bytes (xs := (wordB nn 1).take 1) ho
      have hwl : (⟨((wordB nn 1).take 1).toArray⟩ : ByteArray) = wordS nn 1 := by
        rw [List.take_of_length_le (by simp [wordB])]
        rfl
      rw [hwl] at hcv
      have HW2 := Lib.hid (HW.out wr (HF1.out.trans hf))
      clear hwl ho hf
      generalize wordS nn 1 = WS at *
      go_wp2_with fail
      refine HW2.out.mono ?_
      rintro e w3 ⟨rfl, hm3, hf3⟩
      go_wp2_with fail
      go_ret
      exact ⟨rfl, hm3, ((HF1.out.trans HF.out).mono (by simp)).trans hf3⟩
    · have HX := Lib.hid (ho.alloc (.cells #[.int .u8 ((byt nn 1).toNat : Int)] 5))
      have hbk : (wr.alloc (.cells #[.int .u8 ((byt nn 1).toNat : Int)] 5)).cell? ⟨wr.heap.size, 0, none⟩ = some (.int .u8 ((byt nn 1).toNat : Int)) := (Blk.new wr 5 _).cell 0
      have hfa := hf.alloc (.cells #[.int .u8 ((byt nn 1).toNat : Int)] 5)
      have hzz := hf.size
      clear ho hf
      go_wp2_with (at_builtin; go_must (refine wpList_append_own _ rfl (.tmp 30) (.tmp 37) 118 rfl w1.heap.size 5 i0 (.int .u8 0) 1 1 Try.underlying118 hi0 hz0 hz1 hz2 rfl (by decide) _ 0 _ rfl HX.out ⟨wr.heap.size, 0, none⟩ 1 1 [.int .u8 ((byt nn 1).toNat : Int)] rfl rfl (news1 hbk) (by simp [Value.oneCell']) (by simp [maxLen]) (by omega) (by simp; omega) ?_; intro x1 W1 ho1 hg1 _; obtain ⟨A1, c1, rfl⟩ := own_shape ho1; have hff1 := hfa.own HX.out hg1))
      go_roundg 0
      case measure => omega
      case rel => exact ⟨1, _, A1, c1, by omega, by omega, rfl, by simp, by simpa [wordB, bv] using ho1, hff1⟩
set_option maxRecDepth 100000 in
set_option maxHeartbeats 2000000 in
theorem rStore_2 (b q G m cap : Nat) (st : St) (A : Option Addr) (t : List Pg) (a nn : Int) (w : World) (ht : Tb w b (.slice A m cap) t) (h : RMem w q G st) (hT : okT st.n t = true) (ha : a ≤ 9223372036854775807) (hbG : b ≠ G) :
    Calls Try.prog 84 #[ptr q, .slice A m cap, .int .i64 a, .int .i64 2, .int .i64 nn] w (RWriteP w q G st t a (wordS nn 2)) := by
  obtain ⟨i0, hi0, hz0, hz1, hz2⟩ := info3 Try.info5
  have Hc := Lib.hid (rCheck_ok b q G st.n m cap A t w ht h.hd hT)
  have Hw := Lib.hid fun W => word_yes (k := 2) (by omega) W
  have HW := Lib.hid fun W (hf : Fr [] w W) => rWrite_any b q G m cap st A t a (wordS nn 2) W (ht.fr hf (by simp)) (h.to hf (by simp) (by simp)) ha hbG
  have hb16777216 : bits .and .i64 (nn / 16777216) 255 % 256 = ((byt nn 16777216).toNat : Int) := by rw [bits_255, byt_val, Int.emod_emod_of_dvd _ (by omega)]
  have hb65536 : bits .and .i64 (nn / 65536) 255 % 256 = ((byt nn 65536).toNat : Int) := by rw [bits_255, byt_val, Int.emod_emod_of_dvd _ (by omega)]
  have hb256 : bits .and .i64 (nn / 256) 255 % 256 = ((byt nn 256).toNat : Int) := by rw [bits_255, byt_val, Int.emod_emod_of_dvd _ (by omega)]
  have hb1 : bits .and .i64 (nn) 255 % 256 = ((byt nn 1).toNat : Int) := by rw [bits_255, byt_val, Int.ediv_one, Int.emod_emod_of_dvd _ (by omega)]
  clear h ht hT
  go_enter Try.func84, Try.ntmps84
  go_wp2_with (first
    | (go_at_call 92; go_must ((with_reducible refine Hc.out.mono ?_); rintro e w1 ⟨rfl, hf1⟩))
    | (go_at_call 113; go_must ((with_reducible refine (Hw.out _).mono ?_); rintro e w2 ⟨rfl, rfl⟩))
    | fail)
  have HF1 := Lib.hid hf1
  have Hm0 := Lib.hid (World.ownsRow_made (base := w1.heap.size) (e := 5) (size := 1) w1 #[] 0 (Nat.le_refl _) (by simp [maxLen]) (by simp))
  have Hf0 := Lib.hid ((Fr.refl [] w1).alloc (.cells #[] 5))
  clear hf1
  go_loopg [12, 13] 2 (fun gg x i wr => ∃ (m1 : Nat) (z : Int) (B : Option Addr) (c : Nat), m1 + gg = 2 ∧ z = (gg : Int) - 1 ∧ i = .int .i64 z ∧ x = .slice B m1 c ∧ wr.ownsRow w1.heap.size 5 1 (.slice B m1 c) m1 (((wordB nn 2).take m1).map bv) ∧ Fr [] w1 wr)
  case atStart => exact ⟨0, _, _, _, by omega, by omega, rfl, rfl, Hm0.out, Hf0.out⟩
  case round =>
    obtain ⟨m1, z, B, c, hm1, hz, rfl, rfl, ho, hf⟩ := hrel
    have HF := Lib.hid hf
    have hcs : (m1 = 2 ∧ z = -1) ∨ (m1 = 1 ∧ z = 0) ∨ (m1 = 0 ∧ z = 1) := by omega
    clear hz
    rcases hcs with ⟨rfl, rfl⟩ | ⟨rfl, rfl⟩ | ⟨rfl, rfl⟩
    · have hcv := own_bytes (xs := (wordB nn 2).take 2) ho
      have hwl : (⟨((wordB nn 2).take 2).toArray⟩ : ByteArray) = wordS nn 2 := by
        rw [List.take_of_length_le (by simp [wordB])]
        rfl
      rw [hwl] at hcv
      have HW2 := Lib.hid (HW.out wr (HF1.out.trans hf))
      clear hwl ho hf
      generalize wordS nn 2 = WS at *
      go_wp2_with fail
      refine HW2.out.mono ?_
      rintro e w3 ⟨rfl, hm3, hf3⟩
      go_wp2_with fail
      go_ret
      exact ⟨rfl, hm3, ((HF1.out.trans HF.out).mono (by simp)).trans hf3⟩
    · have HX := Lib.hid (ho.alloc (.cells #[.int .u8 ((byt nn 1).toNat : Int)] 5))
      have hbk : (wr.alloc (.cells #[.int .u8 ((byt nn 1).toNat : Int)] 5)).cell? ⟨wr.heap.size, 0, none⟩ = some (.int .u8 ((byt nn 1).toNat : Int)) := (Blk.new wr 5 _).cell 0
      have hfa := hf.alloc (.cells #[.int .u8 ((byt nn 1).toNat : Int)] 5)
      have hzz := hf.size
      clear ho hf
      go_wp2_with (at_builtin; go_must (refine wpList_append_own _ rfl (.tmp 30) (.tmp 37) 118 rfl w1.heap.size 5 i0 (.int .u8 0) 1 1 Try.underlying118 hi0 hz0 hz1 hz2 rfl (by decide) _ 1 _ rfl HX.out ⟨wr.heap.size, 0, none⟩ 1 1 [.int .u8 ((byt nn 1).toNat : Int)] rfl rfl (news1 hbk) (by simp [Value.oneCell']) (by simp [maxLen]) (by omega) (by simp; omega) ?_; intro x1 W1 ho1 hg1 _; obtain ⟨A1, c1, rfl⟩ := own_shape ho1; have hff1 := hfa.own HX.out hg1))
      go_roundg 0
      case measure => omega
      case rel => exact ⟨2, _, A1, c1, by omega, by omega, rfl, by simp, by simpa [wordB, bv] using ho1, hff1⟩
    · have HX := Lib.hid (ho.alloc (.cells #[.int .u8 ((byt nn 256).toNat : Int)] 5))
      have hbk : (wr.alloc (.cells #[.int .u8 ((byt nn 256).toNat : Int)] 5)).cell? ⟨wr.heap.size, 0, none⟩ = some (.int .u8 ((byt nn 256).toNat : Int)) := (Blk.new wr 5 _).cell 0
      have hfa := hf.alloc (.cells #[.int .u8 ((byt nn 256).toNat : Int)] 5)
      have hzz := hf.size
      clear ho hf
      go_wp2_with (at_builtin; go_must (refine wpList_append_own _ rfl (.tmp 30) (.tmp 37) 118 rfl w1.heap.size 5 i0 (.int .u8 0) 1 1 Try.underlying118 hi0 hz0 hz1 hz2 rfl (by decide) _ 0 _ rfl HX.out ⟨wr.heap.size, 0, none⟩ 1 1 [.int .u8 ((byt nn 256).toNat : Int)] rfl rfl (news1 hbk) (by simp [Value.oneCell']) (by simp [maxLen]) (by omega) (by simp; omega) ?_; intro x1 W1 ho1 hg1 _; obtain ⟨A1, c1, rfl⟩ := own_shape ho1; have hff1 := hfa.own HX.out hg1))
      go_roundg 1
      case measure => omega
      case rel => exact ⟨1, _, A1, c1, by omega, by omega, rfl, by simp, by simpa [wordB, bv] using ho1, hff1⟩
set_option maxRecDepth 100000 in
set_option maxHeartbeats 2000000 in
theorem rStore_4 (b q G m cap : Nat) (st : St) (A : Option Addr) (t : List Pg) (a nn : Int) (w : World) (ht : Tb w b (.slice A m cap) t) (h : RMem w q G st) (hT : okT st.n t = true) (ha : a ≤ 9223372036854775807) (hbG : b ≠ G) :
    Calls Try.prog 84 #[ptr q, .slice A m cap, .int .i64 a, .int .i64 4, .int .i64 nn] w (RWriteP w q G st t a (wordS nn 4)) := by
  obtain ⟨i0, hi0, hz0, hz1, hz2⟩ := info3 Try.info5
  have Hc := Lib.hid (rCheck_ok b q G st.n m cap A t w ht h.hd hT)
  have Hw := Lib.hid fun W => word_yes (k := 4) (by omega) W
  have HW := Lib.hid fun W (hf : Fr [] w W) => rWrite_any b q G m cap st A t a (wordS nn 4) W (ht.fr hf (by simp)) (h.to hf (by simp) (by simp)) ha hbG
  have hb16777216 : bits .and .i64 (nn / 16777216) 255 % 256 = ((byt nn 16777216).toNat : Int) := by rw [bits_255, byt_val, Int.emod_emod_of_dvd _ (by omega)]
  have hb65536 : bits .and .i64 (nn / 65536) 255 % 256 = ((byt nn 65536).toNat : Int) := by rw [bits_255, byt_val, Int.emod_emod_of_dvd _ (by omega)]
  have hb256 : bits .and .i64 (nn / 256) 255 % 256 = ((byt nn 256).toNat : Int) := by rw [bits_255, byt_val, Int.emod_emod_of_dvd _ (by omega)]
  have hb1 : bits .and .i64 (nn) 255 % 256 = ((byt nn 1).toNat : Int) := by rw [bits_255, byt_val, Int.ediv_one, Int.emod_emod_of_dvd _ (by omega)]
  clear h ht hT
  go_enter Try.func84, Try.ntmps84
  go_wp2_with (first
    | (go_at_call 92; go_must ((with_reducible refine Hc.out.mono ?_); rintro e w1 ⟨rfl, hf1⟩))
    | (go_at_call 113; go_must ((with_reducible refine (Hw.out _).mono ?_); rintro e w2 ⟨rfl, rfl⟩))
    | fail)
  have HF1 := Lib.hid hf1
  have Hm0 := Lib.hid (World.ownsRow_made (base := w1.heap.size) (e := 5) (size := 1) w1 #[] 0 (Nat.le_refl _) (by simp [maxLen]) (by simp))
  have Hf0 := Lib.hid ((Fr.refl [] w1).alloc (.cells #[] 5))
  clear hf1
  go_loopg [12, 13] 4 (fun gg x i wr => ∃ (m1 : Nat) (z : Int) (B : Option Addr) (c : Nat), m1 + gg = 4 ∧ z = (gg : Int) - 1 ∧ i = .int .i64 z ∧ x = .slice B m1 c ∧ wr.ownsRow w1.heap.size 5 1 (.slice B m1 c) m1 (((wordB nn 4).take m1).map bv) ∧ Fr [] w1 wr)
  case atStart => exact ⟨0, _, _, _, by omega, by omega, rfl, rfl, Hm0.out, Hf0.out⟩
  case round =>
    obtain ⟨m1, z, B, c, hm1, hz, rfl, rfl, ho, hf⟩ := hrel
    have HF := Lib.hid hf
    have hcs : (m1 = 4 ∧ z = -1) ∨ (m1 = 3 ∧ z = 0) ∨ (m1 = 2 ∧ z = 1) ∨ (m1 = 1 ∧ z = 2) ∨ (m1 = 0 ∧ z = 3) := by omega
    clear hz
    rcases hcs with ⟨rfl, rfl⟩ | ⟨rfl, rfl⟩ | ⟨rfl, rfl⟩ | ⟨rfl, rfl⟩ | ⟨rfl, rfl⟩
    · have hcv := own_bytes (xs := (wordB nn 4).take 4) ho
      have hwl : (⟨((wordB nn 4).take 4).toArray⟩ : ByteArray) = wordS nn 4 := by
        rw [List.take_of_length_le (by simp [wordB])]
        rfl
      rw [hwl] at hcv
      have HW2 := Lib.hid (HW.out wr (HF1.out.trans hf))
      clear hwl ho hf
      generalize wordS nn 4 = WS at *
      go_wp2_with fail
      refine HW2.out.mono ?_
      rintro e w3 ⟨rfl, hm3, hf3⟩
      go_wp2_with fail
      go_ret
      exact ⟨rfl, hm3, ((HF1.out.trans HF.out).mono (by simp)).trans hf3⟩
    · have HX := Lib.hid (ho.alloc (.cells #[.int .u8 ((byt nn 1).toNat : Int)] 5))
      have hbk : (wr.alloc (.cells #[.int .u8 ((byt nn 1).toNat : Int)] 5)).cell? ⟨wr.heap.size, 0, none⟩ = some (.int .u8 ((byt nn 1).toNat : Int)) := (Blk.new wr 5 _).cell 0
      have hfa := hf.alloc (.cells #[.int .u8 ((byt nn 1).toNat : Int)] 5)
      have hzz := hf.size
      clear ho hf
      go_wp2_with (at_builtin; go_must (refine wpList_append_own _ rfl (.tmp 30) (.tmp 37) 118 rfl w1.heap.size 5 i0 (.int .u8 0) 1 1 Try.underlying118 hi0 hz0 hz1 hz2 rfl (by decide) _ 3 _ rfl HX.out ⟨wr.heap.size, 0, none⟩ 1 1 [.int .u8 ((byt nn 1).toNat : Int)] rfl rfl (news1 hbk) (by simp [Value.oneCell']) (by simp [maxLen]) (by omega) (by simp; omega) ?_; intro x1 W1 ho1 hg1 _; obtain ⟨A1, c1, rfl⟩ := own_shape ho1; have hff1 := hfa.own HX.out hg1))
      go_roundg 0
      case measure => omega
      case rel => exact ⟨4, _, A1, c1, by omega, by omega, rfl, by simp, by simpa [wordB, bv] using ho1, hff1⟩
    · have HX := Lib.hid (ho.alloc (.cells #[.int .u8 ((byt nn 256).toNat : Int)] 5))
      have hbk : (wr.alloc (.cells #[.int .u8 ((byt nn 256).toNat : Int)] 5)).cell? ⟨wr.heap.size, 0, none⟩ = some (.int .u8 ((byt nn 256).toNat : Int)) := (Blk.new wr 5 _).cell 0
      have hfa := hf.alloc (.cells #[.int .u8 ((byt nn 256).toNat : Int)] 5)
      have hzz := hf.size
      clear ho hf
      go_wp2_with (at_builtin; go_must (refine wpList_append_own _ rfl (.tmp 30) (.tmp 37) 118 rfl w1.heap.size 5 i0 (.int .u8 0) 1 1 Try.underlying118 hi0 hz0 hz1 hz2 rfl (by decide) _ 2 _ rfl HX.out ⟨wr.heap.size, 0, none⟩ 1 1 [.int .u8 ((byt nn 256).toNat : Int)] rfl rfl (news1 hbk) (by simp [Value.oneCell']) (by simp [maxLen]) (by omega) (by simp; omega) ?_; intro x1 W1 ho1 hg1 _; obtain ⟨A1, c1, rfl⟩ := own_shape ho1; have hff1 := hfa.own HX.out hg1))
      go_roundg 1
      case measure => omega
      case rel => exact ⟨3, _, A1, c1, by omega, by omega, rfl, by simp, by simpa [wordB, bv] using ho1, hff1⟩
    · have HX := Lib.hid (ho.alloc (.cells #[.int .u8 ((byt nn 65536).toNat : Int)] 5))
      have hbk : (wr.alloc (.cells #[.int .u8 ((byt nn 65536).toNat : Int)] 5)).cell? ⟨wr.heap.size, 0, none⟩ = some (.int .u8 ((byt nn 65536).toNat : Int)) := (Blk.new wr 5 _).cell 0
      have hfa := hf.alloc (.cells #[.int .u8 ((byt nn 65536).toNat : Int)] 5)
      have hzz := hf.size
      clear ho hf
      go_wp2_with (at_builtin; go_must (refine wpList_append_own _ rfl (.tmp 30) (.tmp 37) 118 rfl w1.heap.size 5 i0 (.int .u8 0) 1 1 Try.underlying118 hi0 hz0 hz1 hz2 rfl (by decide) _ 1 _ rfl HX.out ⟨wr.heap.size, 0, none⟩ 1 1 [.int .u8 ((byt nn 65536).toNat : Int)] rfl rfl (news1 hbk) (by simp [Value.oneCell']) (by simp [maxLen]) (by omega) (by simp; omega) ?_; intro x1 W1 ho1 hg1 _; obtain ⟨A1, c1, rfl⟩ := own_shape ho1; have hff1 := hfa.own HX.out hg1))
      go_roundg 2
      case measure => omega
      case rel => exact ⟨2, _, A1, c1, by omega, by omega, rfl, by simp, by simpa [wordB, bv] using ho1, hff1⟩
    · have HX := Lib.hid (ho.alloc (.cells #[.int .u8 ((byt nn 16777216).toNat : Int)] 5))
      have hbk : (wr.alloc (.cells #[.int .u8 ((byt nn 16777216).toNat : Int)] 5)).cell? ⟨wr.heap.size, 0, none⟩ = some (.int .u8 ((byt nn 16777216).toNat : Int)) := (Blk.new wr 5 _).cell 0
      have hfa := hf.alloc (.cells #[.int .u8 ((byt nn 16777216).toNat : Int)] 5)
      have hzz := hf.size
      clear ho hf
      go_wp2_with (at_builtin; go_must (refine wpList_append_own _ rfl (.tmp 30) (.tmp 37) 118 rfl w1.heap.size 5 i0 (.int .u8 0) 1 1 Try.underlying118 hi0 hz0 hz1 hz2 rfl (by decide) _ 0 _ rfl HX.out ⟨wr.heap.size, 0, none⟩ 1 1 [.int .u8 ((byt nn 16777216).toNat : Int)] rfl rfl (news1 hbk) (by simp [Value.oneCell']) (by simp [maxLen]) (by omega) (by simp; omega) ?_; intro x1 W1 ho1 hg1 _; obtain ⟨A1, c1, rfl⟩ := own_shape ho1; have hff1 := hfa.own HX.out hg1))
      go_roundg 3
      case measure => omega
      case rel => exact ⟨1, _, A1, c1, by omega, by omega, rfl, by simp, by simpa [wordB, bv] using ho1, hff1⟩
theorem rStore_any (b q G m cap : Nat) (st : St) (A : Option Addr) (t : List Pg) (a k n : Int) (w : World) (ht : Tb w b (.slice A m cap) t) (h : RMem w q G st) (ha : a ≤ 9223372036854775807) (hbG : b ≠ G) :
    Calls Try.prog 84 #[ptr q, .slice A m cap, .int .i64 a, .int .i64 k, .int .i64 n] w (RStoreP w q G st t a k n) := by
  cases hT : okT st.n t with
  | false =>
    refine (rStore_no b q G m cap st A t a k n w ht h hT).mono fun e w' ⟨he, hf⟩ => ?_
    refine ⟨by rw [he]; unfold stE; rw [if_pos hT], ?_, hf.mono (by simp)⟩
    unfold stS
    rw [if_pos hT]
    exact h.to hf (by simp) (by simp)
  | true =>
    have hT' : ¬ okT st.n t = false := by rw [hT]; simp
    by_cases hk : k = 1 ∨ k = 2 ∨ k = 4
    · have hk' : ¬ (k ≠ 1 ∧ k ≠ 2 ∧ k ≠ 4) := by omega
      have key : Calls Try.prog 84 #[ptr q, .slice A m cap, .int .i64 a, .int .i64 k, .int .i64 n] w (RWriteP w q G st t a (wordS n k)) := by
        rcases hk with rfl | rfl | rfl
        · exact rStore_1 b q G m cap st A t a n w ht h hT ha hbG
        · exact rStore_2 b q G m cap st A t a n w ht h hT ha hbG
        · exact rStore_4 b q G m cap st A t a n w ht h hT ha hbG
      refine key.mono fun e w' ⟨he, hm, hf⟩ => ⟨?_, ?_, hf⟩
      · rw [he]; unfold stE; rw [if_neg hT', if_neg hk']
      · unfold stS
        rw [if_neg hT', if_neg hk']
        exact hm
    · refine (rStore_size b q G m cap st A t a k n w ht h hT hk).mono fun e w' ⟨he, hf⟩ => ?_
      have hk' : k ≠ 1 ∧ k ≠ 2 ∧ k ≠ 4 := by omega
      refine ⟨by rw [he]; unfold stE; rw [if_neg hT', if_pos hk'], ?_, hf.mono (by simp)⟩
      unfold stS
      rw [if_neg hT', if_pos hk']
      exact h.to hf (by simp) (by simp)
end Go.Proofs.Ytonongaakieciaa
namespace Go.Proofs.Ytonongaakieciaa
open Go.RowKit
set_option linter.unusedVariables false
set_option maxRecDepth 100000
theorem Try.info9 : (Try.prog.info? 9).map (fun i => (i.zero, i.size, i.bytes)) = some (some (.string ⟨#[]⟩), 1, 16) := by kernel_rfl
set_option linter.unusedSimpArgs false
attribute [local go_sem ↓] Go.wp_at_zero Go.wp_at_succ
set_option maxHeartbeats 400000 in
theorem rNew_bad (k : Int) (w : World) (h : k < 1 ∨ 160 < k) : Calls Try.prog 41 #[.int .i64 k] w fun e w' => e = .returned (.tuple #[.pointer none, .int .i64 80]) ∧ w = w' := by
  rcases h with h | h
  · go_enter Try.func41, Try.ntmps41
    go_wp2
    go_ret2
    exact ⟨rfl, rfl⟩
  · have h' : ¬ k < 1 := by omega
    go_enter Try.func41, Try.ntmps41
    go_wp2
    go_ret2
    exact ⟨rfl, rfl⟩
def zsV (k : Nat) : List Value := List.replicate k (.string zsS)
theorem frS_zero (n i : Nat) : frS ⟨n, fun _ => 0⟩ i = zsS := by
  have : frB ⟨n, fun _ => 0⟩ i = zs256 := by
    unfold frB zs256
    rw [List.eq_replicate_iff]
    exact ⟨by rw [List.length_map, List.length_range], fun x hx => by obtain ⟨_, _, rfl⟩ := List.mem_map.1 hx; rfl⟩
  unfold frS zsS
  rw [this]
def RNewP (w : World) (n : Nat) (e : Ending) (w' : World) : Prop := ∃ q G, e = .returned (.tuple #[ptr q, .int .i64 0]) ∧ RMem w' q G ⟨n, fun _ => 0⟩ ∧ Fr [] w w' ∧ w.heap.size ≤ q ∧ w.heap.size ≤ G
set_option maxRecDepth 100000 in
set_option maxHeartbeats 1000000 in
theorem rNew_ok (n : Nat) (w : World) (h1 : 1 ≤ n) (h2 : n ≤ 160) : Calls Try.prog 41 #[.int .i64 n] w (RNewP w n) := by
  obtain ⟨i0, hi0, hz0, hz1, hz2⟩ := info3 Try.info9
  have d1 : ¬ (n : Int) < 1 := by omega
  have d2 : ¬ (160 : Int) < (n : Int) := by omega
  have Hz := Lib.hid fun W => noughts_any W
  go_enter Try.func41, Try.ntmps41
  go_wp2_with fail
  have Hb0 := Lib.hid (Blk.new w 126 #[.slice none 0 0])
  have Hf0 := Lib.hid ((Fr.refl [] w).alloc (.cells #[.slice none 0 0] 126))
  go_loopg [5] n (fun gg i wr => ∃ (k : Nat) (A : Option Addr) (c : Nat), k + gg = n ∧ i = .int .i64 k ∧ Blk wr w.heap.size 126 #[.slice A k c] ∧ wr.ownsRow (w.heap.size + 1) 9 1 (.slice A k c) k (zsV k) ∧ Fr [] w wr)
  case atStart => exact ⟨0, none, 0, by omega, rfl, Hb0.out, World.ownsRow_nil _ _ _ _, Hf0.out⟩
  case round =>
    obtain ⟨k, A, c, hk, rfl, hb, ho, hf⟩ := hrel
    have Hk := Lib.hid hk
    have Hf := Lib.hid hf
    have HB := Lib.hid hb
    have HO := Lib.hid ho
    by_cases hlt : k < n
    · have hki : (k : Int) < (n : Int) := by omega
      have hc0 := hb.cell 0
      simp at hc0
      have hkk : k + 1 ≤ maxLen := by simp only [maxLen]; omega
      have hkb : (k + 1) * 16 ≤ 140737488355328 := by omega
      have hlw : w.heap.size < wr.heap.size := hb.lt
      have HV : Hid (zsV (k + 1) = zsV k ++ [.string zsS]) := Lib.hid List.replicate_succ'
      have hfq : wr.frozen? ⟨w.heap.size, 0, none⟩ = false := hb.frozen 0
      clear hk hb ho hf
      generalize zsS = ZS at *
      generalize hZk : zsV k = ZV at *
      have HZk := Lib.hid hZk
      clear hZk
      go_wp2_with fail
      go_region_law (first
        | (go_simp; go_at_call 79; refine (Hz.out _).mono ?_; rintro e w3 ⟨rfl, hf3⟩
           have hF3 : Fr [] wr w3 := ((Fr.refl [] wr).drew).trans hf3
           have hc3 := hF3.cell_some hc0 (by simp)
           have hs3 : w.heap.size < w3.heap.size := by have := hF3.size; omega)
        | (refine step_append_lies _ rfl (.tmp 23) (.tmp 25) 70 rfl (w.heap.size + 1) 9 i0 (.string ⟨#[]⟩) 1 16 Try.underlying70 hi0 hz0 hz1 hz2 rfl (by omega) (.slice A k c) k ZV (by simp [Act.eval]) (own_fr HO.out (hF3.alloc (.cells #[.string ZS] 9)) (by simp)) ⟨w3.heap.size, 0, none⟩ 1 1 [.string ZS] (by simp [Act.eval]) rfl (news1 ((Blk.new w3 9 #[.string ZS]).cell 0)) (by simp [Value.oneCell']) (by omega) hkk hkb (by simp; omega) (w3.heap.size + 1) (by simp) ?_
           intro g cc w4 ho4 hg4 hat4 hlt4
           have hB4 := (HB.out.fr (hF3.alloc (.cells #[.string ZS] 9)) (by simp)).fr (Fr.of_own hg4) (fun hk => by have := (own_blk (own_fr HO.out (hF3.alloc (.cells #[.string ZS] 9)) (by simp)) _ hk).1; omega)
           have hF4 : Fr [] w w4 := (Hf.out.trans (hF3.alloc (.cells #[.string ZS] 9))).step (Fr.of_own hg4) (fun j hj => .inr (by have := (own_blk (own_fr HO.out (hF3.alloc (.cells #[.string ZS] 9)) (by simp)) _ hj).1; omega))
           have hc4 := hB4.cell 0
           have hfz4 := hB4.frozen 0
           simp at hc4)
        | fail)
      all_goals
        rw [← HV.out] at ho4
        have hbs := hB4.set_ 0 (.slice (some ⟨g, 0, none⟩) (k + 1) cc)
        have HB5 : Hid (Blk (w4.setCell ⟨w.heap.size, 0, none⟩ (.slice (some ⟨g, 0, none⟩) (k + 1) cc)) w.heap.size 126 #[.slice (some ⟨g, 0, none⟩) (k + 1) cc]) := Lib.hid hbs
        have HO5 := Lib.hid (own_fr ho4 ((Fr.refl [w.heap.size] w4).setCell (p := ⟨w.heap.size, 0, none⟩) (.inl (by simp)) (.slice (some ⟨g, 0, none⟩) (k + 1) cc)) (fun j hj cs hbj => by
          simp at hj
          subst hj
          exact absurd (hB4.eq hbj).1 (by decide)))
        have HF5 := Lib.hid (hF4.setCell (p := ⟨w.heap.size, 0, none⟩) (.inr (Nat.le_refl _)) (.slice (some ⟨g, 0, none⟩) (k + 1) cc))
        clear ho4 hg4 hat4 hlt4 hB4 hF4 hbs hc4 hfz4 hf3 hF3 hc3 hs3
        go_wp2_with fail
        go_roundg (n - (k + 1))
        case measure => have := Hk.out; omega
        case rel => exact ⟨k + 1, some ⟨g, 0, none⟩, cc, by have := Hk.out; omega, by go_num, HB5.out, HO5.out, HF5.out⟩
    · have hki : ¬ (k : Int) < (n : Int) := by omega
      obtain rfl : n = k := by omega
      clear hk hb ho hf
      go_wp2_with fail
      go_ret2
      rcases HO.out.2 with ⟨_, h0⟩ | ⟨g, cap, cur, hv, hbg, hh, h3, h4, h5, h6⟩
      · omega
      · injection hv with hA _ hc
        subst hA; subst hc
        refine ⟨w.heap.size, g, rfl, ⟨⟨⟨c, HB.out, h3, h4⟩, h1, h2⟩, cur, hh, fun i hi => ?_⟩, Hf.out, Nat.le_refl _, by omega⟩
        have hi' : i < n := hi
        rw [frS_zero]
        have h7 : (cur.toList.take (n * 1))[i]? = some (.string zsS) := by
          rw [h6]
          unfold zsV
          rw [List.getElem?_replicate, if_pos hi']
        rw [List.getElem?_take, if_pos (by omega)] at h7
        rw [← h7]
        exact (Array.getElem?_toList).symm
theorem rNew_any (n : Nat) (w : World) (h1 : 1 ≤ n) (h2 : n ≤ 160) : Calls Try.prog 41 #[.int .i64 n] w (RNewP w n) := rNew_ok n w h1 h2
end Go.Proofs.Ytonongaakieciaa
