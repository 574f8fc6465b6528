/- The reference's there. The program's memories: New, Frames, Frame, Lay, Clear, Clone. The program's memories: Lay, Clear, Clone. The program's memories: Clone. -/
import Derived.Test.YtonongaakieciaaW2
import Derived.IntWalk
import Derived.Outline
import Derived.Laws.IdiomStrings
import Derived.Lib.BufferWrite
import Derived.Lib.SlBuf
import Derived.Deep.MidRow
import Derived.Laws.CopyOwn
import Derived.Lib.SliceRun
namespace Go.Proofs.Ytonongaakieciaa
open Go.RowKit
set_option linter.unusedVariables false
set_option linter.unusedSimpArgs false
set_option maxRecDepth 100000 in
set_option maxHeartbeats 1000000 in
theorem there_neg (b m cap : Nat) (A : Option Addr) (t : List Pg) (w : World) (a r : Int) (n : Nat) (ht : Tb w b (.slice A m cap) t) (hm : m ≤ 16) (hn : n ≤ 4096) (ha : a < 0) :
    Calls Try.prog 93 #[.slice A m cap, .int .i64 a, .int .i64 n, .int .i64 r] w fun e w' => e = .returned (.int .i64 (thr t r a n)) ∧ Fr [] w w' := by
  by_cases h0 : n = 0
  · subst h0
    clear ht
    have e := Lib.hid (show thr t r a 0 = 0 from rfl)
    go_enter Try.func93, Try.ntmps93
    go_wp2_with fail
    refine wp_loop_rounds 1 ?_
    rw [rounds_succ]
    go_wp2_with fail
    go_ret
    exact ⟨ret_int (by rw [e.out]), Fr.refl _ _⟩
  · have e := Lib.hid (thr_no (t := t) (right := r) (n := n) (ch1_neg ha) (by omega) (by omega))
    have h1 : (0 : Int) < (n : Int) := by omega
    clear ht h0
    go_enter Try.func93, Try.ntmps93
    go_wp2_with fail
    refine wp_loop_rounds 1 ?_
    rw [rounds_succ]
    go_wp2_with fail
    go_ret
    exact ⟨ret_int (by rw [e.out]), Fr.refl _ _⟩
set_option maxRecDepth 100000 in
set_option maxHeartbeats 2000000 in
theorem there_pos (b m cap : Nat) (A : Option Addr) (t : List Pg) (w : World) (a : Nat) (r : Int) (n : Nat) (ht : Tb w b (.slice A m cap) t) (hm : m ≤ 16) (hn : n ≤ 4096) (ha : a ≤ 9223372036854775807) :
    Calls Try.prog 93 #[.slice A m cap, .int .i64 a, .int .i64 n, .int .i64 r] w fun e w' => e = .returned (.int .i64 (thr t r a n)) ∧ Fr [] w w' := by
  have hl := Lib.hid ht.n_eq
  have H := Lib.hid ht
  clear ht
  go_enter Try.func93, Try.ntmps93
  go_wp2
  go_loopg [9] n (fun g i wr => ∃ k : Nat, k + g = n ∧ i = .int .i64 k ∧ thr t r a n = thr t r ((a + k : Nat) : Int) g ∧ Fr [] w wr)
  case atStart => exact ⟨0, by omega, rfl, rfl, Fr.refl _ _⟩
  case round =>
    have Hgk : ∃ g, g = gk := ⟨_, rfl⟩
    obtain ⟨g, hg⟩ := Hgk
    subst hg
    obtain ⟨k, hk, rfl, hth, hfr⟩ := hrel
    have Hk := Lib.hid hk
    have Ht := Lib.hid hth
    by_cases hlt : k < n
    · have hlt' : (k : Int) < (n : Int) := by omega
      clear hk hth
      by_cases hfar : m * 256 ≤ a + k
      · have e := Lib.hid (show thr t r a n = 81 by rw [Ht.out]; exact thr_no (ch1_far (by have := hl.out; omega)) (by omega) (by have := Hk.out; omega))
        have d1 : 256 * (m : Int) - (k : Int) ≤ (a : Int) := by omega
        go_wp2_with fail
        go_ret
        exact ⟨ret_int (by rw [e.out]), hfr⟩
      · obtain ⟨⟨f, q⟩, hx⟩ : ∃ x, t[(a + k) / 256]? = some x := ⟨_, List.getElem?_eq_getElem (by have := hl.out; omega)⟩
        obtain ⟨off, hA, hbl, c0, c1⟩ := (H.out.fr hfr (by simp)).at_ hx
        subst hA
        have hch := ch1_at (right := r) hx
        simp only at c0 c1 hch
        have d1 : ¬ 256 * (m : Int) - (k : Int) ≤ (a : Int) := by omega
        have d2 : ((a : Int) + (k : Int)) / 256 < (m : Int) := by omega
        have d3 : (0 : Int) ≤ ((a : Int) + (k : Int)) / 256 := by omega
        have d4 : (a : Int) + (k : Int) ≤ 4096 := by omega
        clear hx hfar
        by_cases hf : f < 0
        · rw [if_pos hf] at hch
          have e := Lib.hid (show thr t r a n = 81 by rw [Ht.out]; exact thr_no hch (by omega) (by have := Hk.out; omega))
          clear hch
          go_wp2_with fail
          go_ret
          exact ⟨ret_int (by rw [e.out]), hfr.alloc _⟩
        · rw [if_neg hf] at hch
          have hf' : ¬ f < 0 := hf
          cases hq : (bits .and .i64 q r == 0) with
          | true =>
            rw [if_pos (by simpa using hq)] at hch
            have e := Lib.hid (show thr t r a n = 82 by rw [Ht.out]; exact thr_no hch (by omega) (by have := Hk.out; omega))
            clear hch
            go_wp2_with fail
            go_ret
            exact ⟨ret_int (by rw [e.out]), hfr.alloc _⟩
          | false =>
            rw [if_neg (by simpa using hq)] at hch
            have e := Lib.hid (show thr t r a n = thr t r ((a + (k + 1) : Nat) : Int) (g - 1) by rw [Ht.out, thr_yes hch (by have := Hk.out; omega)]; rfl)
            clear hch
            go_wp2_with fail
            go_roundg (g - 1)
            case measure => have := Hk.out; omega
            case rel => exact ⟨k + 1, by have := Hk.out; omega, by go_num, e.out, hfr.alloc _⟩
    · have hkn : g = 0 := by omega
      have hlt' : ¬ (k : Int) < (n : Int) := by omega
      have e := Lib.hid (show thr t r a n = 0 by rw [Ht.out, hkn]; rfl)
      clear hkn hk hth
      go_wp2_with fail
      go_ret
      exact ⟨ret_int (by rw [e.out]), hfr⟩
theorem there_any (b m cap : Nat) (A : Option Addr) (t : List Pg) (w : World) (a r : Int) (n : Nat) (ht : Tb w b (.slice A m cap) t) (hm : m ≤ 16) (hn : n ≤ 4096) (ha : a ≤ 9223372036854775807) :
    Calls Try.prog 93 #[.slice A m cap, .int .i64 a, .int .i64 n, .int .i64 r] w fun e w' => e = .returned (.int .i64 (thr t r a n)) ∧ Fr [] w w' := by
  by_cases h : a < 0
  · exact there_neg b m cap A t w a r n ht hm hn h
  · obtain ⟨k, rfl⟩ := Int.eq_ofNat_of_zero_le (by omega : 0 ≤ a)
    exact there_pos b m cap A t w k r n ht hm hn (by omega)
end Go.Proofs.Ytonongaakieciaa
namespace Go.Proofs.Ytonongaakieciaa
open Go.RowKit
set_option linter.unusedVariables false
set_option maxRecDepth 100000
set_option linter.unusedSimpArgs false
/-- A memory of the program. -/
structure MemAt (w : World) (p F : Nat) (st : St) : Prop where
  hd : Hd w p F st.n
  fr : ∃ cs, Blk w F 136 cs ∧ ∀ j, j < st.n * 256 → cs[j]? = some (.int .u8 ((st.b j).toNat : Int))
theorem MemAt.to {S : List Nat} {w w' : World} {p F : Nat} {st : St} (h : MemAt w p F st) (hf : Fr S w w') (hp : p ∉ S) (hF : F ∉ S) : MemAt w' p F st := by
  obtain ⟨hd, cs, hb, hc⟩ := h
  exact ⟨hd.fr hf hp, cs, hb.fr hf hF, hc⟩
theorem MemAt.ltF {w : World} {p F : Nat} {st : St} (h : MemAt w p F st) : F < w.heap.size := by
  obtain ⟨hd, cs, hb, hc⟩ := h
  exact hb.lt
theorem MemAt.ne {w : World} {p F : Nat} {st : St} (h : MemAt w p F st) : p ≠ F := by
  obtain ⟨⟨⟨cap, hb', _⟩, _⟩, cs, hb, hc⟩ := h
  exact hb'.ne_ hb (by decide)
theorem MemAt.cell {w : World} {p F : Nat} {st : St} (h : MemAt w p F st) {j : Nat} (hj : j < st.n * 256) : w.cell? ⟨F, j, none⟩ = some (.int .u8 ((st.b j).toNat : Int)) := by
  obtain ⟨hd, cs, hb, hc⟩ := h
  rw [hb.cell, hc j hj]
theorem MemAt.frozen {w : World} {p F : Nat} {st : St} (h : MemAt w p F st) (j : Nat) : w.frozen? ⟨F, j, none⟩ = false := by
  obtain ⟨hd, cs, hb, hc⟩ := h
  exact hb.frozen j

set_option maxHeartbeats 400000 in
theorem New_bad (k : Int) (w : World) (h : k < 1 ∨ 160 < k) : Calls Try.prog 29 #[.int .i64 k] w fun e w' => e = .returned (.tuple #[.pointer none, .int .i64 80]) ∧ w = w' := by
  rcases h with h | h
  · go_enter Try.func29, Try.ntmps29
    go_wp2
    go_ret2
    exact ⟨rfl, rfl⟩
  · have h' : ¬ k < 1 := by omega
    go_enter Try.func29, Try.ntmps29
    go_wp2
    go_ret2
    exact ⟨rfl, rfl⟩
theorem Try.info136 : (Try.prog.info? 136).map (fun i => (i.size, i.bytes)) = some (256, 256) := by kernel_rfl
theorem Try.zero136 : (Try.prog.info? 136).map (fun i => i.zero) = some (some (.agg (Array.replicate 256 (.int .u8 0)))) := by kernel_rfl
/-- A make of frames: zeros. -/
theorem make_frames (n : Nat) (hn : n ≤ 160) : ∃ Z : Array Value, (∀ w : World, (Instr.makeSlice 128 (.int .i64 n) (.int .i64 n)).run Try.prog w = .ok (.slice (some ⟨w.heap.size, 0, none⟩) n n) (w.alloc (.cells Z 136))) ∧ ∀ j, j < n * 256 → Z[j]? = some (.int .u8 0) := by
  have h1 := Try.info136
  have h2 := Try.zero136
  cases hi : Try.prog.info? 136 with
  | none => rw [hi] at h1; cases h1
  | some i =>
    rw [hi] at h1 h2
    simp only [Option.map_some, Option.some.injEq, Prod.mk.injEq] at h1 h2
    refine ⟨madeCells (Value.agg (Array.replicate 256 (.int .u8 0))).cells (n * 256), fun w => ?_, fun j hj => ?_⟩
    · have := run_make (P := Try.prog) w 128 136 i _ Try.underlying128 hi h2 .i64 .i64 n n (by omega) (by omega) (by rw [h1.2]; omega) (by omega)
      rw [h1.1] at this
      simpa using this
    · have h3 : (Value.agg (Array.replicate 256 (.int .u8 0))).cells = Array.replicate 256 (.int .u8 0) := rfl
      rw [h3]
      simp [madeCells, hj, Array.getElem?_range]
      rw [Array.getElem!_eq_getD, Array.getD_eq_getD_getElem?]
      have : j % 256 < 256 := Nat.mod_lt _ (by omega)
      simp [this]
theorem New_ok (n : Nat) (w : World) (h1 : 1 ≤ n) (h2 : n ≤ 160) : Calls Try.prog 29 #[.int .i64 n] w fun e w' => e = .returned (.tuple #[ptr (w.heap.size + 1), .int .i64 0]) ∧ MemAt w' (w.heap.size + 1) w.heap.size ⟨n, fun _ => 0⟩ ∧ Fr [] w w' := by
  have h1' : ¬ (n : Int) < 1 := by omega
  have h2' : ¬ (160 : Int) < n := by omega
  obtain ⟨Z, hmk, hz⟩ := make_frames n h2
  have Hz := Lib.hid hz
  clear hz
  go_enter Try.func29, Try.ntmps29
  go_wp2
  go_ret2
  refine ⟨rfl, ⟨⟨⟨n, ?_, Nat.le_refl _, by simp [maxLen]; omega⟩, h1, h2⟩, Z, (Blk.new w 136 Z).alloc _, fun j hj => Hz.out j hj⟩, ((Fr.refl _ _).alloc _).alloc _⟩
  have := Blk.new (w.alloc (.cells Z 136)) 130 #[.slice (some ⟨w.heap.size, 0, none⟩) n n]
  rwa [World.size_alloc] at this
theorem Frames_any (p F : Nat) (st : St) (w : World) (h : MemAt w p F st) : Calls Try.prog 70 #[ptr p] w fun e w' => e = .returned (.int .i64 st.n) ∧ w = w' := by
  obtain ⟨cap, hc, -, -⟩ := h.hd.cell
  clear h
  go_enter Try.func70, Try.ntmps70
  go_wp2
  go_ret
  exact ⟨rfl, rfl⟩
/-- A string made of bytes in memory. -/
theorem conv_list {w : World} {g o n cap : Nat} (l : List UInt8) (hn : l.length = n) (hc : ∀ (j : Nat) (c : UInt8), l[j]? = some c → w.cell? ⟨g, o + j, none⟩ = some (.int .u8 (c.toNat : Int))) : (convert 118 9 (.slice (some ⟨g, o, none⟩) n cap)).run Try.prog w = .ok (.string ⟨l.toArray⟩) w := by
  subst hn
  refine run_convert_bytes_back (P := Try.prog) w 118 9 5 ⟨g, o, none⟩ cap l Try.underlying118 Try.underlying5 Try.underlying9 (fun j hj => ?_)
  rw [addr_add]
  exact hc j _ (List.getElem?_eq_getElem hj)
theorem conv_frame {w : World} {p F : Nat} {st : St} (h : MemAt w p F st) {f : Nat} (hf : f < st.n) : (convert 118 9 (.slice (some ⟨F, f * 256, none⟩) 256 256)).run Try.prog w = .ok (.string (frS st f)) w := by
  refine conv_list (frB st f) (frB_len st f) (fun j c hj => ?_)
  have hj' : j < 256 := by have := (List.getElem?_eq_some_iff.1 hj).1; rwa [frB_len] at this
  rw [frB_at st f j hj'] at hj
  injection hj with hj
  subst hj
  exact h.cell (by omega)
set_option maxHeartbeats 400000 in
theorem Frame_bad (p F : Nat) (st : St) (w : World) (f : Int) (h : MemAt w p F st) (hf : f < 0 ∨ (st.n : Int) ≤ f) : Calls Try.prog 48 #[ptr p, .int .i64 f] w fun e w' => e = .returned (.tuple #[.string ⟨#[]⟩, .int .i64 83]) ∧ w = w' := by
  obtain ⟨cap, hc, -, -⟩ := h.hd.cell
  clear h
  rcases hf with hf | hf
  · go_enter Try.func48, Try.ntmps48
    go_wp2
    go_ret2
    exact ⟨rfl, rfl⟩
  · have hf' : ¬ f < 0 := by omega
    go_enter Try.func48, Try.ntmps48
    go_wp2
    go_ret2
    exact ⟨rfl, rfl⟩
set_option maxHeartbeats 400000 in
theorem Frame_ok (p F : Nat) (st : St) (w : World) (f : Nat) (h : MemAt w p F st) (hf : f < st.n) : Calls Try.prog 48 #[ptr p, .int .i64 f] w fun e w' => e = .returned (.tuple #[.string (frS st f), .int .i64 0]) ∧ w = w' := by
  obtain ⟨cap, hc, hc1, hc2⟩ := h.hd.cell
  have hcv := conv_frame h hf
  have hf' : ¬ (st.n : Int) ≤ (f : Int) := by omega
  have hf2 : (f : Int) < (st.n : Int) := by omega
  clear h
  go_enter Try.func48, Try.ntmps48
  go_wp2
  go_ret2
  exact ⟨rfl, rfl⟩
end Go.Proofs.Ytonongaakieciaa
namespace Go.Proofs.Ytonongaakieciaa
open Go.RowKit
set_option linter.unusedVariables false
set_option maxRecDepth 100000
set_option linter.unusedSimpArgs false
theorem Fr.setRow {S : List Nat} {w0 w : World} (h : Fr S w0 w) {g : Nat} (hg : g ∈ S ∨ w0.heap.size ≤ g) (cs : Array Value) : Fr S w0 (w.setRow g cs) :=
  ⟨h.os, h.tape, h.output, by simpa [World.setRow] using h.size, fun k hk hn => (setRow_other w g k cs (by
    rintro rfl
    rcases hg with hg | hg
    · exact hn hg
    · omega)).trans (h.block k hk hn)⟩
/-- The cells say the bytes. -/
def Says (cs : Array Value) (n : Nat) (b : Nat → UInt8) : Prop := ∀ j, j < n → cs[j]? = some (.int .u8 ((b j).toNat : Int))
theorem Says.upd {cs : Array Value} {n : Nat} {b : Nat → UInt8} (h : Says cs n b) (k : Nat) (c : UInt8) : Says (cs.setIfInBounds k (.int .u8 (c.toNat : Int))) n (upd b k c) := by
  intro j hj
  have h1 := h j hj
  by_cases hjk : j = k
  · subst hjk
    rw [Array.getElem?_setIfInBounds_self_of_lt (Array.getElem?_eq_some_iff.1 h1).1]
    unfold Go.Proofs.Ytonongaakieciaa.upd
    rw [if_pos rfl]
  · rw [Array.getElem?_setIfInBounds_ne (Ne.symm hjk), h1, upd_ne hjk]
def bv (c : UInt8) : Value := .int .u8 (c.toNat : Int)
/-- The cells once bytes were stored from a place on. -/
def putC : Array Value → Nat → List Value → Array Value
  | cs, _, [] => cs
  | cs, k, v :: vs => putC (cs.setIfInBounds k v) (k + 1) vs
theorem Blk.setCells {g : Nat} {t : TypeId} : ∀ (vs : List Value) (cs : Array Value) (k : Nat) (w : World), Blk w g t cs → Blk (w.setCells g k vs) g t (putC cs k vs) := by
  intro vs
  induction vs with
  | nil => intro cs k w h; exact h
  | cons v vs ih => intro cs k w h; exact ih _ _ _ (h.set_ k v)
theorem Fr.setCells {S : List Nat} {w : World} {g : Nat} (hg : g ∈ S ∨ w.heap.size ≤ g) : ∀ (vs : List Value) (k : Nat) (w' : World), Fr S w w' → Fr S w (w'.setCells g k vs) := by
  intro vs
  induction vs with
  | nil => intro k w' h; exact h
  | cons v vs ih => intro k w' h; exact ih _ _ (h.setCell hg v)
theorem Says.putC {n : Nat} : ∀ (s : List UInt8) (cs : Array Value) (k : Nat) (b : Nat → UInt8), Says cs n b → Says (putC cs k (s.map bv)) n (putL b k s) := by
  intro s
  induction s with
  | nil => intro cs k b h; exact h
  | cons c s ih => intro cs k b h; exact ih _ _ _ (h.upd k c)
theorem byteCells_bv (s : List UInt8) : Lib.byteCells s = s.map bv := rfl
/-- What a copy of a text lays. -/
theorem Says.splice {n : Nat} {cs : Array Value} {b : Nat → UInt8} (h : Says cs n b) (k : Nat) (s : List UInt8) (hk : k + s.length ≤ n) : Says (cs.toList.take k ++ Lib.byteCells s ++ cs.toList.drop (k + s.length)).toArray n (putL b k s) := by
  intro j hj
  have hsz : n ≤ cs.size := by
    cases hn : n with
    | zero => omega
    | succ m =>
      have := (Array.getElem?_eq_some_iff.1 (h m (by omega))).1
      omega
  rw [byteCells_bv]
  simp only [List.getElem?_toArray]
  by_cases h1 : j < k
  · rw [List.append_assoc, List.getElem?_append_left (by simp; omega), List.getElem?_take, if_pos h1, putL_out _ _ _ _ (by omega)]
    have := h j hj
    simpa using this
  · by_cases h2 : j < k + s.length
    · obtain ⟨c, hc⟩ : ∃ c, s[j - k]? = some c := ⟨_, List.getElem?_eq_getElem (by omega)⟩
      have := putL_in s b k (j - k) c hc
      rw [show k + (j - k) = j from by omega] at this
      rw [this, List.getElem?_append_left (by simp; omega), List.getElem?_append_right (by simp; omega)]
      simp only [List.length_take, Array.length_toList, Nat.min_eq_left (by omega : k ≤ cs.size), List.getElem?_map, hc, Option.map_some]
      rfl
    · rw [List.getElem?_append_right (by simp; omega), putL_out _ _ _ _ (by omega)]
      have := h j hj
      simp only [List.length_append, List.length_take, Array.length_toList, Nat.min_eq_left (by omega : k ≤ cs.size), List.length_map, List.getElem?_drop]
      rw [show k + s.length + (j - (k + s.length)) = j from by omega]
      simpa using this
theorem MemAt.of {w : World} {p F : Nat} {n : Nat} {b : Nat → UInt8} {cs : Array Value} (hd : Hd w p F n) (hb : Blk w F 136 cs) (h : Says cs (n * 256) b) : MemAt w p F ⟨n, b⟩ := ⟨hd, cs, hb, h⟩
theorem MemAt.says {w : World} {p F : Nat} {st : St} (h : MemAt w p F st) : ∃ cs, Blk w F 136 cs ∧ Says cs (st.n * 256) st.b := h.fr

/-- What Lay leaves, and tells. -/
def layE (n : Nat) (f a : Int) (s : ByteArray) : Int := if f < 0 ∨ (n : Int) ≤ f then 83 else if a < 0 ∨ 256 < a ∨ 256 - a < s.size then 80 else 0
def LayP (w : World) (p F : Nat) (st : St) (f a : Int) (s : ByteArray) (e : Ending) (w' : World) : Prop :=
  e = .returned (.int .i64 (layE st.n f a s)) ∧ MemAt w' p F (if layE st.n f a s = 0 then ⟨st.n, putL st.b (f.toNat * 256 + a.toNat) s.data.toList⟩ else st) ∧ Fr [F] w w'
set_option maxHeartbeats 400000 in
theorem Lay_bad (p F : Nat) (st : St) (w : World) (f a : Int) (s : ByteArray) (h : MemAt w p F st) (hs : s.size ≤ 1152921504606846976) (hb : (f < 0 ∨ (st.n : Int) ≤ f) ∨ (a < 0 ∨ 256 < a ∨ 256 - a < s.size)) :
    Calls Try.prog 31 #[ptr p, .int .i64 f, .int .i64 a, .string s] w fun e w' => e = .returned (.int .i64 (layE st.n f a s)) ∧ w = w' := by
  obtain ⟨cap, hc, -, -⟩ := h.hd.cell
  have e0 : (if f < 0 ∨ (st.n : Int) ≤ f then (83 : Int) else 80) = layE st.n f a s := by
    unfold layE
    by_cases h1 : f < 0 ∨ (st.n : Int) ≤ f
    · rw [if_pos h1, if_pos h1]
    · rw [if_neg h1, if_neg h1, if_pos (hb.resolve_left h1)]
  have E := Lib.hid e0
  clear h e0
  obtain ⟨N, hN⟩ : ∃ N, s.size = N := ⟨_, rfl⟩
  rw [hN] at hb hs
  by_cases h1 : f < 0
  · rw [if_pos (.inl h1)] at E
    go_enter Try.func31, Try.ntmps31
    go_wp2
    go_ret
    exact ⟨ret_int E.out, rfl⟩
  · by_cases h2 : (st.n : Int) ≤ f
    · rw [if_pos (.inr h2)] at E
      go_enter Try.func31, Try.ntmps31
      go_wp2
      go_ret
      exact ⟨ret_int E.out, rfl⟩
    · rw [if_neg (by omega)] at E
      have hb' := hb.resolve_left (by omega)
      by_cases h3 : a < 0
      · clear hb hb'
        go_enter Try.func31, Try.ntmps31
        go_wp2
        go_ret
        exact ⟨ret_int E.out, rfl⟩
      · by_cases h4 : 256 < a
        · clear hb hb'
          go_enter Try.func31, Try.ntmps31
          go_wp2
          go_ret
          exact ⟨ret_int E.out, rfl⟩
        · have h5 : 256 - a < (N : Int) := by omega
          clear hb hb'
          go_enter Try.func31, Try.ntmps31
          go_wp2
          go_ret
          exact ⟨ret_int E.out, rfl⟩
theorem Try.size5 : (Try.prog.info? 5).map (fun i => i.size) = some 1 := by kernel_rfl
theorem Try.size5' : ((Try.prog.info? 5).map (fun i => i.size)).isSome = true := by kernel_rfl
set_option maxRecDepth 100000 in
set_option maxHeartbeats 400000 in
theorem Lay_ok (p F : Nat) (st : St) (w : World) (f a : Nat) (s : ByteArray) (h : MemAt w p F st) (hf : f < st.n) (ha : a + s.size ≤ 256) :
    Calls Try.prog 31 #[ptr p, .int .i64 f, .int .i64 a, .string s] w fun e w' => e = .returned (.int .i64 0) ∧ MemAt w' p F ⟨st.n, putL st.b (f * 256 + a) s.data.toList⟩ ∧ Fr [F] w w' := by
  obtain ⟨cap, hc, hcap, hcm⟩ := h.hd.cell
  obtain ⟨cs, hb, hsay⟩ := h.says
  have hd := h.hd
  have hne := h.ne
  have eS : s.data.toList.length = s.size := rfl
  have hcs : st.n * 256 ≤ cs.size := by
    have hn := h.hd.n1
    have := (Array.getElem?_eq_some_iff.1 (hsay (st.n * 256 - 1) (by omega))).1
    omega
  have h1 : ¬ (st.n : Int) ≤ (f : Int) := by omega
  have h1' : (f : Int) < (st.n : Int) := by omega
  have h2 : ¬ (256 : Int) < (a : Int) := by omega
  by_cases h0 : s.size = 0
  · have hr := fun d dl dc => Lib.run_copy_empty_string (P := Try.prog) w 118 9 3 5 d dl dc s Try.underlying118 Try.size5' h0
    have e0 : putL st.b (f * 256 + a) s.data.toList = st.b := by
      rw [List.eq_nil_of_length_eq_zero (by omega : s.data.toList.length = 0)]
      rfl
    have HM := Lib.hid h
    have E0 := Lib.hid e0
    have h3 : ¬ (256 : Int) - (a : Int) < 0 := by omega
    have h4 : (a : Int) ≤ 256 := by omega
    have h5 : (0 : Int) ≤ (a : Int) := by omega
    clear h hb hsay hd e0 eS ha
    by_cases ha' : a = 256
    · subst ha'
      go_enter Try.func31, Try.ntmps31
      go_wp2_with (with_reducible refine Lib.wpList_copy_run _ rfl (.tmp 40) (.tmp 41) 118 9 rfl _ _ rfl rfl (hr _ _ _) ?_)
      go_ret
      refine ⟨rfl, ?_, Fr.refl _ _⟩
      rw [E0.out]
      exact HM.out
    · go_enter Try.func31, Try.ntmps31
      go_wp2_with (with_reducible refine Lib.wpList_copy_run _ rfl (.tmp 40) (.tmp 41) 118 9 rfl _ _ rfl rfl (hr _ _ _) ?_)
      go_ret
      refine ⟨rfl, ?_, Fr.refl _ _⟩
      rw [E0.out]
      exact HM.out
  · have hr := fun dc => Lib.run_copy_row_string (P := Try.prog) w 118 9 3 5 F (f * 256 + a) (256 - a) dc s cs 136 Try.underlying118 Try.size5 hb (by omega) (by omega)
    have hblk : Blk (w.setRow F (cs.toList.take (f * 256 + a) ++ Lib.byteCells s.data.toList ++ cs.toList.drop (f * 256 + a + s.size)).toArray) F 136 (cs.toList.take (f * 256 + a) ++ Lib.byteCells s.data.toList ++ cs.toList.drop (f * 256 + a + s.size)).toArray := setRow_heap w F _ _ 136 _ hb
    have hfr : Fr [F] w (w.setRow F (cs.toList.take (f * 256 + a) ++ Lib.byteCells s.data.toList ++ cs.toList.drop (f * 256 + a + s.size)).toArray) := (Fr.refl _ w).setRow (.inl (by simp)) _
    have hs2 := hsay.splice (f * 256 + a) s.data.toList (by omega)
    rw [eS] at hs2
    have HM : Hid (MemAt _ p F ⟨st.n, putL st.b (f * 256 + a) s.data.toList⟩) := Lib.hid (MemAt.of (hd.fr hfr (by simpa using hne)) hblk hs2)
    have HF := Lib.hid hfr
    have ha2 : a < 256 := by omega
    obtain ⟨N, hN⟩ : ∃ N, s.size = N := ⟨_, rfl⟩
    have h3 : ¬ (256 : Int) - (a : Int) < (N : Int) := by omega
    have h4 : (a : Int) ≤ 256 := by omega
    have h5 : (0 : Int) ≤ (a : Int) := by omega
    have h6 : ¬ a = 256 := by omega
    clear h hb hsay hd eS ha hs2 hblk hfr
    generalize w.setRow F (cs.toList.take (f * 256 + a) ++ Lib.byteCells s.data.toList ++ cs.toList.drop (f * 256 + a + s.size)).toArray = W at *
    rw [hN] at hr
    go_enter Try.func31, Try.ntmps31
    go_wp2_with (with_reducible refine Lib.wpList_copy_run _ rfl (.tmp 40) (.tmp 41) 118 9 rfl _ _ rfl rfl (hr _) ?_)
    go_ret
    exact ⟨rfl, HM.out, HF.out⟩
theorem Lay_any (p F : Nat) (st : St) (w : World) (f a : Int) (s : ByteArray) (h : MemAt w p F st) (hs : s.size ≤ 1152921504606846976) : Calls Try.prog 31 #[ptr p, .int .i64 f, .int .i64 a, .string s] w (LayP w p F st f a s) := by
  by_cases hb : (f < 0 ∨ (st.n : Int) ≤ f) ∨ (a < 0 ∨ 256 < a ∨ 256 - a < s.size)
  · refine (Lay_bad p F st w f a s h hs hb).mono fun e w' ⟨he, hw⟩ => ?_
    subst hw
    refine ⟨he, ?_, Fr.refl _ _⟩
    have hne : layE st.n f a s ≠ 0 := by
      unfold layE
      rcases hb with h1 | h1
      · rw [if_pos h1]; omega
      · split
        · omega
        · first | omega | (rw [if_pos h1]; omega)
    rw [if_neg hne]
    exact h
  · obtain ⟨f', rfl⟩ := Int.eq_ofNat_of_zero_le (by omega : 0 ≤ f)
    obtain ⟨a', rfl⟩ := Int.eq_ofNat_of_zero_le (by omega : 0 ≤ a)
    have h0 : layE st.n f' a' s = 0 := by
      unfold layE
      rw [if_neg (by omega), if_neg (by omega)]
    refine (Lay_ok p F st w f' a' s h (by omega) (by omega)).mono fun e w' ⟨he, hm, hf⟩ => ⟨by rw [h0]; exact he, ?_, hf⟩
    rw [if_pos h0]
    exact hm
/-- Zeros. -/
def zs256 : List UInt8 := List.replicate 256 0
theorem zs256_len : zs256.length = 256 := List.length_replicate
theorem zs256_bv : zs256.map bv = List.replicate 256 (.int .u8 0) := List.map_replicate
def clE (n : Nat) (f : Int) : Int := if f < 0 ∨ (n : Int) ≤ f then 83 else 0
def ClearP (w : World) (p F : Nat) (st : St) (f : Int) (e : Ending) (w' : World) : Prop :=
  e = .returned (.int .i64 (clE st.n f)) ∧ MemAt w' p F (if clE st.n f = 0 then ⟨st.n, putL st.b (f.toNat * 256) zs256⟩ else st) ∧ Fr [F] w w'
set_option maxHeartbeats 400000 in
theorem Clear_bad (p F : Nat) (st : St) (w : World) (f : Int) (h : MemAt w p F st) (hb : f < 0 ∨ (st.n : Int) ≤ f) : Calls Try.prog 60 #[ptr p, .int .i64 f] w fun e w' => e = .returned (.int .i64 83) ∧ w = w' := by
  obtain ⟨cap, hc, -, -⟩ := h.hd.cell
  clear h
  rcases hb with hb | hb
  · go_enter Try.func60, Try.ntmps60
    go_wp2
    go_ret
    exact ⟨rfl, rfl⟩
  · have hf' : ¬ f < 0 := by omega
    go_enter Try.func60, Try.ntmps60
    go_wp2
    go_ret
    exact ⟨rfl, rfl⟩
theorem zero_frame : ∃ Z : Array Value, (∀ w : World, (zeroValue 136).run Try.prog w = .ok (.agg Z) w) ∧ Z.toList = zs256.map bv ∧ Z.size = 256 ∧ Z.all (·.oneCell') = true :=
  ⟨Array.replicate 256 (.int .u8 0), fun w => by kernel_rfl, by rw [zs256_bv, Array.toList_replicate], Array.size_replicate, by rw [Array.all_eq_true_iff_forall_mem]; intro x hx; rw [Array.mem_replicate] at hx; rw [hx.2]; rfl⟩
set_option maxRecDepth 100000 in
set_option maxHeartbeats 400000 in
theorem Clear_ok (p F : Nat) (st : St) (w : World) (f : Nat) (h : MemAt w p F st) (hf : f < st.n) : Calls Try.prog 60 #[ptr p, .int .i64 f] w fun e w' => e = .returned (.int .i64 0) ∧ MemAt w' p F ⟨st.n, putL st.b (f * 256) zs256⟩ ∧ Fr [F] w w' := by
  obtain ⟨cap, hc, hcap, hcm⟩ := h.hd.cell
  have hf' : ¬ (st.n : Int) ≤ (f : Int) := by omega
  have hf2 : (f : Int) < (st.n : Int) := by omega
  obtain ⟨Z, hz, hzl, hzs, hz1⟩ := zero_frame
  have hinfo : (Try.prog.info? 136).map (·.size) = some Z.size := by
    rw [hzs]
    have := Try.info136
    cases hi : Try.prog.info? 136 with
    | none => rw [hi] at this; cases this
    | some i => rw [hi] at this; simp at this; simp [this.1]
  obtain ⟨cs, hb, hsay⟩ := h.says
  have hth : w.there F (f * 256) Z.size := fun j hj => ⟨by rw [h.cell (by omega)]; rfl, h.frozen _⟩
  have HM : Hid (MemAt (w.setCells F (f * 256) Z.toList) p F ⟨st.n, putL st.b (f * 256) zs256⟩) := by
    refine Lib.hid (MemAt.of (h.hd.fr (Fr.setCells (S := [F]) (.inl (by simp)) _ _ _ (Fr.refl _ w)) (by simpa using h.ne)) (hb.setCells _ _ _ _) ?_)
    rw [hzl]
    exact hsay.putC _ _ _ _
  have HF : Hid (Fr [F] w (w.setCells F (f * 256) Z.toList)) := Lib.hid (Fr.setCells (S := [F]) (.inl (by simp)) _ _ _ (Fr.refl _ w))
  have Hth := Lib.hid hth
  have Hi := Lib.hid hinfo
  clear h hb hsay hth hzl hzs hinfo
  go_enter Try.func60, Try.ntmps60
  go_wp2_with (with_reducible refine wpList_store_mid rfl 136 (.tmp 22) (.tmp 21) rfl F (f * 256) Z rfl rfl Hth.out Hi.out hz1 ?_)
  go_ret
  exact ⟨rfl, HM.out, HF.out⟩
theorem Clear_any (p F : Nat) (st : St) (w : World) (f : Int) (h : MemAt w p F st) : Calls Try.prog 60 #[ptr p, .int .i64 f] w (ClearP w p F st f) := by
  by_cases hb : f < 0 ∨ (st.n : Int) ≤ f
  · refine (Clear_bad p F st w f h hb).mono fun e w' ⟨he, hw⟩ => ?_
    subst hw
    have h0 : clE st.n f = 83 := if_pos hb
    refine ⟨by rw [h0]; exact he, ?_, Fr.refl _ _⟩
    rw [h0, if_neg (by omega)]
    exact h
  · obtain ⟨f', rfl⟩ := Int.eq_ofNat_of_zero_le (by omega : 0 ≤ f)
    have h0 : clE st.n f' = 0 := if_neg hb
    refine (Clear_ok p F st w f' h (by omega)).mono fun e w' ⟨he, hm, hf⟩ => ⟨by rw [h0]; exact he, ?_, hf⟩
    rw [if_pos h0]
    exact hm
end Go.Proofs.Ytonongaakieciaa
namespace Go.Proofs.Ytonongaakieciaa
open Go.RowKit
set_option linter.unusedVariables false
set_option maxRecDepth 100000
set_option linter.unusedSimpArgs false
theorem frame_info : ∃ i z, Try.prog.info? 136 = some i ∧ i.zero = some z ∧ i.size = 256 ∧ i.bytes = 256 ∧ z.cells.size = 256 := by
  have h1 := Try.info136
  have h2 := Try.zero136
  cases hi : Try.prog.info? 136 with
  | none => rw [hi] at h1; cases h1
  | some i =>
    rw [hi] at h1 h2
    simp only [Option.map_some, Option.some.injEq, Prod.mk.injEq] at h1 h2
    exact ⟨i, _, rfl, h2, h1.1, h1.2, Array.size_replicate⟩
theorem Says.list {cs : Array Value} {n : Nat} {b : Nat → UInt8} (h : Says cs n b) (hn : n ≤ cs.size) : (cs.toList.take n).length = n ∧ (∀ u ∈ cs.toList.take n, u.oneCell' = true) ∧ ∀ (j : Nat) (u : Value), (cs.toList.take n)[j]? = some u → cs[j]? = some u ∧ j < n := by
  have hj : ∀ (j : Nat) (u : Value), (cs.toList.take n)[j]? = some u → cs[j]? = some u ∧ j < n := by
    intro j u hu
    rw [List.getElem?_take] at hu
    split at hu
    · exact ⟨by simpa using hu, by assumption⟩
    · cases hu
  refine ⟨by simp [hn], fun u hu => ?_, hj⟩
  obtain ⟨j, hju⟩ := List.mem_iff_getElem?.1 hu
  obtain ⟨h1, h2⟩ := hj j u hju
  rw [h j h2] at h1
  injection h1 with h1
  subst h1
  rfl
theorem Says.size {cs : Array Value} {n : Nat} {b : Nat → UInt8} (h : Says cs n b) : n ≤ cs.size := by
  cases hn : n with
  | zero => omega
  | succ m =>
    have := (Array.getElem?_eq_some_iff.1 (h m (by omega))).1
    omega
def CloneP (w : World) (n : Nat) (b : Nat → UInt8) (e : Ending) (w' : World) : Prop := ∃ g cap cs, e = .returned (.slice (some ⟨g, 0, none⟩) n cap) ∧ Blk w' g 136 cs ∧ Says cs (n * 256) b ∧ n ≤ cap ∧ cap ≤ maxLen ∧ Fr [] w w' ∧ w.heap.size ≤ g
set_option maxRecDepth 100000 in
set_option maxHeartbeats 400000 in
theorem sclone_any (w : World) (F n cap : Nat) (cs : Array Value) (b : Nat → UInt8) (hb : Blk w F 136 cs) (hs : Says cs (n * 256) b) (hn : n ≤ 160) (hn1 : 1 ≤ n) :
    Calls Try.prog 94 #[.slice (some ⟨F, 0, none⟩) n cap] w (CloneP w n b) := by
  obtain ⟨i0, z, hi0, hz0, hz1, hz2, hz3⟩ := frame_info
  have hnil := fun w => Lib.run_eql_slice_nil (P := Try.prog) w 128 136 (some ⟨F, 0, none⟩) n cap 0 0 Try.underlying128
  have Hm0 := Lib.hid (World.ownsRow_made (base := w.heap.size) (e := 136) (size := 256) w #[] 0 (Nat.le_refl _) (by simp [maxLen]) (by simp))
  obtain ⟨l1, l2, l3⟩ := hs.list hs.size
  have Hcell : Hid (∀ (j : Nat) (u : Value), (cs.toList.take (n * 256))[j]? = some u → (w.alloc (.cells #[] 136)).cell? ((⟨F, 0, none⟩ : Addr).add j) = some u) := Lib.hid (by
    intro j u hu
    rw [addr_add, Nat.zero_add, (hb.alloc (.cells #[] 136)).cell]
    exact (l3 j u hu).1)
  have L1 := Lib.hid l1
  have L2 := Lib.hid l2
  have L3 := Lib.hid l3
  have HS := Lib.hid hs
  have Hf0 := Lib.hid ((Fr.refl [] w).alloc (.cells #[] 136))
  have hb1 : 0 + n ≤ maxLen := by simp only [maxLen]; omega
  have hb2 : (0 + n) * 256 ≤ 140737488355328 := by omega
  clear hb hs l1 l2 l3
  generalize cs.toList.take (n * 256) = news at *
  go_enter Try.func94, Try.ntmps94
  go_wp2_with (at_builtin; go_must (refine wpList_append_own _ rfl (.tmp 5) (.tmp 6) 128 rfl w.heap.size 136 i0 z 256 256 Try.underlying128 hi0 hz0 hz1 hz2 hz3 (by omega) _ _ _ rfl Hm0.out _ n cap news rfl L1.out Hcell.out L2.out hb1 hb2 (by simp) ?_; intro v1 w1 hown1 hgrow1 hnn; have hf1 := Hf0.out.own Hm0.out hgrow1))
  go_ret
  have hv : v1 ≠ .slice none 0 0 := fun h => by have := (hnn.1 h).1; cases this
  rcases hown1.2 with ⟨h1, h2⟩ | ⟨g1, cap1, cur, rfl, h1, h2, h3, h4, h5, h6⟩
  · exact absurd h1 hv
  · refine ⟨g1, cap1, cur, by simp, h2, fun j hj => ?_, by omega, h4, hf1, h1⟩
    have h7 := (List.getElem?_eq_getElem (show j < news.length by rw [L1.out]; exact hj))
    have h8 := (L3.out j _ h7).1
    rw [HS.out j hj] at h8
    rw [List.nil_append] at h6
    rw [h8, ← h7, ← h6, List.getElem?_take]
    rw [if_pos (by simpa using hj)]
    simp
def ClP (w : World) (st : St) (e : Ending) (w' : World) : Prop := ∃ p F, e = .returned (ptr p) ∧ MemAt w' p F st ∧ Fr [] w w' ∧ w.heap.size ≤ p ∧ w.heap.size ≤ F
set_option maxHeartbeats 400000 in
theorem Clone_any (p F : Nat) (st : St) (w : World) (h : MemAt w p F st) : Calls Try.prog 67 #[ptr p] w (ClP w st) := by
  obtain ⟨cap, hc, hcap, hcm⟩ := h.hd.cell
  obtain ⟨cs, hb, hsay⟩ := h.says
  have h1 := h.hd.n1
  have h2 := h.hd.n2
  have HC := Lib.hid (sclone_any w F st.n cap cs st.b hb hsay h2 h1)
  clear h hb hsay
  go_enter Try.func67, Try.ntmps67
  go_wp2_with fail
  refine HC.out.mono ?_
  rintro e w1 ⟨g, cap1, cs1, rfl, hb1, hs1, hc1, hc2, hf1, hg1⟩
  have Hb := Lib.hid hb1
  have Hs := Lib.hid hs1
  have Hf := Lib.hid hf1
  have hz := hf1.size
  clear hb1 hs1 hf1
  go_wp2_with fail
  go_ret
  refine ⟨w1.heap.size, g, rfl, ⟨⟨⟨cap1, Blk.new _ _ _, hc1, hc2⟩, h1, h2⟩, cs1, Hb.out.alloc _, Hs.out⟩, Hf.out.alloc _, hz, hg1⟩
end Go.Proofs.Ytonongaakieciaa
