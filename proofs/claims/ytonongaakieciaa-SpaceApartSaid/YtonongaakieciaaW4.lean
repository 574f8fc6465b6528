/- The program's memories: New, Frames, Frame, Lay, Clear, Clone. -/
import Derived.Test.YtonongaakieciaaW3
import Derived.Outline
import Derived.Laws.IdiomStrings
namespace Go.Proofs.Ytonongaakieciaa
open Go.RowKit
set_option linter.unusedVariables false
set_option maxRecDepth 100000
set_option linter.unusedSimpArgs false
/-- A memory of the program. -/
structure MemAt (w : World) (p F : Nat) (st : St) : Prop where
  hd : Hd w p F st.n
  fr : ∃ cs, Blk w F 136 cs ∧ ∀ j, j < st.n * 256 → cs[j]? = some (.int .u8 ((st.b j).toNat : Int))
theorem MemAt.to {S : List Nat} {w w' : World} {p F : Nat} {st : St} (h : MemAt w p F st) (hf : Fr S w w') (hp : p ∉ S) (hF : F ∉ S) : MemAt w' p F st := by
  obtain ⟨hd, cs, hb, hc⟩ := h
  exact ⟨hd.fr hf hp, cs, hb.fr hf hF, hc⟩
theorem MemAt.ltF {w : World} {p F : Nat} {st : St} (h : MemAt w p F st) : F < w.heap.size := by
  obtain ⟨hd, cs, hb, hc⟩ := h
  exact hb.lt
theorem MemAt.ne {w : World} {p F : Nat} {st : St} (h : MemAt w p F st) : p ≠ F := by
  obtain ⟨⟨⟨cap, hb', _⟩, _⟩, cs, hb, hc⟩ := h
  exact hb'.ne_ hb (by decide)
theorem MemAt.cell {w : World} {p F : Nat} {st : St} (h : MemAt w p F st) {j : Nat} (hj : j < st.n * 256) : w.cell? ⟨F, j, none⟩ = some (.int .u8 ((st.b j).toNat : Int)) := by
  obtain ⟨hd, cs, hb, hc⟩ := h
  rw [hb.cell, hc j hj]
theorem MemAt.frozen {w : World} {p F : Nat} {st : St} (h : MemAt w p F st) (j : Nat) : w.frozen? ⟨F, j, none⟩ = false := by
  obtain ⟨hd, cs, hb, hc⟩ := h
  exact hb.frozen j

set_option maxHeartbeats 400000 in
theorem New_bad (k : Int) (w : World) (h : k < 1 ∨ 160 < k) : Calls Try.prog 29 #[.int .i64 k] w fun e w' => e = .returned (.tuple #[.pointer none, .int .i64 80]) ∧ w = w' := by
  rcases h with h | h
  · go_enter Try.func29, Try.ntmps29
    go_wp2
    go_ret2
    exact ⟨rfl, rfl⟩
  · have h' : ¬ k < 1 := by omega
    go_enter Try.func29, Try.ntmps29
    go_wp2
    go_ret2
    exact ⟨rfl, rfl⟩
theorem Try.info136 : (Try.prog.info? 136).map (fun i => (i.size, i.bytes)) = some (256, 256) := by kernel_rfl
theorem Try.zero136 : (Try.prog.info? 136).map (fun i => i.zero) = some (some (.agg (Array.replicate 256 (.int .u8 0)))) := by kernel_rfl
/-- A make of frames: zeros. -/
theorem make_frames (n : Nat) (hn : n ≤ 160) : ∃ Z : Array Value, (∀ w : World, (Instr.makeSlice 128 (.int .i64 n) (.int .i64 n)).run Try.prog w = .ok (.slice (some ⟨w.heap.size, 0, none⟩) n n) (w.alloc (.cells Z 136))) ∧ ∀ j, j < n * 256 → Z[j]? = some (.int .u8 0) := by
  have h1 := Try.info136
  have h2 := Try.zero136
  cases hi : Try.prog.info? 136 with
  | none => rw [hi] at h1; cases h1
  | some i =>
    rw [hi] at h1 h2
    simp only [Option.map_some, Option.some.injEq, Prod.mk.injEq] at h1 h2
    refine ⟨madeCells (Value.agg (Array.replicate 256 (.int .u8 0))).cells (n * 256), fun w => ?_, fun j hj => ?_⟩
    · have := run_make (P := Try.prog) w 128 136 i _ Try.underlying128 hi h2 .i64 .i64 n n (by omega) (by omega) (by rw [h1.2]; omega) (by omega)
      rw [h1.1] at this
      simpa using this
    · have h3 : (Value.agg (Array.replicate 256 (.int .u8 0))).cells = Array.replicate 256 (.int .u8 0) := rfl
      rw [h3]
      simp [madeCells, hj, Array.getElem?_range]
      rw [Array.getElem!_eq_getD, Array.getD_eq_getD_getElem?]
      have : j % 256 < 256 := Nat.mod_lt _ (by omega)
      simp [this]
theorem New_ok (n : Nat) (w : World) (h1 : 1 ≤ n) (h2 : n ≤ 160) : Calls Try.prog 29 #[.int .i64 n] w fun e w' => e = .returned (.tuple #[ptr (w.heap.size + 1), .int .i64 0]) ∧ MemAt w' (w.heap.size + 1) w.heap.size ⟨n, fun _ => 0⟩ ∧ Fr [] w w' := by
  have h1' : ¬ (n : Int) < 1 := by omega
  have h2' : ¬ (160 : Int) < n := by omega
  obtain ⟨Z, hmk, hz⟩ := make_frames n h2
  have Hz := Lib.hid hz
  clear hz
  go_enter Try.func29, Try.ntmps29
  go_wp2
  go_ret2
  refine ⟨rfl, ⟨⟨⟨n, ?_, Nat.le_refl _, by simp [maxLen]; omega⟩, h1, h2⟩, Z, (Blk.new w 136 Z).alloc _, fun j hj => Hz.out j hj⟩, ((Fr.refl _ _).alloc _).alloc _⟩
  have := Blk.new (w.alloc (.cells Z 136)) 130 #[.slice (some ⟨w.heap.size, 0, none⟩) n n]
  rwa [World.size_alloc] at this
theorem Frames_any (p F : Nat) (st : St) (w : World) (h : MemAt w p F st) : Calls Try.prog 70 #[ptr p] w fun e w' => e = .returned (.int .i64 st.n) ∧ w = w' := by
  obtain ⟨cap, hc, -, -⟩ := h.hd.cell
  clear h
  go_enter Try.func70, Try.ntmps70
  go_wp2
  go_ret
  exact ⟨rfl, rfl⟩
/-- A string made of bytes in memory. -/
theorem conv_list {w : World} {g o n cap : Nat} (l : List UInt8) (hn : l.length = n) (hc : ∀ (j : Nat) (c : UInt8), l[j]? = some c → w.cell? ⟨g, o + j, none⟩ = some (.int .u8 (c.toNat : Int))) : (convert 118 9 (.slice (some ⟨g, o, none⟩) n cap)).run Try.prog w = .ok (.string ⟨l.toArray⟩) w := by
  subst hn
  refine run_convert_bytes_back (P := Try.prog) w 118 9 5 ⟨g, o, none⟩ cap l Try.underlying118 Try.underlying5 Try.underlying9 (fun j hj => ?_)
  rw [addr_add]
  exact hc j _ (List.getElem?_eq_getElem hj)
theorem conv_frame {w : World} {p F : Nat} {st : St} (h : MemAt w p F st) {f : Nat} (hf : f < st.n) : (convert 118 9 (.slice (some ⟨F, f * 256, none⟩) 256 256)).run Try.prog w = .ok (.string (frS st f)) w := by
  refine conv_list (frB st f) (frB_len st f) (fun j c hj => ?_)
  have hj' : j < 256 := by have := (List.getElem?_eq_some_iff.1 hj).1; rwa [frB_len] at this
  rw [frB_at st f j hj'] at hj
  injection hj with hj
  subst hj
  exact h.cell (by omega)
set_option maxHeartbeats 400000 in
theorem Frame_bad (p F : Nat) (st : St) (w : World) (f : Int) (h : MemAt w p F st) (hf : f < 0 ∨ (st.n : Int) ≤ f) : Calls Try.prog 48 #[ptr p, .int .i64 f] w fun e w' => e = .returned (.tuple #[.string ⟨#[]⟩, .int .i64 83]) ∧ w = w' := by
  obtain ⟨cap, hc, -, -⟩ := h.hd.cell
  clear h
  rcases hf with hf | hf
  · go_enter Try.func48, Try.ntmps48
    go_wp2
    go_ret2
    exact ⟨rfl, rfl⟩
  · have hf' : ¬ f < 0 := by omega
    go_enter Try.func48, Try.ntmps48
    go_wp2
    go_ret2
    exact ⟨rfl, rfl⟩
set_option maxHeartbeats 400000 in
theorem Frame_ok (p F : Nat) (st : St) (w : World) (f : Nat) (h : MemAt w p F st) (hf : f < st.n) : Calls Try.prog 48 #[ptr p, .int .i64 f] w fun e w' => e = .returned (.tuple #[.string (frS st f), .int .i64 0]) ∧ w = w' := by
  obtain ⟨cap, hc, hc1, hc2⟩ := h.hd.cell
  have hcv := conv_frame h hf
  have hf' : ¬ (st.n : Int) ≤ (f : Int) := by omega
  have hf2 : (f : Int) < (st.n : Int) := by omega
  clear h
  go_enter Try.func48, Try.ntmps48
  go_wp2
  go_ret2
  exact ⟨rfl, rfl⟩
end Go.Proofs.Ytonongaakieciaa
