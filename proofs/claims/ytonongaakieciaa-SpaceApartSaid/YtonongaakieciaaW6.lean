/- The program's memories: Clone. -/
import Derived.Test.YtonongaakieciaaW5
import Derived.Lib.SliceRun
namespace Go.Proofs.Ytonongaakieciaa
open Go.RowKit
set_option linter.unusedVariables false
set_option maxRecDepth 100000
set_option linter.unusedSimpArgs false
theorem frame_info : ∃ i z, Try.prog.info? 136 = some i ∧ i.zero = some z ∧ i.size = 256 ∧ i.bytes = 256 ∧ z.cells.size = 256 := by
  have h1 := Try.info136
  have h2 := Try.zero136
  cases hi : Try.prog.info? 136 with
  | none => rw [hi] at h1; cases h1
  | some i =>
    rw [hi] at h1 h2
    simp only [Option.map_some, Option.some.injEq, Prod.mk.injEq] at h1 h2
    exact ⟨i, _, rfl, h2, h1.1, h1.2, Array.size_replicate⟩
theorem Says.list {cs : Array Value} {n : Nat} {b : Nat → UInt8} (h : Says cs n b) (hn : n ≤ cs.size) : (cs.toList.take n).length = n ∧ (∀ u ∈ cs.toList.take n, u.oneCell' = true) ∧ ∀ (j : Nat) (u : Value), (cs.toList.take n)[j]? = some u → cs[j]? = some u ∧ j < n := by
  have hj : ∀ (j : Nat) (u : Value), (cs.toList.take n)[j]? = some u → cs[j]? = some u ∧ j < n := by
    intro j u hu
    rw [List.getElem?_take] at hu
    split at hu
    · exact ⟨by simpa using hu, by assumption⟩
    · cases hu
  refine ⟨by simp [hn], fun u hu => ?_, hj⟩
  obtain ⟨j, hju⟩ := List.mem_iff_getElem?.1 hu
  obtain ⟨h1, h2⟩ := hj j u hju
  rw [h j h2] at h1
  injection h1 with h1
  subst h1
  rfl
theorem Says.size {cs : Array Value} {n : Nat} {b : Nat → UInt8} (h : Says cs n b) : n ≤ cs.size := by
  cases hn : n with
  | zero => omega
  | succ m =>
    have := (Array.getElem?_eq_some_iff.1 (h m (by omega))).1
    omega
def CloneP (w : World) (n : Nat) (b : Nat → UInt8) (e : Ending) (w' : World) : Prop := ∃ g cap cs, e = .returned (.slice (some ⟨g, 0, none⟩) n cap) ∧ Blk w' g 136 cs ∧ Says cs (n * 256) b ∧ n ≤ cap ∧ cap ≤ maxLen ∧ Fr [] w w' ∧ w.heap.size ≤ g
set_option maxRecDepth 100000 in
set_option maxHeartbeats 400000 in
theorem sclone_any (w : World) (F n cap : Nat) (cs : Array Value) (b : Nat → UInt8) (hb : Blk w F 136 cs) (hs : Says cs (n * 256) b) (hn : n ≤ 160) (hn1 : 1 ≤ n) :
    Calls Try.prog 94 #[.slice (some ⟨F, 0, none⟩) n cap] w (CloneP w n b) := by
  obtain ⟨i0, z, hi0, hz0, hz1, hz2, hz3⟩ := frame_info
  have hnil := fun w => Lib.run_eql_slice_nil (P := Try.prog) w 128 136 (some ⟨F, 0, none⟩) n cap 0 0 Try.underlying128
  have Hm0 := Lib.hid (World.ownsRow_made (base := w.heap.size) (e := 136) (size := 256) w #[] 0 (Nat.le_refl _) (by simp [maxLen]) (by simp))
  obtain ⟨l1, l2, l3⟩ := hs.list hs.size
  have Hcell : Hid (∀ (j : Nat) (u : Value), (cs.toList.take (n * 256))[j]? = some u → (w.alloc (.cells #[] 136)).cell? ((⟨F, 0, none⟩ : Addr).add j) = some u) := Lib.hid (by
    intro j u hu
    rw [addr_add, Nat.zero_add, (hb.alloc (.cells #[] 136)).cell]
    exact (l3 j u hu).1)
  have L1 := Lib.hid l1
  have L2 := Lib.hid l2
  have L3 := Lib.hid l3
  have HS := Lib.hid hs
  have Hf0 := Lib.hid ((Fr.refl [] w).alloc (.cells #[] 136))
  have hb1 : 0 + n ≤ maxLen := by simp only [maxLen]; omega
  have hb2 : (0 + n) * 256 ≤ 140737488355328 := by omega
  clear hb hs l1 l2 l3
  generalize cs.toList.take (n * 256) = news at *
  go_enter Try.func94, Try.ntmps94
  go_wp2_with (at_builtin; go_must (refine wpList_append_own _ rfl (.tmp 5) (.tmp 6) 128 rfl w.heap.size 136 i0 z 256 256 Try.underlying128 hi0 hz0 hz1 hz2 hz3 (by omega) _ _ _ rfl Hm0.out _ n cap news rfl L1.out Hcell.out L2.out hb1 hb2 (by simp) ?_; intro v1 w1 hown1 hgrow1 hnn; have hf1 := Hf0.out.own Hm0.out hgrow1))
  go_ret
  have hv : v1 ≠ .slice none 0 0 := fun h => by have := (hnn.1 h).1; cases this
  rcases hown1.2 with ⟨h1, h2⟩ | ⟨g1, cap1, cur, rfl, h1, h2, h3, h4, h5, h6⟩
  · exact absurd h1 hv
  · refine ⟨g1, cap1, cur, by simp, h2, fun j hj => ?_, by omega, h4, hf1, h1⟩
    have h7 := (List.getElem?_eq_getElem (show j < news.length by rw [L1.out]; exact hj))
    have h8 := (L3.out j _ h7).1
    rw [HS.out j hj] at h8
    rw [List.nil_append] at h6
    rw [h8, ← h7, ← h6, List.getElem?_take]
    rw [if_pos (by simpa using hj)]
    simp
def ClP (w : World) (st : St) (e : Ending) (w' : World) : Prop := ∃ p F, e = .returned (ptr p) ∧ MemAt w' p F st ∧ Fr [] w w' ∧ w.heap.size ≤ p ∧ w.heap.size ≤ F
set_option maxHeartbeats 400000 in
theorem Clone_any (p F : Nat) (st : St) (w : World) (h : MemAt w p F st) : Calls Try.prog 67 #[ptr p] w (ClP w st) := by
  obtain ⟨cap, hc, hcap, hcm⟩ := h.hd.cell
  obtain ⟨cs, hb, hsay⟩ := h.says
  have h1 := h.hd.n1
  have h2 := h.hd.n2
  have HC := Lib.hid (sclone_any w F st.n cap cs st.b hb hsay h2 h1)
  clear h hb hsay
  go_enter Try.func67, Try.ntmps67
  go_wp2_with fail
  refine HC.out.mono ?_
  rintro e w1 ⟨g, cap1, cs1, rfl, hb1, hs1, hc1, hc2, hf1, hg1⟩
  have Hb := Lib.hid hb1
  have Hs := Lib.hid hs1
  have Hf := Lib.hid hf1
  have hz := hf1.size
  clear hb1 hs1 hf1
  go_wp2_with fail
  go_ret
  refine ⟨w1.heap.size, g, rfl, ⟨⟨⟨cap1, Blk.new _ _ _, hc1, hc2⟩, h1, h2⟩, cs1, Hb.out.alloc _, Hs.out⟩, Hf.out.alloc _, hz, hg1⟩
end Go.Proofs.Ytonongaakieciaa
