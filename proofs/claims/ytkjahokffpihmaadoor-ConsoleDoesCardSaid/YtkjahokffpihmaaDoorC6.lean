/- Bytes said onto the screen. -/
import Derived.Test.YtkjahokffpihmaaDoorC5
import Derived.Lib.ConvBytes
import Derived.Lib.AtoiErrMem
namespace Go.Proofs.YtkjahokffpihmaaDoor
open Go.RowKit
set_option linter.unusedVariables false
set_option linter.unusedSimpArgs false
set_option maxRecDepth 100000
theorem ssays_snoc (s : Sc) (t : ByteArray) {k : Nat} (hk : k < t.size) : ssays s (t.data.toList.take (k + 1)) = sdraw (ssays s (t.data.toList.take k)) t[k] := by
  rw [List.take_succ_eq_append_getElem (by simpa using hk), ssays_append]
  rfl
theorem conv_bytes (w : World) (t : ByteArray) : ∃ cap w', (convert 9 40 (.string t)).run Tryd.prog w = .ok (.slice (some ⟨w.heap.size, 0, none⟩) t.size cap) w' ∧ Fr [] w w' ∧ w'.heap.size = w.heap.size + 1 ∧
    (∀ j, (hj : j < t.size) → w'.cell? ⟨w.heap.size, j, none⟩ = some (.int .u8 ((t[j]).toNat : Int))) ∧ ∀ cs ty, ¬ Blk w' w.heap.size ty cs ∨ cs.size = 0 ∨ ty = 5 := by
  refine ⟨_, _, Lib.run_convert_string_bytes w 9 40 5 t Tryd.underlying9 Tryd.underlying40 Tryd.underlying5, Fr.of_below (Lib.bytesWorld_below w 5 t) (Nat.le_refl _), Lib.bytesWorld_size w 5 t, fun j hj => ?_, fun cs ty => ?_⟩
  · rw [Lib.bytesWorld_cell w 5 t j hj]
    congr 3
    rw [List.getD_eq_getElem?_getD, Array.getElem?_toList, Array.getElem?_eq_getElem (show j < t.data.size from hj)]
    rfl
  · by_cases h5 : ty = 5
    · exact .inr (.inr h5)
    · left
      intro h
      unfold Blk at h
      rw [Lib.bytesWorld_at_new] at h
      injection h with h
      injection h with _ h _
      exact h5 h.symm
set_option maxHeartbeats 2000000 in
theorem says_any (w : World) (c : Nat) (H : Array Value) (hH : Hd H) (s : Sc) (hs : s.Ok) (h : Blk w c 70 (scells H s)) (t : ByteArray) (ht : t.size ≤ maxLen) : Calls Tryd.prog 38 #[ptr c, .string t] w (ScP w c H (ssays s t.data.toList)) := by
  obtain ⟨cap, w1, hconv, hf1, hz1, hc1, -⟩ := conv_bytes w t
  have HB := Lib.hid (h.fr hf1 (by simp))
  have HF := Lib.hid hf1
  have HC1 := Lib.hid hc1
  have hcl : c < w.heap.size := h.lt
  have HS := Lib.hid hs
  have hts : t.size ≤ 9223372036854775807 := by simpa [maxLen] using ht
  clear h hf1 hc1 hs ht
  unfold ScP
  go_enter Tryd.func38, Tryd.ntmps38
  go_wp2_with fail
  clear hconv
  go_loopg [5, 9] t.size (fun gg u i wr => ∃ k : Nat, k + gg = t.size ∧ i = .int .i64 k ∧ Blk wr c 70 (scells H (ssays s (t.data.toList.take k))) ∧ Fr [c] w1 wr)
  case atStart => exact ⟨0, by omega, rfl, HB.out, Fr.refl _ _⟩
  case round =>
    obtain ⟨k, hk, rfl, hb, hf⟩ := hrel
    have Hk := Lib.hid hk
    by_cases hlt : k < t.size
    · have hlt' : (k : Int) < (t.size : Int) := by omega
      have hk0 : (0 : Int) ≤ (k : Int) := by omega
      have c5 := hf.cell_some (HC1.out k hlt) (by simp; omega)
      have HD := Lib.hid (sdraw_any wr c H hH (ssays s (t.data.toList.take k)) (ssays_ok HS.out _) hb t[k])
      rw [← ssays_snoc s t hlt] at HD
      have HFr := Lib.hid hf
      clear hb hf hk
      obtain ⟨s', hs'⟩ : ∃ v, ssays s (t.data.toList.take (k + 1)) = v := ⟨_, rfl⟩
      rw [hs'] at HD
      have HE := Lib.hid hs'
      clear hs'
      obtain ⟨tk, htk⟩ : ∃ v, t[k] = v := ⟨_, rfl⟩
      rw [htk] at c5 HD
      clear htk
      go_wp2_with (go_at_call 58; refine HD.out.mono ?_; rintro e w2 ⟨rfl, b2, f2⟩; have HN := Lib.hid (And.intro b2 (HFr.out.trans f2)); clear b2 f2)
      go_roundg (t.size - (k + 1))
      case measure => have := Hk.out; omega
      case rel =>
        rw [← HE.out] at HN
        exact ⟨k + 1, by have := Hk.out; omega, by go_num, HN.out.1, HN.out.2⟩
    · have hl : ¬ (k : Int) < (t.size : Int) := by omega
      have e : t.data.toList.take k = t.data.toList := List.take_of_length_le (by
        have : t.data.toList.length = t.size := rfl
        omega)
      rw [e] at hb
      have HN := Lib.hid hb
      have HFr := Lib.hid hf
      clear hb hf hk e
      go_wp2_with fail
      go_end0
      exact ⟨rfl, HN.out, (HF.out.mono (by simp)).trans HFr.out⟩
end Go.Proofs.YtkjahokffpihmaaDoor
