/- The reference's New. -/
import Derived.Test.YtdkihajajdhpnaaW21
namespace Go.Proofs.Ytdkihajajdhpnaa
open Go.RowKit
set_option linter.unusedVariables false
set_option linter.unusedSimpArgs false
attribute [local go_sem ↓] Go.wp_at_zero Go.wp_at_succ
set_option maxHeartbeats 400000 in
theorem rNew_bad (k : Int) (w : World) (h : k < 1 ∨ 160 < k) : Calls Try.prog 19 #[.int .i64 k] w fun e w' => e = .returned (.tuple #[.pointer none, .int .i64 80]) ∧ w = w' := by
  rcases h with h | h
  · go_enter Try.func19, Try.ntmps19
    go_wp2
    go_ret2
    exact ⟨rfl, rfl⟩
  · have h' : ¬ k < 1 := by omega
    go_enter Try.func19, Try.ntmps19
    go_wp2
    go_ret2
    exact ⟨rfl, rfl⟩
def zsV (k : Nat) : List Value := List.replicate k (.string zsS)
theorem frS_zero (n i : Nat) : frS ⟨n, fun _ => 0⟩ i = zsS := by
  have : frB ⟨n, fun _ => 0⟩ i = zs256 := by
    unfold frB zs256
    rw [List.eq_replicate_iff]
    exact ⟨by rw [List.length_map, List.length_range], fun x hx => by obtain ⟨_, _, rfl⟩ := List.mem_map.1 hx; rfl⟩
  unfold frS zsS
  rw [this]
def RNewP (w : World) (n : Nat) (e : Ending) (w' : World) : Prop := ∃ q G, e = .returned (.tuple #[ptr q, .int .i64 0]) ∧ RMem w' q G ⟨n, fun _ => 0⟩ ∧ Fr [] w w' ∧ w.heap.size ≤ q ∧ w.heap.size ≤ G
set_option maxRecDepth 100000 in
set_option maxHeartbeats 1000000 in
theorem rNew_ok (n : Nat) (w : World) (h1 : 1 ≤ n) (h2 : n ≤ 160) : Calls Try.prog 19 #[.int .i64 n] w (RNewP w n) := by
  obtain ⟨i0, hi0, hz0, hz1, hz2⟩ := info3 Try.info9
  have d1 : ¬ (n : Int) < 1 := by omega
  have d2 : ¬ (160 : Int) < (n : Int) := by omega
  have Hz := Lib.hid fun W => noughts_any W
  go_enter Try.func19, Try.ntmps19
  go_wp2_with fail
  have Hb0 := Lib.hid (Blk.new w 60 #[.slice none 0 0])
  have Hf0 := Lib.hid ((Fr.refl [] w).alloc (.cells #[.slice none 0 0] 60))
  go_loopg [5] n (fun gg i wr => ∃ (k : Nat) (A : Option Addr) (c : Nat), k + gg = n ∧ i = .int .i64 k ∧ Blk wr w.heap.size 60 #[.slice A k c] ∧ wr.ownsRow (w.heap.size + 1) 9 1 (.slice A k c) k (zsV k) ∧ Fr [] w wr)
  case atStart => exact ⟨0, none, 0, by omega, rfl, Hb0.out, World.ownsRow_nil _ _ _ _, Hf0.out⟩
  case round =>
    obtain ⟨k, A, c, hk, rfl, hb, ho, hf⟩ := hrel
    have Hk := Lib.hid hk
    have Hf := Lib.hid hf
    have HB := Lib.hid hb
    have HO := Lib.hid ho
    by_cases hlt : k < n
    · have hki : (k : Int) < (n : Int) := by omega
      have hc0 := hb.cell 0
      simp at hc0
      have hkk : k + 1 ≤ maxLen := by simp only [maxLen]; omega
      have hkb : (k + 1) * 16 ≤ 140737488355328 := by omega
      have hlw : w.heap.size < wr.heap.size := hb.lt
      have HV : Hid (zsV (k + 1) = zsV k ++ [.string zsS]) := Lib.hid List.replicate_succ'
      have hfq : wr.frozen? ⟨w.heap.size, 0, none⟩ = false := hb.frozen 0
      clear hk hb ho hf
      generalize zsS = ZS at *
      generalize hZk : zsV k = ZV at *
      have HZk := Lib.hid hZk
      clear hZk
      go_wp2_with fail
      go_region_law (first
        | (go_simp; go_at_call 32; refine (Hz.out _).mono ?_; rintro e w3 ⟨rfl, hf3⟩
           have hF3 : Fr [] wr w3 := ((Fr.refl [] wr).drew).trans hf3
           have hc3 := hF3.cell_some hc0 (by simp)
           have hs3 : w.heap.size < w3.heap.size := by have := hF3.size; omega)
        | (refine step_append_lies _ rfl (.tmp 23) (.tmp 25) 33 rfl (w.heap.size + 1) 9 i0 (.string ⟨#[]⟩) 1 16 Try.underlying33 hi0 hz0 hz1 hz2 rfl (by omega) (.slice A k c) k ZV (by simp [Act.eval]) (own_fr HO.out (hF3.alloc (.cells #[.string ZS] 9)) (by simp)) ⟨w3.heap.size, 0, none⟩ 1 1 [.string ZS] (by simp [Act.eval]) rfl (news1 ((Blk.new w3 9 #[.string ZS]).cell 0)) (by simp [Value.oneCell']) (by omega) hkk hkb (by simp; omega) (w3.heap.size + 1) (by simp) ?_
           intro g cc w4 ho4 hg4 hat4 hlt4
           have hB4 := (HB.out.fr (hF3.alloc (.cells #[.string ZS] 9)) (by simp)).fr (Fr.of_own hg4) (fun hk => by have := (own_blk (own_fr HO.out (hF3.alloc (.cells #[.string ZS] 9)) (by simp)) _ hk).1; omega)
           have hF4 : Fr [] w w4 := (Hf.out.trans (hF3.alloc (.cells #[.string ZS] 9))).step (Fr.of_own hg4) (fun j hj => .inr (by have := (own_blk (own_fr HO.out (hF3.alloc (.cells #[.string ZS] 9)) (by simp)) _ hj).1; omega))
           have hc4 := hB4.cell 0
           have hfz4 := hB4.frozen 0
           simp at hc4)
        | fail)
      all_goals
        rw [← HV.out] at ho4
        have hbs := hB4.set_ 0 (.slice (some ⟨g, 0, none⟩) (k + 1) cc)
        have HB5 : Hid (Blk (w4.setCell ⟨w.heap.size, 0, none⟩ (.slice (some ⟨g, 0, none⟩) (k + 1) cc)) w.heap.size 60 #[.slice (some ⟨g, 0, none⟩) (k + 1) cc]) := Lib.hid hbs
        have HO5 := Lib.hid (own_fr ho4 ((Fr.refl [w.heap.size] w4).setCell (p := ⟨w.heap.size, 0, none⟩) (.inl (by simp)) (.slice (some ⟨g, 0, none⟩) (k + 1) cc)) (fun j hj cs hbj => by
          simp at hj
          subst hj
          exact absurd (hB4.eq hbj).1 (by decide)))
        have HF5 := Lib.hid (hF4.setCell (p := ⟨w.heap.size, 0, none⟩) (.inr (Nat.le_refl _)) (.slice (some ⟨g, 0, none⟩) (k + 1) cc))
        clear ho4 hg4 hat4 hlt4 hB4 hF4 hbs hc4 hfz4 hf3 hF3 hc3 hs3
        go_wp2_with fail
        go_roundg (n - (k + 1))
        case measure => have := Hk.out; omega
        case rel => exact ⟨k + 1, some ⟨g, 0, none⟩, cc, by have := Hk.out; omega, by go_num, HB5.out, HO5.out, HF5.out⟩
    · have hki : ¬ (k : Int) < (n : Int) := by omega
      obtain rfl : n = k := by omega
      clear hk hb ho hf
      go_wp2_with fail
      go_ret2
      rcases HO.out.2 with ⟨_, h0⟩ | ⟨g, cap, cur, hv, hbg, hh, h3, h4, h5, h6⟩
      · omega
      · injection hv with hA _ hc
        subst hA; subst hc
        refine ⟨w.heap.size, g, rfl, ⟨⟨⟨c, HB.out, h3, h4⟩, h1, h2⟩, cur, hh, fun i hi => ?_⟩, Hf.out, Nat.le_refl _, by omega⟩
        have hi' : i < n := hi
        rw [frS_zero]
        have h7 : (cur.toList.take (n * 1))[i]? = some (.string zsS) := by
          rw [h6]
          unfold zsV
          rw [List.getElem?_replicate, if_pos hi']
        rw [List.getElem?_take, if_pos (by omega)] at h7
        rw [← h7]
        exact (Array.getElem?_toList).symm
theorem rNew_any (n : Nat) (w : World) (h1 : 1 ≤ n) (h2 : n ≤ 160) : Calls Try.prog 19 #[.int .i64 n] w (RNewP w n) := rNew_ok n w h1 h2
end Go.Proofs.Ytdkihajajdhpnaa
